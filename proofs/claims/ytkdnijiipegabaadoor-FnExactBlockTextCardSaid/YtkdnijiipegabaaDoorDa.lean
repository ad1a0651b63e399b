/- The functions of laws/exact.go for strings and moves. -/
import Derived.Test.YtkdnijiipegabaaDoorEb
namespace Go.Proofs.YtkdnijiipegabaaDoor.B
open Go.RowKit Go.Proofs
set_option linter.unusedVariables false
set_option linter.unusedSimpArgs false
variable {E : Env}

theorem impl_in_ok (n l h : Int) (H : Hp) : AC Tryd.prog E 20 [.int .i64 n, .int .i64 l, .int .i64 h] H (fun v H' => v = .bool (decide (l ≤ n ∧ n ≤ h)) ∧ H' = H) := by
  refine AC_by fol (CLe.refl (AC Tryd.prog E)) h_impl_in ?_
  simp [c_impl_in]
  refine g_split (fun hq => ?_) (fun hq => ?_) (by simp) <;> simp at hq <;> simp [hq]
  omega

/-- The size of strings. -/
def szL (xs : List ByteArray) : Nat := (xs.map ByteArray.size).sum
theorem szL_take (xs : List ByteArray) {i : Nat} (h : i < xs.length) : szL (xs.take (i + 1)) = szL (xs.take i) + xs[i].size := by
  unfold szL
  rw [List.take_succ_eq_append_getElem h, List.map_append, List.sum_append]
  simp
theorem szL_le (xs : List ByteArray) (i : Nat) : szL (xs.take i) ≤ szL xs := by
  have h : szL xs = szL (xs.take i) + szL (xs.drop i) := by
    unfold szL
    rw [← List.sum_append, ← List.map_append, List.take_append_drop]
  omega

/-- Moves. -/
abbrev Mv := Int × ByteArray
def mvRow (m : Mv) : List AV := [.int .i64 m.1, .str m.2]
def Mvs (H : Hp) (v : AV) (ms : List Mv) : Prop := Rows 2 H v (ms.map mvRow)
theorem Mvs.le {H H' : Hp} {v : AV} {xs : List Mv} (h : Mvs H v xs) (hle : HLe H H') : Mvs H' v xs := Rows.le h hle
theorem Mvs.len {H : Hp} {v : AV} {xs : List Mv} (h : Mvs H v xs) : lenV v = .int .i64 xs.length := by simpa using Rows.len h
theorem Mvs.slc {H : Hp} {v : AV} {xs : List Mv} (h : Mvs H v xs) : slC v := Rows.slc h
theorem Mvs.get {H : Hp} {v : AV} {xs : List Mv} (h : Mvs H v xs) {j : Nat} (hj : j < xs.length) :
    ∃ o i ob, v = .sl o i xs.length ∧ H.at o = some ob ∧ ob.esz = 2 ∧ ob.rows[i + j]? = some [.int .i64 xs[j].1, .str xs[j].2] := by
  obtain ⟨o, i, ob, h1, h2, h3, h4⟩ := Rows.get h (j := j) (by simpa using hj)
  exact ⟨o, i, ob, by simpa using h1, h2, h3, by simpa [mvRow] using h4⟩

def szM (xs : List Mv) : Nat := szL (xs.map (·.2))
theorem szM_take (xs : List Mv) {i : Nat} (h : i < xs.length) : szM (xs.take (i + 1)) = szM (xs.take i) + xs[i].2.size := by
  have := szL_take (xs.map (·.2)) (i := i) (by simpa using h)
  simpa [szM, List.map_take] using this
theorem szM_le (xs : List Mv) (i : Nat) : szM (xs.take i) ≤ szM xs := by
  have := szL_le (xs.map (·.2)) i
  simpa [szM, List.map_take] using this

/-- The digits of a mark. -/
def markB (k : Int) : ByteArray := strOf [IntKind.u8.wrap (IntKind.i64.wrap (48 + k.tmod 10))]
def markL : Nat → Int → ByteArray → ByteArray
  | 0, _, out => out
  | f + 1, k, out => if 0 < k then markL f (IntKind.i64.wrap (k.tdiv 10)) (markB k ++ out) else out
def markT (k : Int) : ByteArray := if k ≤ 0 then ⟨#[109, 48]⟩ else ⟨#[109]⟩ ++ markL k.toNat k ⟨#[]⟩
theorem markB_size (k : Int) : (markB k).size = 1 := by simp [markB, strOf, ByteArray.size_push]
theorem markL_size : ∀ (f : Nat) (k : Int) (out : ByteArray), (markL f k out).size ≤ out.size + f
  | 0, k, out => by simp [markL]
  | f + 1, k, out => by
    simp only [markL]
    split
    · have := markL_size f (IntKind.i64.wrap (k.tdiv 10)) (markB k ++ out)
      rw [ByteArray.size_append, markB_size] at this
      omega
    · omega
theorem tdiv10 {k : Int} (h : 0 < k) (h2 : k < 9223372036854775807) : IntKind.i64.wrap (k.tdiv 10) = k / 10 := by
  have e : k.tdiv 10 = k / 10 := Int.tdiv_eq_ediv_of_nonneg (by omega)
  rw [e, wrap64 (by omega) (by omega)]

def markR (k : Int) (j : Nat) : List AV := [.str (markT (k + j))]
end Go.Proofs.YtkdnijiipegabaaDoor.B

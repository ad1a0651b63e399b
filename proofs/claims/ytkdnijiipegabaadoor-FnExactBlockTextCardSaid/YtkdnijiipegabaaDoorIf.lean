/- A law's row where a table of the library is read. -/
import Derived.Test.YtkdnijiipegabaaDoorBu
import Derived.Test.YtkdnijiipegabaaDoorIb
namespace Go.Proofs.YtkdnijiipegabaaDoor.B
open Go.RowKit Go.ChangeShapes
set_option linter.unusedVariables false
set_option linter.unusedSimpArgs false

section
variable {HH : Type} {enc : TypeId × Value → HH} {P : Program}

/-- A law that returns true and leaves its arguments avs they were. -/
theorem row_of_ACE (hl : laidOutB P = true) {f : Nat} {fn : Func} {s : ChangeSpec} {W : World} {base : Nat} {args : Array Value} {ds gs : List (DataW HH)} {before : List MemPlace} {tb : TypeId}
    (hts : (fn.params.toList.all fun t => (shT P 6 t).isSome && (P.readableRec t && decide (t < P.types.size))) = true) (hres : fn.resultTypes = #[tb]) (htb : P.underlying tb = some .bool)
    (hval : ∀ (j : Nat) t v, fn.params[j]? = some t → args[j]? = some v → Value.okWide P W .any base t v) (hv : s.vars = [])
    (hW : DataW.Whole enc P fn.params.toList s.vars false W args.toList ds gs before)
    (hsz : (DataW.weightsEach P (fn.params.toList ++ s.plain.varTypes P) (ds ++ gs)).all (· ≤ reachBytes) = true)
    (hspec : ds.length = fn.params.size → s.fn HH (ds ++ []) = { results := [.lit (.bool true)], args := ds })
    (E : Env) (hB : E.B0 = W.heap.size) (hG : E.G W) (hac : ∀ avs H, ArgsOf P H fn.params.toList avs → AC P E f avs H (fun v _ => v = .bool true)) :
    Calls P f args W fun e W' => ∃ v, e = .returned v ∧ s.post enc P fn false true false false W args v W' := by
  have hlt := hW.lt
  have hW0 := hW
  obtain ⟨p, q, hA, hV, rfl, hfz, hnd⟩ := hW
  rw [hv] at hV
  cases gs with
  | cons g gs => exact hV.elim
  | nil =>
    have hq : q = [] := hV
    have hts1 : (fn.params.toList.all fun t => (shT P 6 t).isSome) = true := by
      rw [List.all_eq_true] at hts ⊢
      intro t ht
      have := hts t ht
      simp only [Bool.and_eq_true] at this
      exact this.1
    have hts2 : (fn.params.toList.all fun t => P.readableRec t && decide (t < P.types.size)) = true := by
      rw [List.all_eq_true] at hts ⊢
      intro t ht
      have := hts t ht
      simp only [Bool.and_eq_true] at this ⊢
      exact this.2
    have hvt : s.plain.varTypes P = [] := by simp [hv, ChangeSpec.plain, DataSpec.varTypes]
    rw [hvt] at hsz
    simp only [List.append_nil] at hsz
    have hE : HR E (fun _ => none) [] W := ⟨by simp, by simp, by simp, by simp, by rw [hB]; exact Nat.le_refl _, hG⟩
    obtain ⟨φ, K, avs, p1, h1, r1, v1, t1, l1⟩ := got_args (enc := enc) (P := P) (w := W) (E := E) (base := base) fn.params.toList args.toList ds p hts1 hA (fun j t v ht hv => hval j t v (by simpa using ht) (by simpa using hv)) hsz _ _ hE (by intro o ob ho; simp at ho)
    have hsp := hspec (by simpa using l1)
    have hcall := (hac avs ([] ++ K) t1).2 φ W args.toList v1 h1
    rw [Array.toArray_toList] at hcall
    refine hcall.mono (fun e W' he => ?_)
    cases e with
    | panicked c => exact he.elim
    | outgrown => exact he.elim
    | returned u =>
      obtain ⟨φ', H', v, _, _, bel, hvu, hvv⟩ := he
      have hu : u = .bool true := by
        rw [hvv] at hvu
        exact hvu
      subst hu
      have bel' : Below W.heap.size W W' := by rw [← hB]; exact bel
      refine ⟨_, rfl, ds, [], _, [], p, [], hW0, ?_, ?_, ?_, bel'.frame _, fun h => by cases h⟩
      · rw [hsp, hres]
        exact trodAll_mk1 (shut_bool htb true)
      · rw [hsp]
        exact args_again hl bel' _ _ _ _ hts2 hA (fun x hx => hlt x (List.mem_append_left _ hx))
      · rw [hsp, hv]
        rfl
end

/-- Where the call begins the table lies as the program lays it, and below that nothing is written. -/
def tabE (W : World) : Env := ⟨W.heap.size, fun w => Lib.TabIs Tryd.prog w "internal/strconv.uint64pow10" .u64 Lib.pow10Tab ∧ ∀ g, Tryd.prog.globalNamed "internal/strconv.uint64pow10" = some g → g < W.heap.size, fun w w' hb hg => by
  refine ⟨?_, hg.2⟩
  have h := hg.1
  unfold Lib.TabIs World.var? at h ⊢
  cases hn : Tryd.prog.globalNamed "internal/strconv.uint64pow10" with
  | none => rw [hn] at h; cases h
  | some g =>
    rw [hn] at h
    simp only [Option.bind_some] at h ⊢
    rw [hb.block g (hg.2 g hn)]
    exact h⟩
theorem tabE_tab (W : World) : Tab10 (tabE W) := fun w h => h.1
theorem tabE_G {W : World} (h : Lib.TabIs Tryd.prog W "internal/strconv.uint64pow10" .u64 Lib.pow10Tab) : (tabE W).G W := by
  refine ⟨h, fun g hg => ?_⟩
  unfold Lib.TabIs World.var? at h
  rw [hg] at h
  simp only [Option.bind_some] at h
  rcases Nat.lt_or_ge g W.heap.size with h' | h'
  · exact h'
  · rw [Array.getElem?_eq_none h'] at h; cases h

end Go.Proofs.YtkdnijiipegabaaDoor.B

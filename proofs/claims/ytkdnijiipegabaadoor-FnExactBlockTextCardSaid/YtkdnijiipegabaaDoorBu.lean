/- The program logic: a law's row out of what is known of its code. -/
import Derived.Test.YtkdnijiipegabaaDoorBt
import Derived.WalkKit
import Derived.ProofKit
import Derived.OpenShut
import Derived.ChangeOld
import Derived.Carry
namespace Go.Proofs.YtkdnijiipegabaaDoor.B
open Go.RowKit Go.ChangeShapes
set_option linter.unusedVariables false
set_option linter.unusedSimpArgs false

section
variable {HH : Type} {enc : TypeId × Value → HH} {P : Program}

/-- Nothing is known of the world but where it begins. -/
def topE (W : World) : Env := ⟨W.heap.size, fun _ => True, fun _ _ _ _ => trivial⟩

theorem args_again (hl : laidOutB P = true) {W W' : World} (hb : Below W.heap.size W W') : ∀ (ts : List TypeId) (vs : List Value) (ds : List (DataW HH)) (ps : List MemPlace),
    (ts.all fun t => P.readableRec t && decide (t < P.types.size)) = true → DataW.TrodAll enc P W 0 (fun _ => true) true ts vs ds ps → (∀ x ∈ ps, x.block < W.heap.size) →
    DataW.TrodAll enc P W' 0 (fun b => decide (b < W.heap.size)) true ts vs ds ps
  | [], [], [], _, _, h, _ => h
  | t :: ts, v :: vs, d :: ds, ps, hr, ⟨p, q, h0, h1, e⟩, hlt => by
    simp only [List.all_cons, Bool.and_eq_true] at hr
    obtain ⟨⟨r1, r2⟩, hr⟩ := hr
    subst e
    exact ⟨p, q, Below.trod hl r1 (of_decide_eq_true r2) h0 hb (fun x hx => hlt x (List.mem_append_left _ hx)), args_again hl hb ts vs ds q hr h1 (fun x hx => hlt x (List.mem_append_right _ hx)), rfl⟩

/-- A law that returns true and leaves its arguments avs they were. -/
theorem row_of_AC (hl : laidOutB P = true) {f : Nat} {fn : Func} {s : ChangeSpec} {W : World} {base : Nat} {args : Array Value} {ds gs : List (DataW HH)} {before : List MemPlace} {tb : TypeId}
    (hts : (fn.params.toList.all fun t => (shT P 6 t).isSome && (P.readableRec t && decide (t < P.types.size))) = true) (hres : fn.resultTypes = #[tb]) (htb : P.underlying tb = some .bool)
    (hval : ∀ (j : Nat) t v, fn.params[j]? = some t → args[j]? = some v → Value.okWide P W .any base t v) (hv : s.vars = [])
    (hW : DataW.Whole enc P fn.params.toList s.vars false W args.toList ds gs before)
    (hsz : (DataW.weightsEach P (fn.params.toList ++ s.plain.varTypes P) (ds ++ gs)).all (· ≤ reachBytes) = true)
    (hspec : ds.length = fn.params.size → s.fn HH (ds ++ []) = { results := [.lit (.bool true)], args := ds })
    (hac : ∀ avs H, ArgsOf P H fn.params.toList avs → AC P (topE W) f avs H (fun v _ => v = .bool true)) :
    Calls P f args W fun e W' => ∃ v, e = .returned v ∧ s.post enc P fn false true false false W args v W' := by
  have hlt := hW.lt
  have hW0 := hW
  obtain ⟨p, q, hA, hV, rfl, hfz, hnd⟩ := hW
  rw [hv] at hV
  cases gs with
  | cons g gs => exact hV.elim
  | nil =>
    have hq : q = [] := hV
    have hts1 : (fn.params.toList.all fun t => (shT P 6 t).isSome) = true := by
      rw [List.all_eq_true] at hts ⊢
      intro t ht
      have := hts t ht
      simp only [Bool.and_eq_true] at this
      exact this.1
    have hts2 : (fn.params.toList.all fun t => P.readableRec t && decide (t < P.types.size)) = true := by
      rw [List.all_eq_true] at hts ⊢
      intro t ht
      have := hts t ht
      simp only [Bool.and_eq_true] at this ⊢
      exact this.2
    have hvt : s.plain.varTypes P = [] := by simp [hv, ChangeSpec.plain, DataSpec.varTypes]
    rw [hvt] at hsz
    simp only [List.append_nil] at hsz
    have hE : HR (topE W) (fun _ => none) [] W := ⟨by simp, by simp, by simp, by simp, Nat.le_refl _, trivial⟩
    obtain ⟨φ, K, avs, p1, h1, r1, v1, t1, l1⟩ := got_args (enc := enc) (P := P) (w := W) (E := topE W) (base := base) fn.params.toList args.toList ds p hts1 hA (fun j t v ht hv => hval j t v (by simpa using ht) (by simpa using hv)) hsz _ _ hE (by intro o ob ho; simp at ho)
    have hsp := hspec (by simpa using l1)
    have hcall := (hac avs ([] ++ K) t1).2 φ W args.toList v1 h1
    rw [Array.toArray_toList] at hcall
    refine hcall.mono (fun e W' he => ?_)
    cases e with
    | panicked c => exact he.elim
    | outgrown => exact he.elim
    | returned u =>
      obtain ⟨φ', H', v, _, _, bel, hvu, hvv⟩ := he
      have hu : u = .bool true := by
        rw [hvv] at hvu
        exact hvu
      subst hu
      have bel' : Below W.heap.size W W' := bel
      refine ⟨_, rfl, ds, [], _, [], p, [], hW0, ?_, ?_, ?_, bel'.frame _, fun h => by cases h⟩
      · rw [hsp, hres]
        exact trodAll_mk1 (shut_bool htb true)
      · rw [hsp]
        exact args_again hl bel' _ _ _ _ hts2 hA (fun x hx => hlt x (List.mem_append_left _ hx))
      · rw [hsp, hv]
        rfl
end

/-! ### The arguments, kind by kind -/

theorem ArgsOf.cons {P : Program} {H : Hp} {t : TypeId} {ts : List TypeId} {vs : List AV} (h : ArgsOf P H (t :: ts) vs) {sh : List Sh} {b : Bool} (hs : shT P 6 t = some sh) (hb : isAgg P t = b) :
    ∃ v us, vs = v :: us ∧ ArgOf H sh b v ∧ ArgsOf P H ts us := by
  obtain ⟨v, us, sh', h1, h2, h3, h4⟩ := h
  rw [hs] at h2
  cases h2
  rw [hb] at h3
  exact ⟨v, us, h1, h3, h4⟩

theorem rows_map {α : Type} {f : α → List AV} {Q : α → Prop} : ∀ {rows : List (List AV)}, (∀ r ∈ rows, ∃ x, r = f x ∧ Q x) → ∃ xs : List α, rows = xs.map f ∧ ∀ x ∈ xs, Q x
  | [], _ => ⟨[], rfl, by simp⟩
  | r :: rows, h => by
    obtain ⟨x, hx, hq⟩ := h r (by simp)
    obtain ⟨xs, h1, h2⟩ := rows_map (fun r hr => h r (List.mem_cons_of_mem _ hr))
    refine ⟨x :: xs, by rw [h1, hx]; rfl, fun y hy => ?_⟩
    rcases List.mem_cons.1 hy with rfl | hy
    · exact hq
    · exact h2 y hy

theorem reach_eq : reachBytes = 140737488351232 := rfl
theorem Ty.str {H : Hp} {v : AV} (h : Ty H .ks v) : ∃ s, v = .str s ∧ s.size ≤ 140737488351232 := h
theorem Ty.int {H : Hp} {v : AV} (h : Ty H (.ki .i64) v) : ∃ n, v = .int .i64 n ∧ -9223372036854775808 ≤ n ∧ n < 9223372036854775808 := by
  obtain ⟨n, h1, h2⟩ := h
  refine ⟨n, h1, ?_⟩
  have h3 : IntKind.i64.min ≤ n ∧ n ≤ IntKind.i64.max := by simpa [Lit.wf] using h2
  have e1 : IntKind.i64.min = -9223372036854775808 := rfl
  have e2 : IntKind.i64.max = 9223372036854775807 := rfl
  omega
theorem Ty.bool {H : Hp} {v : AV} (h : Ty H .kb v) : ∃ q, v = .bool q := h
theorem Ty.u8 {H : Hp} {v : AV} (h : Ty H (.ki .u8) v) : ∃ n : Int, v = .int .u8 n ∧ 0 ≤ n ∧ n < 256 := by
  obtain ⟨n, h1, h2⟩ := h
  refine ⟨n, h1, ?_⟩
  have h3 : IntKind.u8.min ≤ n ∧ n ≤ IntKind.u8.max := by simpa [Lit.wf] using h2
  have e1 : IntKind.u8.min = 0 := rfl
  have e2 : IntKind.u8.max = 255 := rfl
  omega
theorem Tys.cons {H : Hp} {s : Sh} {ss : List Sh} {vs : List AV} (h : Tys H (s :: ss) vs) : ∃ v us, vs = v :: us ∧ Ty H s v ∧ Tys H ss us := h
theorem Tys.nil {H : Hp} {vs : List AV} (h : Tys H [] vs) : vs = [] := h
theorem Ty.sl {H : Hp} {e : List Sh} {v : AV} (h : Ty H (.kl e) v) : ∃ rows, Rows e.length H v rows ∧ rows.length ≤ 140737488351232 ∧ ∀ r ∈ rows, Tys H e r := h
theorem ArgOf.one {H : Hp} {s : Sh} {v : AV} (h : ArgOf H [s] false v) : Ty H s v := by
  obtain ⟨s', h1, h2⟩ := h
  cases h1
  exact h2
theorem ArgOf.ag {H : Hp} {sh : List Sh} {v : AV} (h : ArgOf H sh true v) : ∃ avs, v = .ag avs ∧ Tys H sh avs := h
theorem ArgsOf.nil {P : Program} {H : Hp} {vs : List AV} (h : ArgsOf P H [] vs) : vs = [] := h

theorem Ty.strs {H : Hp} {v : AV} (h : Ty H (.kl [.ks]) v) : ∃ xs : List ByteArray, Strs H v xs ∧ xs.length ≤ 140737488351232 ∧ ∀ s ∈ xs, s.size ≤ 140737488351232 := by
  obtain ⟨rows, h1, h2, h3⟩ := h.sl
  obtain ⟨xs, rfl, hq⟩ := rows_map (f := fun s => [AV.str s]) (Q := fun s => s.size ≤ 140737488351232) (fun r hr => by
    obtain ⟨v, us, rfl, a1, a2⟩ := (h3 r hr).cons
    obtain ⟨s, rfl, hs⟩ := a1.str
    rw [a2.nil]
    exact ⟨s, rfl, hs⟩)
  exact ⟨xs, h1, by simpa using h2, hq⟩

end Go.Proofs.YtkdnijiipegabaaDoor.B

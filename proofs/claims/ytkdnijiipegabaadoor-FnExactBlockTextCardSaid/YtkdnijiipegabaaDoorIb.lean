/- strconv.Itoa, out of its contract in the library. -/
import Derived.Test.YtkdnijiipegabaaDoorEa
import Derived.Test.YtkdnijiipegabaaDoorCz
import Derived.Test.YtkdnijiipegabaaDoorBw
import Derived.Test.YtkdnijiipegabaaDoorSi
import Derived.Shelf.Strconv.Itoa3
namespace Go.Proofs.YtkdnijiipegabaaDoor.B
open Go.RowKit Go.Proofs
set_option linter.unusedVariables false
set_option linter.unusedSimpArgs false
variable {E : Env}

/-- The table of the powers of ten lies as the program lays it. -/
def Tab10 (E : Env) : Prop := ∀ w, E.G w → Lib.TabIs Tryd.prog w "internal/strconv.uint64pow10" .u64 Lib.pow10Tab
theorem below_grow (w : World) (k : Nat) (os : Array Obj) : Below w.heap.size w (Sort.grow (w.drewN k) os) := by
  refine ⟨rfl, rfl, rfl, ?_, fun i hi => ?_⟩
  · show w.heap.size ≤ (w.heap ++ os).size
    rw [Array.size_append]
    omega
  · show (w.heap ++ os)[i]? = w.heap[i]?
    rw [Array.getElem?_append_left hi]
/-- A call that makes new blocks alone. -/
theorem HR.grown {φ : Phi} {H : Hp} {w w' : World} (h : HR E φ H w) (hb : Below w.heap.size w w') : HR E φ H w' ∧ Below E.B0 w w' := by
  have hb' := hb.mono h.base
  exact ⟨h.keep hb' (fun o ob p ho hp => hb.block p.b (h.blk o p hp)), hb'⟩
theorem Itoa_ok (hE : Tab10 E) (n : Int) (H : Hp) (h : -9223372036854775808 ≤ n ∧ n < 9223372036854775808) : AC Tryd.prog E 25 [.int .i64 n] H (fun v H' => v = .str (dec n) ∧ H' = H) := by
  refine ⟨?_, fun φ w vals hv hH => ?_⟩
  · exact ⟨_, _, Tryd.func25, by kernel_rfl, rfl⟩
  · have e : vals = [.int .i64 n] := by
      obtain ⟨v, vs, rfl, h1, h2⟩ := hv
      have h1 : v = .int .i64 n := h1
      have h2 : vs = [] := h2
      rw [h1, h2]
    subst e
    have hc := Any.strconv_Itoa Tryd.laysItoa n h.1 (by omega) w (hE w hH.glob)
    refine Calls.mono hc ?_
    rintro e w' ⟨rfl, k, os, rfl⟩
    obtain ⟨h1, h2⟩ := hH.grown (below_grow w k os)
    exact ⟨φ, H, .str (dec n), fun _ _ h => h, h1, h2, rfl, rfl, rfl⟩

end Go.Proofs.YtkdnijiipegabaaDoor.B

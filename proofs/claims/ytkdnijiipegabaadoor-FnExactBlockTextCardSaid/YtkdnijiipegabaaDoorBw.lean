/- The program logic over the seat's program: functions by their codes, calls read off a table. -/
import Derived.Test.YtkdnijiipegabaaDoorBv
import Derived.Test.YtkdnijiipegabaaDoorCz
namespace Go.Proofs.YtkdnijiipegabaaDoor.B
open Go.RowKit Go.Proofs
set_option linter.unusedVariables false
set_option linter.unusedSimpArgs false
variable {E : Env}

/-- A function whose result holds no memory. -/
theorem AC_byp {C : CallP} (hC : CLe C (AC Tryd.prog E)) {f : Nat} {cf : CF} (hc : compF Tryd.prog f = some cf) {args : List AV} {H : Hp} {r : AV} (hp : r.plain = true) (h : W C cf.body (endX cf.res (fun v H' => v = r ∧ HLe H H')) (initT args) H) :
    AC Tryd.prog E f args H (fun v H' => v = r ∧ H' = H) := by
  refine AC.gc ((AC_by fol hC hc h).mono (fun v H' e => ⟨e.2, by rw [e.1]; exact hp, e.1, rfl⟩))
theorem CLe.refl (C : CallP) : CLe C C := fun _ _ _ _ h => h
theorem wrapN {i : Nat} (h : i < 9223372036854775807) : IntKind.i64.wrap ((i : Int) + 1) = ((i + 1 : Nat) : Int) := wrap64 (by omega) (by omega)

/-- Calls read off a table, else by what is known of them. -/
def tC (T : Nat → List AV → Option AV) (C : CallP) : CallP := fun f args H K => match T f args with | some r => K r H | none => C f args H K
def TabOK (T : Nat → List AV → Option AV) (P : Program) (E : Env) : Prop := ∀ f args r H, T f args = some r → AC P E f args H (fun v H' => v = r ∧ H' = H)
theorem tC_le {T : Nat → List AV → Option AV} {P : Program} (h : TabOK T P E) : CLe (tC T (AC P E)) (AC P E) := fun f args H K hk => by
  unfold tC at hk
  split at hk
  · rename_i r e
    exact (h f args r H e).mono (fun v H' hh => by rw [hh.1, hh.2]; exact hk)
  · exact hk
theorem tC_mono {T : Nat → List AV → Option AV} {C : CallP} (h : CMono C) : CMono (tC T C) := fun f args H K K' hk hh => by
  unfold tC at hh ⊢
  split at hh
  · exact hk _ _ hh
  · exact h f args H K K' hk hh

theorem cg_use {T : Nat → List AV → Option AV} {P : Program} {f : Nat} {args : List AV} {H H2 : Hp} {r : AV} {d : Option Nat} {ag} {p : Plan} {t : Tm} {K : Tm → Hp → Prop} (h : AC P E f args H (fun v H' => v = r ∧ H' = H2))
    (hk : againG ag (updO t d r) H2 ∧ RgP (tC T (AC P E)) p (updO t d r) H2 K) (hT : T f args = none := by rfl) : callG (tC T (AC P E)) f args d ag p t H K := by
  unfold callG tC
  rw [hT]
  exact h.mono (fun v H' e => by rw [e.1, e.2]; exact hk)
theorem cg_ex {T : Nat → List AV → Option AV} {P : Program} {f : Nat} {args : List AV} {H : Hp} {R : AV → Hp → Prop} {d : Option Nat} {ag} {p : Plan} {t : Tm} {K : Tm → Hp → Prop} (h : AC P E f args H R)
    (hk : ∀ v H', R v H' → againG ag (updO t d v) H' ∧ RgP (tC T (AC P E)) p (updO t d v) H' K) (hT : T f args = none := by rfl) : callG (tC T (AC P E)) f args d ag p t H K := by
  unfold callG tC
  rw [hT]
  exact h.mono hk

theorem callG_tab {T : Nat → List AV → Option AV} {C : CallP} {f : Nat} {args : List AV} {r : AV} (h : T f args = some r) {d : Option Nat} {ag} {p : Plan} {t : Tm} {H : Hp} {K : Tm → Hp → Prop} :
    callG (tC T C) f args d ag p t H K = (againG ag (updO t d r) H ∧ RgP (tC T C) p (updO t d r) H K) := by
  show (match T f args with | some r => againG ag (updO t d r) H ∧ RgP (tC T C) p (updO t d r) H K | none => _) = _
  rw [h]

theorem AC_use {f : Nat} {args : List AV} {H H2 : Hp} {r : AV} {K : AV → Hp → Prop} (h : AC Tryd.prog E f args H (fun v H' => v = r ∧ H' = H2)) (hk : K r H2) : AC Tryd.prog E f args H K := h.mono (fun v H' e => by rw [e.1, e.2]; exact hk)
theorem callG_use {P : Program} {f : Nat} {args : List AV} {H H2 : Hp} {r : AV} {d : Option Nat} {ag} {p : Plan} {t : Tm} {K : Tm → Hp → Prop} (h : AC P E f args H (fun v H' => v = r ∧ H' = H2))
    (hk : againG ag (updO t d r) H2 ∧ RgP (AC P E) p (updO t d r) H2 K) : callG (AC P E) f args d ag p t H K := h.mono (fun v H' e => by rw [e.1, e.2]; exact hk)
theorem callG_ex {P : Program} {f : Nat} {args : List AV} {H : Hp} {R : AV → Hp → Prop} {d : Option Nat} {ag} {p : Plan} {t : Tm} {K : Tm → Hp → Prop} (h : AC P E f args H R)
    (hk : ∀ v H', R v H' → againG ag (updO t d v) H' ∧ RgP (AC P E) p (updO t d v) H' K) : callG (AC P E) f args d ag p t H K := h.mono hk

end Go.Proofs.YtkdnijiipegabaaDoor.B

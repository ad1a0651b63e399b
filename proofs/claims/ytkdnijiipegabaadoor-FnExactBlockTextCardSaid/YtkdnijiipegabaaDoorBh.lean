/- The program logic: make, comparisons with nil, append. -/
import Derived.Test.YtkdnijiipegabaaDoorBg
import Derived.ArgAppend
namespace Go.Proofs.YtkdnijiipegabaaDoor.B
open Go.RowKit
set_option linter.unusedVariables false
set_option linter.unusedSimpArgs false
variable {P : Program} {E : Env} {o : Oper}

theorem rep_get {α : Type} (zs : List α) (n j : Nat) (h : j < n * zs.length) : (List.replicate n zs).flatten[j]? = zs[j % zs.length]? := by
  have h0 : 0 < zs.length := by
    rcases Nat.eq_zero_or_pos zs.length with e | e
    · rw [e] at h; omega
    · exact e
  have e : j = j / zs.length * zs.length + j % zs.length := by rw [Nat.mul_comm]; exact (Nat.div_add_mod j _).symm
  have hlt : j / zs.length < n := Nat.div_lt_of_lt_mul (by rw [Nat.mul_comm]; exact h)
  have := flatten_get zs.length (List.replicate n zs) (fun r hr => by rw [(List.mem_replicate.1 hr).2]) (j / zs.length) (j % zs.length) zs (by simp [hlt]) (Nat.mod_lt _ h0)
  rw [← e] at this
  exact this

theorem made_VR {φ : Phi} {zs : List AV} {z : Array Value} (h : VRs φ zs z.toList) (n : Nat) : VRs φ (List.replicate n zs).flatten (madeCells z (n * zs.length)).toList := by
  have hz : z.size = zs.length := by have := h.length; rwa [Array.length_toList] at this
  refine VRs.of_get (by rw [Array.length_toList, size_madeCells]; simp) (fun j a ha => ?_)
  have hj : j < n * zs.length := by
    have := (List.getElem?_eq_some_iff.1 ha).1
    simpa using this
  rw [rep_get zs n j hj] at ha
  obtain ⟨v, hv, hR⟩ := h.get _ _ ha
  refine ⟨v, ?_, hR⟩
  rw [Array.getElem?_toList] at hv
  have hm : j % z.size < z.size := by rw [hz]; exact (List.getElem?_eq_some_iff.1 ha).1
  have hv2 : z[j % z.size]? = some v := by rw [hz]; exact hv
  rw [Array.getElem?_eq_getElem hm] at hv2
  simp only [madeCells, Array.getElem?_toList]
  rw [Array.getElem?_map, Array.getElem?_range, if_pos hj, Option.map_some, getElem!_pos z _ hm]
  exact hv2

theorem k_mk {T e : TypeId} {x y : Operand} {x' : Od} {i : TypeInfo} {z : Value} {zs : List AV} (ho : o.op = .makeSlice T x y) (hxy : cOd y = cOd x) (hT0 : P.underlying T = some (.slice e)) (hi : P.info? e = some i) (hz : i.zero = some z)
    (hzs : z.cells.toList.mapM cVal = some zs) (hsz : zs.length = i.size) (hb0 : 0 < i.bytes) (hx : cOd x = some x') : OpOK P E o (.mk e i.size i.bytes zs x') := by
  intro t H v H' hs φ n a w hT hH
  have h1 := hT.ev hx
  have h2 := hT.ev (hxy.trans hx)
  simp only [stepA] at hs
  split at hs
  · rename_i m e1
    rw [e1] at h1 h2
    have h1' : a.eval x = .int .i64 m := h1
    have h2' : a.eval y = .int .i64 m := h2
    split at hs
    · rename_i hc
      obtain ⟨hm0, hmb⟩ := hc
      cases hs
      obtain ⟨k, rfl⟩ := Int.eq_ofNat_of_zero_le hm0
      have hkb : k * i.bytes ≤ 140737488355328 := by
        have : ((k * i.bytes : Nat) : Int) ≤ 140737488355328 := by simpa using hmb
        omega
      have hk : k ≤ 140737488355328 := Nat.le_trans (Nat.le_mul_of_pos_right k hb0) hkb
      obtain ⟨c1, c2⟩ := cVals_ok φ _ _ hzs
      have hml : k ≤ maxLen := by simp only [maxLen]; omega
      have hr := run_make (P := P) w T e i z hT0 hi hz .i64 .i64 (k : Int) (k : Int) (by omega) (Int.le_refl _) (by rw [Int.mul_comm]; omega) (by omega)
      simp only [Int.toNat_natCast] at hr
      have hmade := made_VR c1 k
      rw [hsz] at hmade
      obtain ⟨g1, g2, g3, g4⟩ := new_ok hH (rows := List.replicate k zs) (esz := i.size) (ety := e) (cells := (madeCells z.cells (k * i.size)).toList) hmade
        (fun r hr => by rw [(List.mem_replicate.1 hr).2, hsz]) (fun a ha => by
          obtain ⟨r, hr, ha⟩ := List.mem_flatten.1 ha
          rw [(List.mem_replicate.1 hr).2] at ha
          exact c2 a ha)
      refine ⟨_, .slice (some ⟨w.heap.size, 0, none⟩) k k, _, .inl ?_, ⟨_, _, _, g4, rfl, Nat.le_refl _, .inr ⟨by simp, .inr (by simp [size_madeCells])⟩⟩, g1, g2, g3⟩
      simp only [execOp, ho, h1', h2']
      simp [hr]
    · cases hs
  · cases hs

theorem eq_ss {T e : TypeId} (h : P.underlying T = some (.slice e)) (d : Nat) (w : World) : (Op.equalIn (d + 1) T (.slice none 0 0) (.slice none 0 0)).run P w = .ok true w := by simp [Op.equalIn, run_underlying h]
theorem eq_sn {T e : TypeId} (h : P.underlying T = some (.slice e)) (d : Nat) (w : World) (ad : Addr) (m c : Nat) : (Op.equalIn (d + 1) T (.slice (some ad) m c) (.slice none 0 0)).run P w = .ok false w := by simp [Op.equalIn, run_underlying h]
theorem eq_ii {T : TypeId} {ms} (h : P.underlying T = some (.interface ms)) (d : Nat) (w : World) : (Op.equalIn (d + 1) T .nilIface .nilIface).run P w = .ok true w := by simp [Op.equalIn, run_underlying h]
theorem eq_in {T : TypeId} {ms} (h : P.underlying T = some (.interface ms)) (d : Nat) (w : World) (t0 : TypeId) (x0 : Value) : (Op.equalIn (d + 1) T (.iface t0 x0) .nilIface).run P w = .ok false w := by simp [Op.equalIn, run_underlying h]

theorem eqv {b : BinOp} {ne : Bool} {T : TypeId} {v1 v2 : Value} {r : Bool} {w : World} (hb : b = if ne then .neq else .eql) (he : (Op.equal T v1 v2).run P w = .ok r w)
    (h1 : binOp .eql T v1 v2 = (do pure (.bool (← Op.equal T v1 v2)))) (h2 : binOp .neq T v1 v2 = (do pure (.bool (!(← Op.equal T v1 v2))))) : (binOp b T v1 v2).run P w = .ok (.bool (r != ne)) w := by
  subst hb
  cases ne
  · rw [if_neg (by simp), h1]
    simp [he]
  · rw [if_pos rfl, h2]
    simp [he]

theorem eqg {b : BinOp} {T : TypeId} {x : Operand} {c v1 v2 : Value} {w : World} (h : (∃ a m k, v1 = .slice a m k) ∨ v2 = .nilIface) (hv : ∀ cs, v1 ≠ .agg cs) : (eqGuard b T x (.const c) v1 v2).run P w = .ok () w := by
  unfold eqGuard
  rcases h with ⟨a, m, k, rfl⟩ | rfl
  · split <;> simp
  · cases v1 <;> first | exact absurd rfl (hv _) | (split <;> simp)

theorem k_eqn {b : BinOp} {ne : Bool} {k : Nat} {T T2 : TypeId} {x : Operand} {c : Value} {x' y' : Od} {d : TypeDesc} (ho : o.op = .binOp b T x (.const c) T2) (hb : b = if ne then .neq else .eql) (hT0 : P.underlying T = some d)
    (hd : (k = 0 ∧ ∃ e, d = .slice e) ∨ (k = 1 ∧ ∃ ms, d = .interface ms)) (hx : cOd x = some x') (hy : cOd (.const c) = some y') : OpOK P E o (.eqn k ne x' y') := by
  intro t H v H' hs φ n a w hT hH
  have h1 := hT.ev hx
  have h2 := hT.ev hy
  simp only [stepA, Option.map_eq_some_iff] at hs
  obtain ⟨r, hr, hs⟩ := hs
  cases hs
  refine pure_ok (u := .bool (r != ne)) ?_ rfl hH
  have key : (eqGuard b T x (.const c) (a.eval x) (a.eval (.const c))).run P w = .ok () w ∧ (binOp b T (a.eval x) (a.eval (.const c))).run P w = .ok (.bool (r != ne)) w := by
    unfold eqnA at hr
    split at hr <;> cases hr <;> rename_i e1 e2 <;> rw [e1] at h1 <;> rw [e2] at h2
    · rcases hd with ⟨_, e, rfl⟩ | ⟨h, _⟩
      · rw [show a.eval x = _ from h1, show a.eval _ = _ from h2]
        exact ⟨eqg (.inl ⟨_, _, _, rfl⟩) (fun _ h => by cases h), eqv hb (eq_ss hT0 9999 w) rfl rfl⟩
      · cases h
    · rcases hd with ⟨_, e, rfl⟩ | ⟨h, _⟩
      · obtain ⟨p, ad, cc, _, h1', _⟩ := h1
        rw [h1', show a.eval _ = _ from h2]
        exact ⟨eqg (.inl ⟨_, _, _, rfl⟩) (fun _ h => by cases h), eqv hb (eq_sn hT0 9999 w _ _ _) rfl rfl⟩
      · cases h
    · rcases hd with ⟨_, e, rfl⟩ | ⟨h, _⟩
      · obtain ⟨ad, h1'⟩ := h1
        rw [h1', show a.eval _ = _ from h2]
        exact ⟨eqg (.inl ⟨_, _, _, rfl⟩) (fun _ h => by cases h), eqv hb (eq_sn hT0 9999 w _ _ _) rfl rfl⟩
      · cases h
    · rcases hd with ⟨h, _⟩ | ⟨_, e, rfl⟩
      · cases h
      · rw [show a.eval x = _ from h1, show a.eval _ = _ from h2]
        exact ⟨eqg (.inr rfl) (fun _ h => by cases h), eqv hb (eq_ii hT0 9999 w) rfl rfl⟩
    · rcases hd with ⟨h, _⟩ | ⟨_, e, rfl⟩
      · cases h
      · obtain ⟨t0, x0, h1'⟩ := h1
        rw [h1', show a.eval _ = _ from h2]
        exact ⟨eqg (.inr rfl) (fun _ h => by cases h), eqv hb (eq_in hT0 9999 w _ _) rfl rfl⟩
  obtain ⟨k1, k2⟩ := key
  simp only [execOp, ho]
  simp only [Sem.run_bind, k1, Result.andThen_ok, k2]
  simp

end Go.Proofs.YtkdnijiipegabaaDoor.B

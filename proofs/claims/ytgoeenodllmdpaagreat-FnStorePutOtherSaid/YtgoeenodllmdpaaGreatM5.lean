/- A part of the proof: The way through a sieve, in plain Lean: what branches lead where. A contract of the library at this program. The program's sieve: its bits, its branches. The program's sieve: where a branch leads, what is kept. The program's sieve: whether it lets a key. The program finds a key in a store. What is got of a store, in plain Lean: the newest entry of its key. Stores, keys and values that are drawn. The law FnStorePutOther. There is no condition. -/
import Derived.Shelf.Strings.Count
import Derived.Shelf.Lays
import Derived.Ground.NamesProg
import Derived.Test.YtgoeenodllmdpaaGreatProg
import Derived.Test.YtgoeenodllmdpaaGreatM0
import Derived.Test.YtgoeenodllmdpaaGreatM1
import Derived.Test.YtgoeenodllmdpaaGreatM2
import Derived.Test.YtgoeenodllmdpaaGreatM3
import Derived.Test.YtgoeenodllmdpaaGreatM4
namespace Go.Proofs.YtgoeenodllmdpaaGreat.B
open Go.RowKit Go.Proofs
set_option linter.unusedVariables false
set_option linter.unusedSimpArgs false

structure Br where
  g : List ByteArray
  d : Nat
  fst : Bool
def recs (d : Nat) : Bool → List (List ByteArray) → List Br
  | _, [] => []
  | b, g :: gs => ⟨g, d, b⟩ :: recs d false gs
def recF (f : Fk) : List Br := recs f.2 true (brs f.2 f.1)
def kids (f : Fk) : List Fk := subs f.2 (brs f.2 f.1)
def allF : Nat → List Fk → List Fk
  | 0, _ => []
  | _ + 1, [] => []
  | n + 1, f :: q => f :: allF n (q ++ kids f)
def Br.ltr (b : Br) : UInt8 := letter (b.g.headD ⟨#[]⟩) b.d
def Br.rst (keep : Int) (b : Br) : ByteArray := restK (b.g.headD ⟨#[]⟩) (b.d + 1) keep
def Br.many (b : Br) : Bool := B.many b.g
def Br.kid (b : Br) : Fk := (b.g, b.d + 1)
def bitC (b : Bool) : UInt8 := if b = true then 49 else 48
structure Enc (L : List Br) (keep : Int) (s : Sv) : Prop where
  l : s.l.data.toList = L.map Br.ltr
  m : s.m.data.toList = L.map (fun b => bitC b.many)
  f : s.f.data.toList = L.map (fun b => bitC b.fst)
  r : s.r = (L.filter (fun b => !b.many)).map (Br.rst keep)
  k : s.k = keep
theorem ba_app (x y : ByteArray) : (x ++ y).data.toList = x.data.toList ++ y.data.toList := by
  rw [ByteArray.data_append, Array.toList_append]
theorem Enc.add {L : List Br} {keep : Int} {s : Sv} (h : Enc L keep s) (d : Nat) (b : Bool) (g : List ByteArray) : Enc (L ++ [⟨g, d, b⟩]) keep (addB d b s g) := by
  obtain ⟨h1, h2, h3, h4, h5⟩ := h
  refine ⟨?_, ?_, ?_, ?_, h5⟩
  · show (s.l ++ lit1 _).data.toList = _
    rw [ba_app, h1, List.map_append]
    rfl
  · show (s.m ++ lit1 _).data.toList = _
    rw [ba_app, h2, List.map_append]
    rfl
  · show (s.f ++ lit1 _).data.toList = _
    rw [ba_app, h3, List.map_append]
    rfl
  · show (if many g = true then s.r else s.r ++ [restK (g.headD ⟨#[]⟩) (d + 1) s.k]) = _
    rw [List.filter_append, List.map_append, h4, h5]
    cases hm : many g with
    | true => simp [Br.many, hm]
    | false => simp [Br.many, hm, Br.rst]
theorem Enc.adds {keep : Int} (d : Nat) : ∀ (gs : List (List ByteArray)) (b : Bool) {L : List Br} {s : Sv}, Enc L keep s → Enc (L ++ recs d b gs) keep (addBs d b s gs)
  | [], b, L, s, h => by simpa [recs, addBs] using h
  | g :: gs, b, L, s, h => by
    have := Enc.adds d gs false (h.add d b g)
    simpa [recs, addBs, List.append_assoc] using this
theorem Enc.bfs {keep : Int} : ∀ (n : Nat) (q : List Fk) {L : List Br} {s : Sv}, Enc L keep s → Enc (L ++ (allF n q).flatMap recF) keep (bfs n q s)
  | 0, q, L, s, h => by simpa [allF, B.bfs] using h
  | n + 1, [], L, s, h => by simpa [allF, B.bfs] using h
  | n + 1, (ks, d) :: q, L, s, h => by
    have := Enc.bfs n (q ++ subs d (brs d ks)) (Enc.adds d (brs d ks) true h)
    simpa [allF, B.bfs, kids, recF, List.append_assoc] using this

theorem allF_kids : ∀ (n : Nat) (q : List Fk), (∀ f ∈ q, Good f) → mu q ≤ n → allF n q = q ++ (allF n q).flatMap kids ∧ ∀ f ∈ allF n q, Good f
  | 0, [], _, _ => by simp [allF]
  | 0, f :: q, _, hm => by
    have : mu (f :: q) = 1 + 2 * f.1.length * (7 - f.2) + mu q := by simp [mu]
    omega
  | n + 1, [], _, _ => by simp [allF]
  | n + 1, (ks, d) :: q, hg, hm => by
    have hf := hg (ks, d) (by simp)
    have hs := mu_step (q := q) hf
    obtain ⟨h1, h2⟩ := allF_kids n (q ++ kids (ks, d)) (fun f h => by
      rcases List.mem_append.1 h with h | h
      · exact hg f (List.mem_cons_of_mem _ h)
      · exact hf.subs f h) (by unfold kids; simp only; omega)
    refine ⟨?_, fun f h => ?_⟩
    · simp only [allF, List.flatMap_cons, List.cons_append, List.cons.injEq, true_and]
      rw [← List.append_assoc]
      exact h1
    · rcases List.mem_cons.1 h with rfl | h
      · exact hf
      · exact h2 f h
theorem recs_kids (d : Nat) : ∀ (gs : List (List ByteArray)) (b : Bool), ((recs d b gs).filter Br.many).map Br.kid = subs d gs
  | [], b => rfl
  | g :: gs, b => by
    have ih := recs_kids d gs false
    unfold subs at ih ⊢
    rw [recs, List.filter_cons, List.filter_cons]
    cases hm : many g with
    | true => simp [Br.many, hm, ih, Br.kid]
    | false => simp [Br.many, hm, ih]
theorem flat_kids : ∀ (F : List Fk), F.flatMap kids = ((F.flatMap recF).filter Br.many).map Br.kid
  | [] => rfl
  | f :: F => by
    rw [List.flatMap_cons, List.flatMap_cons, List.filter_append, List.map_append, flat_kids F]
    congr 1
    exact (recs_kids f.2 (brs f.2 f.1) true).symm
theorem filter_at {α : Type} (p : α → Bool) : ∀ (L : List α) (i : Nat) (h : i < L.length), p L[i] = true → (L.filter p)[(L.take i).countP p]? = some L[i]
  | a :: L, 0, _, hp => by
    rw [List.getElem_cons_zero] at hp
    simp [List.filter_cons, hp]
  | a :: L, i + 1, h, hp => by
    have hp' : p (L[i]'(by simpa using h)) = true := by simpa using hp
    have ih := filter_at p L i (by simpa using h) hp'
    rw [List.filter_cons, List.take_succ_cons, List.countP_cons]
    split
    · simpa using ih
    · simpa using ih
structure Tr (ks : List ByteArray) (F : List Fk) (L : List Br) : Prop where
  f : F = (ks, 0) :: (L.filter Br.many).map Br.kid
  l : L = F.flatMap recF
  good : ∀ f ∈ F, Good f
  sp : ∀ f ∈ F, SP f.2 f.1
  z : ks = [] → L = []
theorem allF_sp : ∀ (n : Nat) (q : List Fk), (∀ f ∈ q, SP f.2 f.1) → ∀ f ∈ allF n q, SP f.2 f.1
  | 0, q, _, f, h => by cases h
  | n + 1, [], _, f, h => by cases h
  | n + 1, g :: q, hq, f, h => by
    rcases List.mem_cons.1 h with rfl | h
    · exact hq _ (by simp)
    · refine allF_sp n (q ++ kids g) (fun x hx => ?_) f h
      rcases List.mem_append.1 hx with hx | hx
      · exact hq x (List.mem_cons_of_mem _ hx)
      · exact (hq g (by simp)).of_subs x hx
theorem kids_len {f : Fk} {B : Nat} (h : f.1.length ≤ B) : ∀ g ∈ kids f, g.1.length ≤ B := by
  intro g hg
  simp only [kids, subs, List.mem_map, List.mem_filter] at hg
  obtain ⟨x, ⟨hx, _⟩, rfl⟩ := hg
  obtain ⟨ks', h1, rfl⟩ := brs_sub f.1.length f.2 f.1 (Nat.le_refl _) x hx
  have := ((grp_sub f.2 ks').trans h1).length_le
  simp only
  omega
theorem allF_len {B : Nat} : ∀ (n : Nat) (q : List Fk), (∀ f ∈ q, f.1.length ≤ B) → (∀ f ∈ allF n q, f.1.length ≤ B) ∧ (allF n q).length ≤ n
  | 0, q, _ => ⟨(fun _ h => by cases h), Nat.le_refl _⟩
  | n + 1, [], _ => ⟨(fun _ h => by cases h), Nat.zero_le _⟩
  | n + 1, f :: q, h => by
    obtain ⟨h1, h2⟩ := allF_len n (q ++ kids f) (fun x hx => by
      rcases List.mem_append.1 hx with hx | hx
      · exact h x (List.mem_cons_of_mem _ hx)
      · exact kids_len (h f (by simp)) x hx)
    refine ⟨fun x hx => ?_, ?_⟩
    · rcases List.mem_cons.1 hx with rfl | hx
      · exact h _ (by simp)
      · exact h1 x hx
    · rw [allF, List.length_cons]
      omega
theorem recs_len (d : Nat) : ∀ (gs : List (List ByteArray)) (b : Bool), (recs d b gs).length = gs.length
  | [], _ => rfl
  | g :: gs, b => by rw [recs, List.length_cons, List.length_cons, recs_len d gs false]
theorem flat_sum {B : Nat} : ∀ (F : List Fk), (∀ f ∈ F, f.1.length ≤ B) → (F.flatMap recF).length ≤ B * F.length
  | [], _ => by simp
  | f :: F, h => by
    have ih := flat_sum F (fun x hx => h x (List.mem_cons_of_mem _ hx))
    have h1 := (brs_sum f.1.length f.2 f.1 (Nat.le_refl _)).2
    have h2 := h f (by simp)
    have h3 : (recF f).length = (brs f.2 f.1).length := recs_len _ _ _
    rw [List.flatMap_cons, List.length_append, List.length_cons, Nat.mul_add, Nat.mul_one]
    omega
theorem flat_len {ks : List ByteArray} (h : ks.length ≤ 24) : ((allF 500 [(ks, 0)]).flatMap recF).length ≤ 12000 := by
  obtain ⟨h1, h2⟩ := allF_len (B := 24) 500 [(ks, 0)] (fun f hf => by rw [List.mem_singleton.1 hf]; exact h)
  have h3 := flat_sum _ h1
  have : 24 * (allF 500 [(ks, 0)]).length ≤ 24 * 500 := Nat.mul_le_mul_left _ h2
  omega
theorem Tr.of {ks : List ByteArray} (h : keysOk ks = true) (keep : Int) : ∃ F L, Tr ks F L ∧ Enc L keep (sieveR ks keep) ∧ L.length ≤ 12000 := by
  obtain ⟨hg, hl⟩ := keysOk_good h
  have hm : mu [(ks, 0)] ≤ 500 := by
    simp [mu]
    omega
  obtain ⟨h1, h2⟩ := allF_kids 500 [(ks, 0)] (fun f hf => by rw [List.mem_singleton.1 hf]; exact hg) hm
  refine ⟨allF 500 [(ks, 0)], (allF 500 [(ks, 0)]).flatMap recF, ⟨?_, rfl, h2, ?_, ?_⟩, ?_, flat_len hl⟩
  · rw [flat_kids] at h1
    exact h1
  · exact allF_sp 500 [(ks, 0)] (fun f hf => by rw [List.mem_singleton.1 hf]; exact SP.of_keys h)
  · intro e
    subst e
    have e0 : brs 0 [] = [] := by rw [brs]
    have e1 : kids ([], 0) = [] := by
      unfold kids
      simp only [e0]
      rfl
    have e2 : allF 500 [([], 0)] = ([], 0) :: allF 499 ([] ++ kids ([], 0)) := rfl
    have e3 : allF 499 [] = [] := rfl
    rw [e2, e1, List.append_nil, e3, List.flatMap_cons, List.flatMap_nil, List.append_nil]
    unfold recF
    simp only [e0]
    rfl
  · have e : Enc [] keep ⟨⟨#[]⟩, ⟨#[]⟩, ⟨#[]⟩, [], keep⟩ := ⟨rfl, rfl, rfl, rfl, rfl⟩
    have := Enc.bfs 500 [(ks, 0)] e
    rw [List.nil_append] at this
    exact this
theorem Tr.kid {ks : List ByteArray} {F : List Fk} {L : List Br} (h : Tr ks F L) {i : Nat} (hi : i < L.length) (hm : L[i].many = true) : F[(L.take (i + 1)).countP Br.many]? = some L[i].kid := by
  rw [h.f, List.take_succ_eq_append_getElem hi, List.countP_append, List.countP_singleton, if_pos hm, List.getElem?_cons_succ, List.getElem?_map, filter_at _ _ _ hi hm]
  rfl
theorem Tr.at {ks : List ByteArray} {F : List Fk} {L : List Br} (h : Tr ks F L) {j : Nat} (hj : j < F.length) : L = (F.take j).flatMap recF ++ (recF F[j] ++ (F.drop (j + 1)).flatMap recF) := by
  rw [h.l]
  conv => lhs; rw [← List.take_append_drop j F]
  rw [List.flatMap_append]
  congr 1
  rw [List.drop_eq_getElem_cons hj, List.flatMap_cons]
theorem recs_fst (d : Nat) : ∀ (gs : List (List ByteArray)), (recs d false gs).countP (·.fst) = 0 ∧ (∀ b ∈ recs d false gs, b.fst = false)
  | [] => ⟨rfl, fun _ h => by cases h⟩
  | g :: gs => by
    obtain ⟨h1, h2⟩ := recs_fst d gs
    rw [recs]
    refine ⟨by rw [List.countP_cons, h1]; rfl, fun b hb => ?_⟩
    rcases List.mem_cons.1 hb with rfl | hb
    · rfl
    · exact h2 b hb
theorem recF_cons {f : Fk} (h : f.1 ≠ []) : ∃ b r, recF f = b :: r ∧ b.fst = true ∧ (∀ x ∈ r, x.fst = false) ∧ (recF f).countP (·.fst) = 1 := by
  obtain ⟨ks, d⟩ := f
  cases ks with
  | nil => exact absurd rfl h
  | cons k ks =>
    unfold recF
    simp only [brs_cons, recs]
    obtain ⟨h1, h2⟩ := recs_fst d (brs d ((k :: ks).drop (grp d (k :: ks)).length))
    exact ⟨_, _, rfl, rfl, h2, by rw [List.countP_cons, h1]; rfl⟩
theorem flat_fst : ∀ (F : List Fk), (∀ f ∈ F, f.1 ≠ []) → (F.flatMap recF).countP (·.fst) = F.length
  | [], _ => rfl
  | f :: F, h => by
    obtain ⟨b, r, _, _, _, e⟩ := recF_cons (h f (by simp))
    rw [List.flatMap_cons, List.countP_append, e, flat_fst F (fun x hx => h x (List.mem_cons_of_mem _ hx)), List.length_cons]
    omega
theorem Tr.ne {ks : List ByteArray} {F : List Fk} {L : List Br} (h : Tr ks F L) (hk : ks ≠ []) : ∀ f ∈ F, f.1 ≠ [] := by
  intro f hf
  have hg := h.good f hf
  rw [h.f] at hf
  rcases List.mem_cons.1 hf with rfl | hf
  · exact hk
  · obtain ⟨b, hb, rfl⟩ := List.mem_map.1 hf
    have h2 := hg.2.2.2
    intro e
    rw [e] at h2
    simp [Br.kid] at h2
def oneP : List Bool → Nat → Option Nat
  | [], _ => none
  | true :: _, 0 => some 0
  | true :: r, n + 1 => (oneP r n).map (· + 1)
  | false :: r, n => (oneP r n).map (· + 1)
theorem oneP_app : ∀ (A R : List Bool), oneP (A ++ true :: R) (A.countP id) = some A.length
  | [], R => rfl
  | true :: A, R => by
    have ih := oneP_app A R
    rw [List.cons_append, List.countP_cons_of_pos (by rfl), oneP, ih]
    rfl
  | false :: A, R => by
    have ih := oneP_app A R
    rw [List.cons_append, List.countP_cons_of_neg (by simp), oneP, ih]
    rfl
theorem recF_len (f : Fk) : (recF f).length = (brs f.2 f.1).length := recs_len _ _ _
theorem recs_get (d : Nat) : ∀ (gs : List (List ByteArray)) (b : Bool) (i : Nat) (h : i < (recs d b gs).length) (h' : i < gs.length), ((recs d b gs)[i]).g = gs[i] ∧ ((recs d b gs)[i]).d = d
  | g :: gs, b, 0, _, _ => ⟨rfl, rfl⟩
  | g :: gs, b, i + 1, h, h' => by
    have := recs_get d gs false i (by simpa [recs] using h) (by simpa using h')
    simpa [recs] using this
theorem Tr.span {ks : List ByteArray} {F : List Fk} {L : List Br} (h : Tr ks F L) (hk : ks ≠ []) {j : Nat} (hj : j < F.length) : ∃ a, oneP (L.map (·.fst)) j = some a ∧ a + (brs F[j].2 F[j].1).length ≤ L.length ∧ 0 < (brs F[j].2 F[j].1).length ∧
    (((L.map (·.fst)).drop (a + 1)).takeWhile (fun b => !b)).length = (brs F[j].2 F[j].1).length - 1 ∧
    ∀ (i : Nat) (hi : i < (brs F[j].2 F[j].1).length) (hl : a + i < L.length), (L[a + i]).g = (brs F[j].2 F[j].1)[i] ∧ (L[a + i]).d = F[j].2 := by
  have hne := h.ne hk
  have hat := h.at hj
  obtain ⟨b, r, e, hb, hr, hc⟩ := recF_cons (hne F[j] (List.getElem_mem hj))
  have hlen := recF_len F[j]
  have hr1 : r.length + 1 = (brs F[j].2 F[j].1).length := by rw [← hlen, e, List.length_cons]
  have hA := flat_fst (F.take j) (fun f hf => hne f (List.mem_of_mem_take hf))
  rw [List.length_take, Nat.min_eq_left (by omega)] at hA
  have hL := congrArg List.length hat
  rw [List.length_append, List.length_append] at hL
  refine ⟨((F.take j).flatMap recF).length, ?_, by omega, by omega, ?_, fun i hi hl => ?_⟩
  · have e2 : L.map (·.fst) = ((F.take j).flatMap recF).map (·.fst) ++ true :: (r.map (·.fst) ++ ((F.drop (j + 1)).flatMap recF).map (·.fst)) := by
      conv => lhs; rw [hat]
      rw [e, List.map_append, List.map_append, List.map_cons, hb, List.cons_append]
    have e3 : (((F.take j).flatMap recF).map (·.fst)).countP id = j := by
      rw [List.countP_map]
      exact hA
    have := oneP_app (((F.take j).flatMap recF).map (·.fst)) (r.map (·.fst) ++ ((F.drop (j + 1)).flatMap recF).map (·.fst))
    rw [e3, List.length_map] at this
    rw [e2]
    exact this
  · have e2 : (L.map (·.fst)).drop (((F.take j).flatMap recF).length + 1) = r.map (·.fst) ++ ((F.drop (j + 1)).flatMap recF).map (·.fst) := by
      conv => lhs; rw [hat]
      rw [e, List.map_append, List.map_append, List.map_cons, List.cons_append, List.drop_append, List.length_map, show ((F.take j).flatMap recF).length + 1 - ((F.take j).flatMap recF).length = 1 by omega, List.drop_of_length_le (by simp), List.nil_append]
      rfl
    rw [e2]
    have e4 : ∀ x ∈ r.map (·.fst), (!x) = true := by
      intro x hx
      obtain ⟨y, hy, rfl⟩ := List.mem_map.1 hx
      simp [hr y hy]
    rw [List.takeWhile_append_of_pos e4, List.length_append, List.length_map]
    have e5 : ((((F.drop (j + 1)).flatMap recF).map (·.fst)).takeWhile (fun b => !b)) = [] := by
      cases hd : F.drop (j + 1) with
      | nil => rfl
      | cons f F' =>
        obtain ⟨b', r', e', hb', _⟩ := recF_cons (hne f (List.mem_of_mem_drop (by rw [hd]; simp)))
        rw [List.flatMap_cons, e', List.cons_append, List.map_cons, hb']
        rfl
    rw [e5]
    simp
    omega
  · have hi2 : i < (recF F[j]).length := by omega
    have e6 : L[((F.take j).flatMap recF).length + i] = (recF F[j])[i] := by
      apply Option.some.inj
      rw [← List.getElem?_eq_getElem hl, ← List.getElem?_eq_getElem hi2]
      conv => lhs; rw [hat]
      rw [List.getElem?_append_right (by omega), show ((F.take j).flatMap recF).length + i - ((F.take j).flatMap recF).length = i by omega, List.getElem?_append_left hi2]
    rw [e6]
    exact recs_get _ _ _ _ hi2 hi

def pickG (d : Nat) (c : UInt8) : List (List ByteArray) → Option (List ByteArray)
  | [] => none
  | g :: gs => if letter (g.headD ⟨#[]⟩) d = c then some g else pickG d c gs
def tailK (k : ByteArray) (d : Nat) : ByteArray := k.extract (min (d + 1) k.size) k.size
def wholeK (x : ByteArray) (d : Nat) (keep : Int) : Bool := decide (letter x d = 45) || decide (((restK x (d + 1) keep).size : Int) < keep)
def begins (k p : ByteArray) : Bool := decide (p.size ≤ k.size ∧ k.extract 0 p.size = p)
def leafHas (k : ByteArray) (d : Nat) (keep : Int) (x : ByteArray) : Bool := if wholeK x d keep = true then decide (tailK k d = restK x (d + 1) keep) else begins (tailK k d) (restK x (d + 1) keep)
def hasF (keep : Int) (k : ByteArray) : Nat → List ByteArray → Nat → Bool
  | 0, _, _ => false
  | n + 1, ks, d => match pickG d (letter k d) (brs d ks) with
    | none => false
    | some g => if many g = true then hasF keep k n g (d + 1) else leafHas k d keep (g.headD ⟨#[]⟩)
def hasR (ks : List ByteArray) (keep : Int) (k : ByteArray) : Bool := hasF keep k 7 ks 0
theorem restK_tail (k : ByteArray) (d : Nat) (keep : Int) (hk : 0 ≤ keep) : restK k (d + 1) keep = (tailK k d).extract 0 (min keep.toNat (tailK k d).size) := by
  have e : k.extract (d + 1) k.size = tailK k d := by
    unfold tailK
    rcases Nat.lt_or_ge (d + 1) k.size with h | h
    · rw [Nat.min_eq_left (by omega)]
    · rw [Nat.min_eq_right h]
      apply ByteArray.ext
      simp [ByteArray.data_extract]
      omega
  have e2 : (tailK k d).size = k.size - (d + 1) := by
    unfold tailK
    rw [ByteArray.size_extract]
    omega
  unfold restK
  rw [e, e2, Nat.min_comm]
theorem ba_whole (x : ByteArray) : x.extract 0 x.size = x := by
  apply ByteArray.ext
  simp [ByteArray.data_extract]
theorem leafHas_self (k : ByteArray) (d : Nat) (keep : Int) (hk : 0 ≤ keep) (hok : keyOk k = true) : leafHas k d keep k = true := by
  have e := restK_tail k d keep hk
  have e2 : (tailK k d).size = k.size - (d + 1) := by
    unfold tailK
    rw [ByteArray.size_extract]
    omega
  unfold leafHas
  split
  · rename_i h
    rw [decide_eq_true_eq]
    simp only [wholeK, Bool.or_eq_true, decide_eq_true_eq] at h
    rw [e]
    have hle : (tailK k d).size ≤ keep.toNat := by
      rcases h with h | h
      · have := (letter_ok hok d).1 h
        omega
      · rw [e, ByteArray.size_extract] at h
        omega
    rw [Nat.min_eq_right hle, ba_whole]
  · unfold begins
    rw [decide_eq_true_eq, e]
    refine ⟨by rw [ByteArray.size_extract]; omega, ?_⟩
    rw [ByteArray.size_extract]
    congr 1
    omega

theorem grp_hd {d : Nat} {k : ByteArray} {ks : List ByteArray} : (grp d (k :: ks)).headD ⟨#[]⟩ = k := by
  unfold grp
  simp only
  rw [List.filter_cons, if_pos (by simp)]
  rfl
theorem pick_mem : ∀ (n : Nat) {d : Nat} {ks : List ByteArray} {k : ByteArray}, ks.length ≤ n → SP d ks → k ∈ ks → ∃ g, pickG d (letter k d) (brs d ks) = some g ∧ k ∈ g ∧ g ∈ brs d ks
  | n, d, [], k, _, _, hk => by cases hk
  | 0, d, k0 :: ks, k, hn, _, _ => by simp at hn
  | n + 1, d, k0 :: ks, k, hn, h, hk => by
    rw [brs_cons, pickG, grp_hd]
    by_cases he : letter k0 d = letter k d
    · rw [if_pos he]
      refine ⟨_, rfl, ?_, by simp⟩
      unfold grp
      simp only
      rw [List.mem_filter]
      exact ⟨hk, by simp [he]⟩
    · rw [if_neg he]
      obtain ⟨e1, e2⟩ := grp_take h
      have hp := grp_pos d k0 ks
      have hd : k ∈ (k0 :: ks).drop (grp d (k0 :: ks)).length := by
        rw [← List.take_append_drop (grp d (k0 :: ks)).length (k0 :: ks)] at hk
        rcases List.mem_append.1 hk with h1 | h1
        · exfalso
          rw [e2, ← e1] at h1
          unfold grp at h1
          simp only at h1
          have := (List.mem_filter.1 h1).2
          simp only [beq_iff_eq] at this
          exact he this.symm
        · exact h1
      obtain ⟨g, g1, g2, g3⟩ := pick_mem n (by simp only [List.length_drop, List.length_cons] at hn ⊢; omega) (h.sub (List.drop_sublist _ _)) hd
      exact ⟨g, g1, g2, List.mem_cons_of_mem _ g3⟩
theorem kid_good {ks g : List ByteArray} {d : Nat} (h : Good (ks, d)) (hg : g ∈ brs d ks) (hm : many g = true) : Good (g, d + 1) :=
  h.subs _ (List.mem_map.2 ⟨g, List.mem_filter.2 ⟨hg, hm⟩, rfl⟩)
theorem hasF_self {keep : Int} {k : ByteArray} (hk0 : 0 ≤ keep) (hok : keyOk k = true) : ∀ (n : Nat) {ks : List ByteArray} {d : Nat}, SP d ks → Good (ks, d) → k ∈ ks → 7 ≤ n + d → hasF keep k n ks d = true
  | 0, ks, d, _, hg, _, hn => by
    have := hg.deep
    simp only at this
    omega
  | n + 1, ks, d, hs, hg, hk, hn => by
    obtain ⟨g, g1, g2, g3⟩ := pick_mem ks.length (Nat.le_refl _) hs hk
    rw [hasF, g1]
    simp only
    cases hm : many g with
    | true =>
      rw [if_pos rfl]
      exact hasF_self hk0 hok n (SP.of_brs ks.length d (Nat.le_refl _) hs g g3) (kid_good hg g3 hm) g2 (by omega)
    | false =>
      rw [if_neg (by simp)]
      have hl : g.length ≤ 1 := by simpa [many] using hm
      match g, g2, hl with
      | [x], g2, _ =>
        rw [List.mem_singleton] at g2
        subst g2
        exact leafHas_self k d keep hk0 hok
theorem hasR_self {ks : List ByteArray} {keep : Int} {k : ByteArray} (h : keysOk ks = true) (hk0 : 0 ≤ keep) (hk : k ∈ ks) : hasR ks keep k = true :=
  hasF_self hk0 ((SP.of_keys h).ok k hk) 7 (SP.of_keys h) (keysOk_good h).1 hk (by omega)

end Go.Proofs.YtgoeenodllmdpaaGreat.B


namespace Go.Proofs
open Go.Shelf
def Tryz.laysCount_ren : Go.Shelf.Ren := ⟨fun | 138 => 231 | 195 => 259 | 218 => 260 | 143 => 261 | 219 => 267 | 217 => 271 | 225 => 272 | 224 => 273 | 267 => 274 | 266 => 278 | 314 => 279 | n => n, fun | 9 => 9 | 3 => 3 | 4 => 4 | 5 => 5 | 0 => 0 | 46 => 179 | 146 => 261 | 51 => 225 | n => n, fun | 1 => 0 | n => n⟩
theorem Tryz.laysCount : Go.Proofs.Lays.n138 Tryz.prog Tryz.laysCount_ren := {
  mixed := by kernel_rfl
  f138 := Tryz.func231.trans (congrArg some (by kernel_rfl))
  f143 := Tryz.func261.trans (congrArg some (by kernel_rfl))
  f195 := Tryz.func259.trans (congrArg some (by kernel_rfl))
  f217 := Tryz.func271.trans (congrArg some (by kernel_rfl))
  f218 := Tryz.func260.trans (congrArg some (by kernel_rfl))
  f219 := Tryz.func267.trans (congrArg some (by kernel_rfl))
  f224 := Tryz.func273.trans (congrArg some (by kernel_rfl))
  f225 := Tryz.func272.trans (congrArg some (by kernel_rfl))
  f266 := Tryz.func278.trans (congrArg some (by kernel_rfl))
  f267 := Tryz.func274.trans (congrArg some (by kernel_rfl))
  f314 := Tryz.func279.trans (congrArg some (by kernel_rfl))
  t0 := Tryz.underlying0
  a0 := Tryz.isAgg0
  z0 := Tryz.sizeOf0
  v0 := Tryz.zeroValue0
  t3 := Tryz.underlying3
  a3 := Tryz.isAgg3
  z3 := Tryz.sizeOf3
  v3 := Tryz.zeroValue3
  t4 := Tryz.underlying4
  a4 := Tryz.isAgg4
  z4 := Tryz.sizeOf4
  v4 := Tryz.zeroValue4
  t5 := Tryz.underlying5
  a5 := Tryz.isAgg5
  z5 := Tryz.sizeOf5
  v5 := Tryz.zeroValue5
  t9 := Tryz.underlying9
  a9 := Tryz.isAgg9
  z9 := Tryz.sizeOf9
  v9 := Tryz.zeroValue9
  t46 := Tryz.underlying179
  a46 := Tryz.isAgg179
  z46 := Tryz.sizeOf179
  v46 := Tryz.zeroValue179
  t51 := Tryz.underlying225
  a51 := Tryz.isAgg225
  z51 := Tryz.sizeOf225
  v51 := Tryz.zeroValue225
  t146 := Tryz.underlying261
  a146 := Tryz.isAgg261
  z146 := Tryz.sizeOf261
  v146 := Tryz.zeroValue261
  g1 := by kernel_rfl }
end Go.Proofs


namespace Go.Proofs.YtgoeenodllmdpaaGreat.B
open Go.RowKit Go.Proofs
set_option linter.unusedVariables false
set_option linter.unusedSimpArgs false
variable {E : Env}

def BitsIs (s : ByteArray) (b : List Bool) : Prop := s.data.toList = b.map bitC
theorem BitsIs.size {s : ByteArray} {b : List Bool} (h : BitsIs s b) : s.size = b.length := by
  have := congrArg List.length h
  rw [List.length_map] at this
  rw [← this]
  exact Array.length_toList.symm
theorem BitsIs.bt {s : ByteArray} {b : List Bool} (h : BitsIs s b) {i : Nat} (hi : i < b.length) : bt s i = if b[i] = true then 49 else 48 := by
  have hl : s.data.toList.length = b.length := by rw [h, List.length_map]
  rw [bt_at (by omega)]
  have : s.data.toList[i]'(by omega) = bitC b[i] := by
    have h2 : s.data.toList[i]? = (b.map bitC)[i]? := by rw [h]
    rw [List.getElem?_eq_getElem (by omega), List.getElem?_eq_getElem (by simpa using hi), List.getElem_map] at h2
    exact Option.some.inj h2
  rw [this]
  cases b[i] <;> rfl
theorem oneP_drop_t {b : List Bool} {i : Nat} (hi : i < b.length) (h : b[i] = true) : oneP (b.drop i) 0 = some 0 ∧ ∀ n, oneP (b.drop i) (n + 1) = (oneP (b.drop (i + 1)) n).map (· + 1) := by
  rw [List.drop_eq_getElem_cons hi, h]
  exact ⟨rfl, fun n => rfl⟩
theorem oneP_drop_f {b : List Bool} {i : Nat} (hi : i < b.length) (h : b[i] = false) : ∀ n, oneP (b.drop i) n = (oneP (b.drop (i + 1)) n).map (· + 1) := by
  rw [List.drop_eq_getElem_cons hi, h]
  exact fun n => rfl
theorem opt_add (o : Option Nat) (i : Nat) : (o.map (· + 1)).map (· + i) = o.map (· + (i + 1)) := by
  cases o with
  | none => rfl
  | some x =>
    simp only [Option.map_some]
    congr 1
    omega
def posI (o : Option Nat) : Int := match o with
  | none => -1
  | some i => i
theorem one_ok (s : ByteArray) (b : List Bool) (n : Nat) (H : Hp) (hb : BitsIs s b) (hs : b.length < 1099511627776) (hn : n < 1099511627776) :
    AC Tryz.prog E 230 [.str s, .int .i64 n] H (fun v H' => v = .int .i64 (posI (oneP b n)) ∧ H' = H) := by
  refine AC_byp (CLe.refl (AC Tryz.prog E)) h_impl_one (by simp) ?_
  have hsz := hb.size
  simp [c_impl_one, hsz]
  refine W_for (fun k t H' => ∃ i m : Nat, i + k = b.length ∧ m < 1099511627776 ∧ t 0 = .str s ∧ t 1 = .int .i64 m ∧ t 7 = .int .i64 b.length ∧ t 8 = .int .i64 i ∧ (oneP (b.drop i) m).map (· + i) = oneP b n ∧ HLe H H') b.length ?_ AC_mono ?_
  · exact ⟨0, n, by simp, hn, by simp, by simp, by simp [hsz], by simp, by simp, HLe.refl _⟩
  rintro k t H' ⟨i, m, hik, hm, h0, h1, h7, h8, hP, hle⟩
  simp [h0, h1, h7, h8]
  refine c_split (fun hq => ?_) (fun hq => ?_) <;> simp at hq
  · have hi : i < b.length := by omega
    have hw := wrapN (i := i) (by omega)
    have hbt := hb.bt hi
    simp [h0, h1, h7, h8, hbt, hsz, hi]
    cases hbi : b[i] with
    | false =>
      simp [h0, h1, h7, h8, hw]
      rw [oneP_drop_f hi hbi, opt_add] at hP
      exact ⟨k - 1, by omega, i + 1, by omega, m, hm, rfl, by omega, hP, hle⟩
    | true =>
      obtain ⟨p0, p1⟩ := oneP_drop_t hi hbi
      simp [h0, h1, h7, h8]
      refine c_split (fun hq2 => ?_) (fun hq2 => ?_) <;> simp at hq2
      · have : m = 0 := by omega
        subst this
        rw [p0] at hP
        rw [← hP]
        simp [h0, h1, h7, h8, posI, hle]
      · obtain ⟨m', rfl⟩ : ∃ m', m = m' + 1 := ⟨m - 1, by omega⟩
        rw [p1, opt_add] at hP
        have hw2 : IntKind.i64.wrap (m' : Int) = m' := wrap64 (by omega) (by omega)
        simp [h0, h1, h7, h8, hw, hw2]
        exact ⟨k - 1, by omega, i + 1, by omega, m', by omega, rfl, by omega, hP, hle⟩
  · have : i = b.length := by omega
    subst this
    rw [List.drop_length] at hP
    rw [← hP]
    simp [posI, oneP, hle]

theorem Count_ok (s : ByteArray) (c : UInt8) (H : Hp) : AC Tryz.prog E 231 [.str s, .str ⟨#[c]⟩] H (fun v H' => v = .int .i64 (s.data.toList.count c) ∧ H' = H) := by
  refine ⟨?_, fun φ w vals hv hH => ?_⟩
  · exact ⟨_, _, Tryz.func231, by kernel_rfl, rfl⟩
  · have e : vals = [.string s, .string ⟨#[c]⟩] := by
      obtain ⟨v, vs, rfl, h1, h2⟩ := hv
      obtain ⟨v2, vs2, rfl, h3, h4⟩ := h2
      have h1 : v = .string s := h1
      have h3 : v2 = .string ⟨#[c]⟩ := h3
      have h4 : vs2 = [] := h4
      rw [h1, h3, h4]
    subst e
    refine Calls.mono (Any.strings_Count_one Tryz.laysCount s c w) ?_
    rintro e w' ⟨rfl, rfl⟩
    exact ⟨φ, H, .int .i64 (s.data.toList.count c), fun _ _ h => h, hH, Below.refl _ _, rfl, rfl, rfl⟩

end Go.Proofs.YtgoeenodllmdpaaGreat.B


namespace Go.Proofs.YtgoeenodllmdpaaGreat.B
open Go.RowKit Go.Proofs
set_option linter.unusedVariables false
set_option linter.unusedSimpArgs false
variable {E : Env}

theorem svBox (s : Sv) (r : AV) (H : Hp) : ∃ H1 : Hp, H1 = H ++ [some ⟨[[.str s.l, .str s.m, .str s.f, r, .int .i64 s.k]], 5, 66, false⟩] ∧ HLe H H1 ∧ H1.at H.length = some ⟨[[.str s.l, .str s.m, .str s.f, r, .int .i64 s.k]], 5, 66, false⟩ :=
  ⟨_, rfl, HLe.self _ _, by simp⟩
def nullsN (b : List Bool) : Nat := (b.takeWhile (fun x => !x)).length
theorem nullsN_f {b : List Bool} {i : Nat} (hi : i < b.length) (h : b[i] = false) : nullsN (b.drop i) = nullsN (b.drop (i + 1)) + 1 := by
  unfold nullsN
  rw [List.drop_eq_getElem_cons hi, h]
  rfl
theorem nullsN_t {b : List Bool} {i : Nat} (hi : i < b.length) (h : b[i] = true) : nullsN (b.drop i) = 0 := by
  unfold nullsN
  rw [List.drop_eq_getElem_cons hi, h]
  rfl
def spanI (b : List Bool) (n : Nat) : AV := match oneP b n with
  | none => .tu [.int .i64 0, .int .i64 0]
  | some a => .tu [.int .i64 a, .int .i64 ((a + 1 + nullsN (b.drop (a + 1)) : Nat) : Int)]
theorem oneP_lt : ∀ (b : List Bool) (n a : Nat), oneP b n = some a → a < b.length
  | [], n, a, h => by cases h
  | true :: b, 0, a, h => by
    have : 0 = a := Option.some.inj h
    simp
    omega
  | true :: b, n + 1, a, h => by
    obtain ⟨x, hx, rfl⟩ := Option.map_eq_some_iff.1 h
    have := oneP_lt b n x hx
    simp
    omega
  | false :: b, n, a, h => by
    obtain ⟨x, hx, rfl⟩ := Option.map_eq_some_iff.1 h
    have := oneP_lt b n x hx
    simp
    omega
theorem branches_ok (s : Sv) (r : AV) (b : List Bool) (n : Nat) (H : Hp) (hr : one r = true) (hb : BitsIs s.f b) (hs : b.length < 1099511627776) (hn : n < 1099511627776) :
    AC Tryz.prog E 181 [svAV s r, .int .i64 n] H (fun v H' => v = spanI b n ∧ H' = H) := by
  refine AC_byp (tC_le tabJ_ok) h_impl_Sieve_branches (by unfold spanI; split <;> rfl) ?_
  have hsz := hb.size
  obtain ⟨H1, hH1, hle1, b0⟩ := svBox s r H
  simp [c_impl_Sieve_branches, svAV, hr, ← hH1, b0]
  refine cg_use (one_ok s.f b n H1 hb hs hn) ?_
  cases hp : oneP b n with
  | none => simp [posI, spanI, hp, hle1]
  | some a =>
    have ha := oneP_lt b n a hp
    have hw := wrapN (i := a) (by omega)
    have hneg : ¬ ((a : Int) < 0) := by omega
    simp [posI, spanI, hp, hneg, hw]
    refine W_for (fun k t H' => ∃ i : Nat, i + k = b.length ∧ t 2 = .pt H.length 0 0 ∧ t 6 = .int .i64 a ∧ t 7 = .int .i64 i ∧ i + nullsN (b.drop i) = a + 1 + nullsN (b.drop (a + 1)) ∧ HLe H H' ∧ H'.at H.length = some ⟨[[.str s.l, .str s.m, .str s.f, r, .int .i64 s.k]], 5, 66, false⟩) (b.length - (a + 1)) ?_ (tC_mono AC_mono) ?_
    · exact ⟨a + 1, by omega, by simp, by simp, by simp, rfl, hle1, b0⟩
    rintro k t H' ⟨i, hik, h2, h6, h7, hP, hle, b0'⟩
    simp [h2, h6, h7, b0', hsz]
    by_cases hi : i < b.length
    · have hbt := hb.bt hi
      have hiI : (i : Int) < b.length := by omega
      have hw2 := wrapN (i := i) (by omega)
      cases hbi : b[i] with
      | false =>
        rw [nullsN_f hi hbi] at hP
        simp [h2, h6, h7, b0', hi, hbt, hbi, hsz, hw2]
        exact ⟨k - 1, by omega, i + 1, by omega, by omega, by omega, hle⟩
      | true =>
        rw [nullsN_t hi hbi] at hP
        simp [h2, h6, h7, b0', hi, hbt, hbi, hsz, hle]
        omega
    · have : i = b.length := by omega
      subst this
      have e : nullsN (b.drop b.length) = 0 := by rw [List.drop_length]; rfl
      rw [e] at hP
      simp [h2, h6, h7, b0', hle]
      omega

theorem bits_count {s : ByteArray} {b : List Bool} (h : BitsIs s b) (n : Nat) : ((s.extract 0 n).data.toList.count 49 = (b.take n).countP id) ∧ ((s.extract 0 n).data.toList.count 48 = (b.take n).countP (fun x => !x)) := by
  have e : (s.extract 0 n).data.toList = (b.take n).map bitC := by
    rw [ByteArray.data_extract, Array.toList_extract, List.map_take, ← h]
    rfl
  rw [e, List.count, List.count, List.countP_map, List.countP_map]
  constructor
  · congr 1
    funext x
    cases x <;> rfl
  · congr 1
    funext x
    cases x <;> rfl
theorem node_ok (s : Sv) (r : AV) (b : List Bool) (i : Nat) (H : Hp) (hr : one r = true) (hb : BitsIs s.m b) (hs : b.length < 1099511627776) (hi : i < b.length) :
    AC Tryz.prog E 182 [svAV s r, .int .i64 i] H (fun v H' => v = .int .i64 ((b.take (i + 1)).countP id) ∧ H' = H) := by
  refine AC_byp (tC_le tabJ_ok) h_impl_Sieve_node (by simp) ?_
  have hsz := hb.size
  obtain ⟨H1, hH1, hle1, b0⟩ := svBox s r H
  have hw := wrapN (i := i) (by omega)
  simp [c_impl_Sieve_node, svAV, hr, ← hH1, b0, hw, hsz]
  refine ⟨by omega, ?_⟩
  refine cg_use (Count_ok _ 49 H1) ?_
  rw [(bits_count hb (i + 1)).1]
  simp [hle1]
theorem rest_ok (s : Sv) (r : AV) (b : List Bool) (i : Nat) (H : Hp) (hr : Strs H r s.r) (hb : BitsIs s.m b) (hs : b.length < 1099511627776) (hi : i < b.length) (x : ByteArray) (hx : s.r[(b.take i).countP (fun x => !x)]? = some x) :
    AC Tryz.prog E 184 [svAV s r, .int .i64 i] H (fun v H' => v = .str x ∧ H' = H) := by
  refine AC_byp (tC_le tabJ_ok) h_impl_Sieve_rest (by simp) ?_
  have hsz := hb.size
  obtain ⟨H1, hH1, hle1, b0⟩ := svBox s r H
  simp [c_impl_Sieve_rest, svAV, Rows.one hr, ← hH1, b0, hsz]
  refine ⟨by omega, ?_⟩
  refine cg_use (Count_ok _ 48 H1) ?_
  rw [(bits_count hb i).2]
  obtain ⟨n, hn⟩ : ∃ n, n = (b.take i).countP (fun x => !x) := ⟨_, rfl⟩
  rw [← hn] at hx ⊢
  obtain ⟨hl, hxe⟩ := List.getElem?_eq_some_iff.1 hx
  obtain ⟨o1, i1, ob1, rfl, a1, a2, a3⟩ := (hr.le hle1).get hl
  rw [hxe] at a3
  simp [b0, a1, a2, a3, hl, hle1]
theorem complete_ok (s : Sv) (r : AV) (b : List Bool) (i : Nat) (H : Hp) (hr : Strs H r s.r) (hb : BitsIs s.m b) (hs : b.length < 1099511627776) (hi : i < b.length) (hl : s.l.size = b.length) (x : ByteArray) (hx : s.r[(b.take i).countP (fun x => !x)]? = some x) (c : UInt8) (hc : bt s.l i = c.toNat) :
    AC Tryz.prog E 183 [svAV s r, .int .i64 i] H (fun v H' => v = .bool (decide (c = 45) || decide ((x.size : Int) < s.k)) ∧ H' = H) := by
  refine AC_byp (tC_le tabJ_ok) h_impl_Sieve_complete (by simp) ?_
  obtain ⟨H1, hH1, hle1, b0⟩ := svBox s r H
  have hcd : decide ((c.toNat : Int) = 45) = decide (c = 45) := u8_eq c 45
  have hiI : (i : Int) < b.length := by omega
  simp [c_impl_Sieve_complete, svAV, Rows.one hr, ← hH1, b0, hl, hc, hi, hcd]
  by_cases he : c = 45
  · simp [he, hle1]
  · simp [he, b0, Rows.one hr]
    have hR := rest_ok (E := E) s r b i H1 (hr.le hle1) hb hs hi x hx
    simp only [svAV] at hR
    refine cg_use hR ?_
    simp [b0, hle1]

end Go.Proofs.YtgoeenodllmdpaaGreat.B


namespace Go.Proofs.YtgoeenodllmdpaaGreat.B
open Go.RowKit Go.Proofs
set_option linter.unusedVariables false
set_option linter.unusedSimpArgs false
variable {E : Env}

theorem HasPrefix_in (k p : ByteArray) (H : Hp) (hk : k.size < 4611686018427387904) (hp : p.size < 4611686018427387904) : AC Tryz.prog E 262 [.str k, .str p] H (fun v H' => v = .bool (begins k p) ∧ H' = H) := by
  refine AC_byp (CLe.refl (AC Tryz.prog E)) h_internal_stringslite_HasPrefix (by simp) ?_
  simp [c_internal_stringslite_HasPrefix]
  by_cases h : p.size ≤ k.size
  · have hI : (p.size : Int) ≤ k.size := by omega
    simp [h, hI, begins]
  · have hI : ¬ (p.size : Int) ≤ k.size := by omega
    simp [h, hI, begins]
theorem HasPrefix_ok (k p : ByteArray) (H : Hp) (hk : k.size < 4611686018427387904) (hp : p.size < 4611686018427387904) : AC Tryz.prog E 232 [.str k, .str p] H (fun v H' => v = .bool (begins k p) ∧ H' = H) := by
  refine AC_byp (CLe.refl (AC Tryz.prog E)) h_strings_HasPrefix (by simp) ?_
  simp [c_strings_HasPrefix]
  refine callG_use (HasPrefix_in k p H hk hp) ?_
  simp
theorem KeyBegins_ok (k p : ByteArray) (H : Hp) (hk : k.size < 4611686018427387904) (hp : p.size < 4611686018427387904) : AC Tryz.prog E 185 [.str k, .str p] H (fun v H' => v = .bool (begins k p) ∧ H' = H) := by
  refine AC_byp (CLe.refl (AC Tryz.prog E)) h_impl_KeyBegins (by simp) ?_
  simp [c_impl_KeyBegins]
  refine callG_use (HasPrefix_ok k p H hk hp) ?_
  simp

structure Svt (ks : List ByteArray) (keep : Int) (F : List Fk) (L : List Br) (s : Sv) : Prop where
  tr : Tr ks F L
  en : Enc L keep s
  len : L.length < 1000000
  kp : 0 ≤ keep ∧ keep ≤ 5
theorem Svt.bm {ks : List ByteArray} {keep : Int} {F : List Fk} {L : List Br} {s : Sv} (h : Svt ks keep F L s) : BitsIs s.m (L.map Br.many) := by
  unfold BitsIs
  rw [h.en.m, List.map_map]
  rfl
theorem Svt.bf {ks : List ByteArray} {keep : Int} {F : List Fk} {L : List Br} {s : Sv} (h : Svt ks keep F L s) : BitsIs s.f (L.map (·.fst)) := by
  unfold BitsIs
  rw [h.en.f, List.map_map]
  rfl
theorem Svt.ls {ks : List ByteArray} {keep : Int} {F : List Fk} {L : List Br} {s : Sv} (h : Svt ks keep F L s) : s.l.size = L.length := by
  have := congrArg List.length h.en.l
  rw [List.length_map] at this
  rw [← this]
  exact Array.length_toList.symm
theorem Svt.lt {ks : List ByteArray} {keep : Int} {F : List Fk} {L : List Br} {s : Sv} (h : Svt ks keep F L s) {i : Nat} (hi : i < L.length) : bt s.l i = (L[i].ltr).toNat := by
  have hl : s.l.data.toList.length = L.length := by rw [h.en.l, List.length_map]
  rw [bt_at (by omega)]
  have h2 : s.l.data.toList[i]? = (L.map Br.ltr)[i]? := by rw [h.en.l]
  rw [List.getElem?_eq_getElem (by omega), List.getElem?_eq_getElem (by simpa using hi), List.getElem_map] at h2
  rw [Option.some.inj h2]
theorem Svt.rs {ks : List ByteArray} {keep : Int} {F : List Fk} {L : List Br} {s : Sv} (h : Svt ks keep F L s) {i : Nat} (hi : i < L.length) (hm : L[i].many = false) : s.r[((L.map Br.many).take i).countP (fun x => !x)]? = some (L[i].rst keep) := by
  rw [← List.map_take, List.countP_map, h.en.r, List.getElem?_map]
  have := filter_at (fun b : Br => !b.many) L i hi (by simp [hm])
  have e : ((fun x => !x) ∘ Br.many) = (fun b : Br => !b.many) := rfl
  rw [e, this]
  rfl
theorem Svt.kid {ks : List ByteArray} {keep : Int} {F : List Fk} {L : List Br} {s : Sv} (h : Svt ks keep F L s) {i : Nat} (hi : i < L.length) (hm : L[i].many = true) : F[((L.map Br.many).take (i + 1)).countP id]? = some L[i].kid := by
  rw [← List.map_take, List.countP_map]
  exact h.tr.kid hi hm
theorem pick_none {d : Nat} {c : UInt8} : pickG d c [] = none := rfl
theorem pick_drop {d : Nat} {c : UInt8} {gs : List (List ByteArray)} {i : Nat} (hi : i < gs.length) : pickG d c (gs.drop i) = if letter ((gs[i]).headD ⟨#[]⟩) d = c then some gs[i] else pickG d c (gs.drop (i + 1)) := by
  rw [List.drop_eq_getElem_cons hi, pickG]
theorem letter_more {ks g : List ByteArray} {d : Nat} {k : ByteArray} (hok : keyOk k = true) (hs : SP d ks) (hg : g ∈ brs d ks) (hm : many g = true) (hl : letter (g.headD ⟨#[]⟩) d = letter k d) : d + 1 ≤ k.size := by
  have h2 := SP.of_brs ks.length d (Nat.le_refl _) hs g hg
  have hlen : 2 ≤ g.length := by
    have : 1 < g.length := by simpa [many] using hm
    omega
  match g, hlen, h2, hl with
  | a :: b :: g, hlen, h2, hl =>
    have hsz := h2.size hlen a (by simp)
    have hak := h2.ok a (by simp)
    rcases Nat.lt_or_ge d k.size with h | h
    · omega
    · have e1 : letter k d = 45 := (letter_ok hok d).2 h
      have e2 : letter a d = letter k d := hl
      rw [e1] at e2
      have := (letter_ok hak d).1 e2
      omega

def HsI (keep : Int) (k : ByteArray) (F : List Fk) (R : Bool) (s : Sv) (r : AV) (H : Hp) (m : Nat) (t : Tm) (H' : Hp) : Prop := ∃ (j d : Nat) (ks : List ByteArray), F[j]? = some (ks, d) ∧ m + d = 7 ∧ d ≤ k.size ∧ hasF keep k m ks d = R ∧ t 1 = .str k ∧ t 2 = .pt H.length 0 0 ∧ t 5 = .int .i64 j ∧ t 6 = .int .i64 d ∧ HLe H H' ∧ H'.at H.length = some ⟨[[.str s.l, .str s.m, .str s.f, r, .int .i64 s.k]], 5, 66, false⟩
def HsJ (k : ByteArray) (s : Sv) (r : AV) (H : Hp) (a nb q j d : Nat) (gs : List (List ByteArray)) (m : Nat) (t : Tm) (H' : Hp) : Prop := ∃ i p : Nat, i + m = nb ∧ p = a + i ∧ t 1 = .str k ∧ t 2 = .pt H.length 0 0 ∧ t 5 = .int .i64 j ∧ t 6 = .int .i64 d ∧ t 8 = .int .i64 q ∧ t 9 = .int .i64 p ∧ pickG d (letter k d) (gs.drop i) = pickG d (letter k d) gs ∧ HLe H H' ∧ H'.at H.length = some ⟨[[.str s.l, .str s.m, .str s.f, r, .int .i64 s.k]], 5, 66, false⟩
set_option maxHeartbeats 1600000 in
theorem has_ok (s : Sv) (r : AV) (k : ByteArray) (ks : List ByteArray) (keep : Int) (F : List Fk) (L : List Br) (H : Hp) (h : Svt ks keep F L s) (hr : Strs H r s.r) (hk : keyOk k = true) :
    AC Tryz.prog E 110 [svAV s r, .str k] H (fun v H' => v = .bool (hasR ks keep k) ∧ H' = H) := by
  refine AC_byp (tC_le tabJ_ok) h_impl_Sieve_has (by simp) ?_
  obtain ⟨H1, hH1, hle1, b0⟩ := svBox s r H
  have hks := keyOk_size hk
  have hll := h.len
  have hr1 := Rows.one hr
  simp [c_impl_Sieve_has, svAV, hr1, ← hH1]
  by_cases hke : ks = []
  · -- no key at all
    have hL := h.tr.z hke
    have e1 : spanI (L.map (·.fst)) 0 = .tu [.int .i64 0, .int .i64 0] := by
      rw [hL]
      rfl
    have e2 : hasR ks keep k = false := by
      unfold hasR
      rw [hke, hasF, brs]
      rfl
    rw [e2]
    refine W_for (fun m t H' => t 1 = .str k ∧ t 2 = .pt H.length 0 0 ∧ t 5 = .int .i64 0 ∧ t 6 = .int .i64 0 ∧ HLe H H' ∧ H'.at H.length = some ⟨[[.str s.l, .str s.m, .str s.f, r, .int .i64 s.k]], 5, 66, false⟩) 0 ?_ (tC_mono AC_mono) ?_
    · exact ⟨by simp, by simp, by simp, by simp, hle1, b0⟩
    rintro m t H' ⟨t1, t2, t5, t6, hle, b0'⟩
    simp [t1, t2, t5, t6, b0']
    have cB := branches_ok (E := E) s r (L.map (·.fst)) 0 H' hr1 h.bf (by rw [List.length_map]; omega) (by omega)
    simp only [svAV] at cB
    refine cg_use cB ?_
    rw [e1]
    simp
    refine W_for (fun m t2 H2 => t2 8 = .int .i64 0 ∧ t2 9 = .int .i64 0 ∧ H2 = H') 0 ?_ (tC_mono AC_mono) ?_
    · exact ⟨by simp, by simp, rfl⟩
    rintro m t2 H2 ⟨u8, u9, rfl⟩
    simp [u8, u9, hle]
  refine W_for (HsI keep k F (hasR ks keep k) s r H) 7 ?_ (tC_mono AC_mono) ?_
  · refine ⟨0, 0, ks, by rw [h.tr.f]; rfl, rfl, Nat.zero_le _, rfl, by simp, by simp, by simp, by simp, hle1, b0⟩
  rintro m t H' ⟨j, d, ks', hj, hmd, hdk, hR, t1, t2, t5, t6, hle, b0'⟩
  obtain ⟨hjl, hje⟩ := List.getElem?_eq_some_iff.1 hj
  have hgd := h.tr.good F[j] (List.getElem_mem hjl)
  have hsp := h.tr.sp F[j] (List.getElem_mem hjl)
  rw [hje] at hgd hsp
  have hd5 : d ≤ 5 := hgd.deep
  obtain ⟨n, rfl⟩ : ∃ n, m = n + 1 := ⟨m - 1, by omega⟩
  have hjb : j < 1099511627776 := by
    have e := congrArg List.length h.tr.f
    rw [List.length_cons, List.length_map] at e
    have := List.length_filter_le Br.many L
    omega
  simp [t1, t2, t5, t6, b0']
  have cB := branches_ok (E := E) s r (L.map (·.fst)) j H' hr1 h.bf (by rw [List.length_map]; omega) hjb
  simp only [svAV] at cB
  refine cg_use cB ?_
  obtain ⟨a, p1, p2, p3, p4, p5⟩ := h.tr.span hke hjl
  rw [hje] at p2 p3 p4
  have p6 : ∀ (i : Nat) (hi : i < (brs d ks').length) (hl : a + i < L.length), (L[a + i]).g = (brs d ks')[i] ∧ (L[a + i]).d = d := by
    intro i hi hl
    have := p5 i (by rw [hje]; exact hi) hl
    simp only [hje] at this
    exact this
  clear p5
  simp only at p2 p3 p4
  rw [hasF] at hR
  obtain ⟨gs, hgs⟩ : ∃ gs, gs = brs d ks' := ⟨_, rfl⟩
  have hgm : ∀ g ∈ gs, g ∈ brs d ks' := by rw [hgs]; exact fun g h => h
  simp only [← hgs] at p2 p3 p4 p6 hR
  obtain ⟨q, hqa⟩ : ∃ q : Nat, q = a + gs.length := ⟨_, rfl⟩
  have hspan : spanI (L.map (·.fst)) j = .tu [.int .i64 a, .int .i64 q] := by
    unfold spanI nullsN
    rw [p1]
    simp only
    rw [p4, show a + 1 + (gs.length - 1) = q by omega]
  rw [hspan]
  simp [t1, t2, t5, t6]
  refine W_for (HsJ k s r H a gs.length q j d gs) gs.length ?_ (tC_mono AC_mono) ?_
  · exact ⟨0, a, by omega, rfl, by simp [t1], by simp [t2], by simp [t5], by simp [t6], by simp, by simp, rfl, hle, b0'⟩
  clear t1 t2 t5 t6 hle b0'
  rintro m t H' ⟨i, p, him, hp, t1, t2, t5, t6, t8, t9, hP, hle, b0'⟩
  simp [t1, t2, t5, t6, t8, t9, b0']
  by_cases hi : i < gs.length
  · have hpq : p < q := by omega
    have hpL : p < L.length := by omega
    have hpI : (p : Int) < L.length := by omega
    have hls := h.ls
    obtain ⟨z1, z2⟩ := p6 i hi (by omega)
    simp only [← hp] at z1 z2
    have hlt := h.lt hpL
    obtain ⟨x, hx⟩ : ∃ x, x = gs[i].headD ⟨#[]⟩ := ⟨_, rfl⟩
    have hltr : L[p].ltr = letter x d := by
      unfold Br.ltr
      rw [z1, z2, hx]
    rw [hltr] at hlt
    have hw := wrapN (i := p) (by omega)
    have hbm := h.bm.bt (i := p) (by rw [List.length_map]; omega)
    rw [List.getElem_map] at hbm
    have hms : s.m.size = L.length := by rw [h.bm.size, List.length_map]
    have hmany : L[p].many = many gs[i] := by unfold Br.many; rw [z1]
    simp [hpq, t1, t2, t5, t6, t8, t9, b0', hlt, hls, hpL]
    refine cg_use (label_ok k d H' hdk (by omega)) ?_
    rw [pick_drop hi, ← hx] at hP
    by_cases hc : letter x d = letter k d
    · rw [if_pos hc] at hP
      rw [← hP] at hR
      simp only [← hx] at hR
      have hgi := hgm _ (List.getElem_mem hi)
      have hpn : ¬ p = q := by omega
      have hpn2 : ¬ (p : Int) = q := by omega
      cases hm : many gs[i] with
      | true =>
        rw [hm] at hmany
        rw [hmany, if_pos rfl] at hbm
        rw [hm, if_pos rfl] at hR
        simp [t1, t2, t5, t6, t8, t9, b0', hlt, hls, hpL, hc, hpn, hpn2, hbm, hms]
        have cN := node_ok (E := E) s r (L.map Br.many) p H' hr1 h.bm (by rw [List.length_map]; omega) (by rw [List.length_map]; omega)
        simp only [svAV] at cN
        refine cg_use cN ?_
        have hkd := h.kid hpL hmany
        obtain ⟨j2, hj2⟩ : ∃ j2, j2 = ((L.map Br.many).take (p + 1)).countP id := ⟨_, rfl⟩
        rw [← hj2] at hkd ⊢
        have hkk : L[p].kid = (gs[i], d + 1) := by unfold Br.kid; rw [z1, z2]
        rw [hkk] at hkd
        have hw2 := wrapN (i := d) (by omega)
        simp [t1, t2, t5, t6, t8, t9, b0', hw2]
        refine ⟨n, by omega, j2, d + 1, gs[i], hkd, by omega, letter_more hk hsp hgi hm (by rw [← hx]; exact hc), hR, by simp [t1], by simp [t2], by simp, by simp, hle, b0'⟩
      | false =>
        rw [hm] at hmany
        rw [hmany] at hbm
        simp only [Bool.false_eq_true, if_false] at hbm
        rw [hm] at hR
        simp only [Bool.false_eq_true, if_false] at hR
        have hw2 := wrapN (i := d) (by omega)
        have hrs := h.rs hpL hmany
        have hrst : L[p].rst keep = restK x (d + 1) keep := by unfold Br.rst; rw [z1, z2, hx]
        rw [hrst] at hrs
        obtain ⟨e, he⟩ : ∃ e : Nat, e = min (d + 1) k.size := ⟨_, rfl⟩
        have hmin : (if (k.size : Int) < (d : Int) + 1 then (k.size : Int) else (d : Int) + 1) = e := by
          split <;> omega
        have het : k.extract e k.size = tailK k d := by unfold tailK; rw [he]
        have hts : (tailK k d).size ≤ k.size := by rw [← het, ByteArray.size_extract]; omega
        have hxs : (restK x (d + 1) keep).size < 1000 := by
          unfold restK
          rw [ByteArray.size_extract]
          have := h.kp
          omega
        simp [t1, t2, t5, t6, t8, t9, b0', hlt, hls, hpL, hc, hpn, hpn2, hbm, hms, hw2, hmin, het]
        refine ⟨by omega, ?_⟩
        have cC := complete_ok (E := E) s r (L.map Br.many) p H' (hr.le hle) h.bm (by rw [List.length_map]; omega) (by rw [List.length_map]; omega) (by rw [List.length_map]; exact hls) _ hrs _ hlt
        have cR := rest_ok (E := E) s r (L.map Br.many) p H' (hr.le hle) h.bm (by rw [List.length_map]; omega) (by rw [List.length_map]; omega) _ hrs
        simp only [svAV] at cC cR
        refine cg_use cC ?_
        have hwk : (decide (letter x d = 45) || decide (((restK x (d + 1) keep).size : Int) < s.k)) = wholeK x d keep := by rw [h.en.k]; rfl
        rw [hwk]
        unfold leafHas at hR
        cases hwh : wholeK x d keep with
        | true =>
          rw [hwh, if_pos rfl] at hR
          simp [t1, t2, t5, t6, t8, t9, b0']
          refine cg_use cR ?_
          simp [hle, hR]
        | false =>
          rw [hwh] at hR
          simp only [Bool.false_eq_true, if_false] at hR
          simp [t1, t2, t5, t6, t8, t9, b0']
          refine cg_use cR ?_
          simp
          refine cg_use (KeyBegins_ok _ _ H' (by omega) (by omega)) ?_
          simp [hle, hR]
    · rw [if_neg hc] at hP
      have hcn : ¬ ((letter x d).toNat : Int) = (letter k d).toNat := fun e => hc (UInt8.toNat_inj.1 (by omega))
      have hcn2 : ¬ (letter x d).toNat = (letter k d).toNat := fun e => hc (UInt8.toNat_inj.1 e)
      simp [t1, t2, t5, t6, t8, t9, b0', hlt, hls, hpL, hcn, hcn2, hw]
      exact ⟨m - 1, by omega, i + 1, p + 1, by omega, by omega, by simp [t1], by simp [t2], by simp [t5], by simp [t6], by simp [t8], by simp, hP, hle, b0'⟩
  · have hpq : ¬ p < q := by omega
    have hpq2 : p = q := by omega
    rw [List.drop_of_length_le (by omega), pick_none] at hP
    rw [← hP] at hR
    simp only at hR
    simp [hpq, hpq2, t1, t2, t5, t6, t8, t9, b0', hR.symm, hle]

end Go.Proofs.YtgoeenodllmdpaaGreat.B


namespace Go.Proofs.YtgoeenodllmdpaaGreat.B
open Go.RowKit Go.Proofs
set_option linter.unusedVariables false
set_option linter.unusedSimpArgs false
variable {E : Env}

theorem Svt.of {ks : List ByteArray} {keep : Int} (h : keysOk ks = true) (hk : 0 ≤ keep ∧ keep ≤ 5) : ∃ F L, Svt ks keep F L (sieveR ks keep) := by
  obtain ⟨F, L, h1, h2, h3⟩ := Tr.of h keep
  exact ⟨F, L, h1, h2, by omega, hk⟩
theorem sieveO_some {ks : List ByteArray} {keep : Int} {v : Sv} (h : sieveO ks keep = some v) : keysOk ks = true ∧ 0 ≤ keep ∧ keep ≤ 5 ∧ v = sieveR ks keep := by
  unfold sieveO at h
  split at h
  · rename_i h1
    exact ⟨h1.1, h1.2.1, h1.2.2, (Option.some.inj h).symm⟩
  · cases h
def getR (s : Sr) (k : ByteArray) (t : Int) : Option Ent := (s.top :: s.lev).findSome? (atR k t)
theorem atR_key {k : ByteArray} {t : Int} : ∀ {r : List Ent} {e : Ent}, atR k t r = some e → e ∈ r ∧ e.key = k ∧ e.time ≤ t
  | [], e, h => by cases h
  | x :: r, e, h => by
    rw [atR] at h
    split at h
    · rename_i h1
      obtain rfl := Option.some.inj h
      exact ⟨by simp, h1.1, h1.2⟩
    · obtain ⟨h1, h2⟩ := atR_key h
      exact ⟨List.mem_cons_of_mem _ h1, h2⟩
theorem keys1_in : ∀ {r : List Ent} {p : Option Ent} {e : Ent}, e ∈ r → e.key ∈ keys1 p r ∨ ∃ q, p = some q ∧ q.key = e.key
  | x :: r, p, e, h => by
    have own : x.key ∈ keys1 p (x :: r) ∨ ∃ q, p = some q ∧ q.key = x.key := by
      rw [keys1]
      split
      · exact .inl (by simp)
      · rename_i hn
        cases p with
        | none => exact absurd rfl hn
        | some q => exact .inr ⟨q, rfl, by
            have h2 : ¬ (!decide (q.key = x.key)) = true := hn
            simpa using h2⟩
    have sub : ∀ {y : ByteArray}, y ∈ keys1 (some x) r → y ∈ keys1 p (x :: r) := by
      intro y hy
      rw [keys1]
      split
      · exact List.mem_cons_of_mem _ hy
      · exact hy
    rcases List.mem_cons.1 h with rfl | h
    · exact own
    · rcases keys1_in (p := some x) h with h1 | ⟨q, hq, hk⟩
      · exact .inl (sub h1)
      · obtain rfl := Option.some.inj hq
        rw [← hk]
        exact own
theorem keysR_mem {r : List Ent} {e : Ent} (h : e ∈ r) : e.key ∈ keysR r := by
  rcases keys1_in (p := none) h with h | ⟨q, hq, _⟩
  · exact h
  · cases hq
theorem hidden {l : List Ent} {keep : Int} {v : Sv} {k : ByteArray} {t : Int} (h : sieveO (keysR l) keep = some v) (hh : hasR (keysR l) keep k = false) : atR k t l = none := by
  cases ha : atR k t l with
  | none => rfl
  | some e =>
    obtain ⟨h1, h2, _⟩ := atR_key ha
    obtain ⟨h3, h4, h5, _⟩ := sieveO_some h
    have := hasR_self h3 h4 (keysR_mem h1)
    rw [h2, hh] at this
    cases this

theorem storeOk_level {s : Sr} (h : storeOk s = true) {i : Nat} (hi : i < 3) (hl : i < s.lev.length) (hv : i < s.sv.length) : sieveO (keysR s.lev[i]) s.keep = some s.sv[i] := by
  simp only [storeOk, Bool.and_eq_true, decide_eq_true_eq] at h
  have lv : levelOk s i = true := by
    match i, hi with
    | 0, _ => exact h.2.1.1
    | 1, _ => exact h.2.2.1.1
    | 2, _ => exact h.2.2.2.1
  simp only [levelOk, Bool.and_eq_true, decide_eq_true_eq] at lv
  have := lv.2
  rw [getD_get [] hl, getD_get default hv] at this
  exact this
theorem findSome_drop {α β : Type} {f : α → Option β} {l : List α} {i : Nat} (hi : i < l.length) : (l.drop i).findSome? f = (f l[i]).or ((l.drop (i + 1)).findSome? f) := by
  rw [List.drop_eq_getElem_cons hi, List.findSome?_cons]
  cases f l[i] <;> rfl
def FdI (s : Sr) (a b c d : AV) (k : ByteArray) (time : Int) (H : Hp) (m : Nat) (t : Tm) (H' : Hp) : Prop := ∃ i : Nat, i + m = 3 ∧ t 1 = .str k ∧ t 2 = .int .i64 time ∧ t 3 = .pt H.length 0 0 ∧ t 6 = .pt (H.length + 1) 0 0 ∧ t 25 = b ∧ t 26 = .int .i64 3 ∧ t 27 = .int .i64 i ∧ (s.lev.drop i).findSome? (atR k time) = getR s k time ∧ HLe H H' ∧
  H'.at H.length = some ⟨[[a, b, c, .int .i64 s.keep, .int .i64 s.time, d]], 6, 28, false⟩ ∧ H'.at (H.length + 1) = some ⟨[[.str ⟨#[]⟩, .int .i64 0, .bool false, .int .i64 0]], 4, 99, false⟩
set_option maxHeartbeats 1600000 in
theorem find_ok (v : AV) (s : Sr) (k : ByteArray) (time : Int) (H : Hp) (hs : St H v s) (hb : StB s) (ho : storeOk s = true) (hk : keyOk k = true) :
    AC Tryz.prog E 85 [v, .str k, .int .i64 time] H (fun u H' => u = .tu (entAV (getR s k time)) ∧ H' = H) := by
  have hst := hs
  obtain ⟨a, b, c, d, lr, sr, rfl, ha, hb1, hlr, hc, hsr, hd⟩ := hs
  obtain ⟨hB1, hB2, hB3, hB4, hB5, hB6, hB7, hB8, hB9⟩ := hb
  have hsm := storeOk_small ho
  have e3 : s.lev.length = 3 := hsm.2.2.2.2.2.2.2.1
  have s3 : s.sv.length = 3 := hsm.2.2.2.2.2.2.2.2
  have ll := hlr.length
  have ls := hsr.length
  have l1 := hb1.len
  rw [ll, e3] at l1
  have hplain : (AV.tu (entAV (getR s k time))).plain = true := by unfold entAV; split <;> simp [entRow]
  refine AC_byp (tC_le tabJ_ok) h_impl_Store_find hplain ?_
  obtain ⟨H1, hH1⟩ : ∃ H1 : Hp, H1 = H ++ [some ⟨[[a, b, c, .int .i64 s.keep, .int .i64 s.time, d]], 6, 28, false⟩, some ⟨[[.str ⟨#[]⟩, .int .i64 0, .bool false, .int .i64 0]], 4, 99, false⟩] := ⟨_, rfl⟩
  have hle1 : HLe H H1 := by rw [hH1]; exact HLe.self _ _
  have b0 : H1.at H.length = some ⟨[[a, b, c, .int .i64 s.keep, .int .i64 s.time, d]], 6, 28, false⟩ := by rw [hH1]; simp
  have b1 : H1.at (H.length + 1) = some ⟨[[.str ⟨#[]⟩, .int .i64 0, .bool false, .int .i64 0]], 4, 99, false⟩ := by rw [hH1]; simp
  have u1 := Hp.at_lt b1
  simp [c_impl_Store_find, stAV, Rows.one ha, hb1.one, hc.one, Rows.one hd, ← hH1, b0]
  refine cg_use (at_ok a s.top k time H1 (ha.le hle1) (by have := hB1.1; omega)) ?_
  cases ht : atR k time s.top with
  | some e =>
    have hg : getR s k time = some e := by unfold getR; rw [List.findSome?_cons, ht]
    rw [hg]
    obtain ⟨ek, ev, eg, et⟩ := e
    simp [entAV, entRow, b1, u1, Hp.at_app, Hp.at_set, set_in', at_in]
    exact (hle1.set (by omega) _).app _
  | none =>
    have hg : s.lev.findSome? (atR k time) = getR s k time := by unfold getR; rw [List.findSome?_cons, ht]
    obtain ⟨G, hG⟩ : ∃ G : Hp, G = H1 ++ [some ⟨[[.str ⟨#[]⟩, .int .i64 0, .bool false, .int .i64 0]], 4, 99, false⟩] := ⟨_, rfl⟩
    have hleG : HLe H1 G := by rw [hG]; exact HLe.self _ _
    have g0 := hleG.2 _ _ b0
    have g1 := hleG.2 _ _ b1
    simp [entAV, entRow]
    simp only [← hG]
    simp [g0, l1, hb1.slc]
    refine W_for (FdI s a b c d k time H) 3 ?_ (tC_mono AC_mono) ?_
    · exact ⟨0, by simp, by simp, by simp, by simp, by simp, by simp, by simp, by simp, by simpa using hg, hle1.trans hleG, g0, g1⟩
    rintro m t H' ⟨i, him, t1, t2, t3, t6, t25, t26, t27, hP, hle, c0, c1⟩
    simp [t1, t2, t3, t6, t25, t26, t27, c0]
    refine c_split (fun hq => ?_) (fun hq => ?_) <;> simp at hq
    · have hi3 : i < 3 := by omega
      have hil : i < s.lev.length := by omega
      have his : i < s.sv.length := by omega
      have hiI : (i : Int) < 3 := by omega
      have hw := wrapN (i := i) (by omega)
      obtain ⟨o1, i1, ob1, rfl, x1, x2, x3⟩ := hb1.get (j := i) (by omega)
      obtain ⟨u, hu, hue⟩ := hlr.get i (by omega) hil
      rw [hu] at x3
      obtain ⟨o2, i2, ob2, rfl, y1, y2, y3⟩ := hc.get (j := i) (by omega)
      obtain ⟨r, hr, hrs, _⟩ := hsr.get i (by omega) his
      rw [hr] at y3
      have x1' := hle.2 _ _ x1
      have y1' := hle.2 _ _ y1
      have q1 : i < lr.length := by omega
      have q2 : i < sr.length := by omega
      have hso := storeOk_level ho hi3 hil his
      obtain ⟨v1, v2, v3, v4⟩ := sieveO_some hso
      obtain ⟨F, L, hsvt⟩ := Svt.of v1 ⟨v2, v3⟩
      rw [← v4] at hsvt
      simp [t1, t2, t3, t6, t25, t26, t27, c0, x1', x2, x3, y1', y2, y3, q1, q2]
      have cH := has_ok (E := E) s.sv[i] r k _ _ F L H' hsvt (hrs.le hle) hk
      simp only [svAV] at cH
      refine cg_use cH ?_
      rw [findSome_drop hil] at hP
      cases hh : hasR (keysR s.lev[i]) s.keep k with
      | false =>
        rw [hidden hso hh, Option.none_or] at hP
        simp [t1, t2, t3, t6, t25, t26, t27, hw]
        exact ⟨m - 1, by omega, i + 1, by omega, by simp [t1], by simp [t2], by simp [t3], by simp [t6], by simp [t25], by simp [t26], by simp, hP, hle, c0, c1⟩
      | true =>
        simp [t1, t2, t3, t6, t25, t26, t27]
        refine cg_use (at_ok u s.lev[i] k time H' (hue.le hle) (by have := (hB2 _ (List.getElem_mem hil)).1; omega)) ?_
        have w1 := Hp.at_lt c1
        cases hat : atR k time s.lev[i] with
        | some e =>
          rw [hat, Option.some_or] at hP
          rw [← hP]
          obtain ⟨ek, ev, eg, et⟩ := e
          simp [entAV, entRow, t1, t2, t3, t6, t25, t26, t27, c1, w1, Hp.at_app, Hp.at_set, set_in', at_in]
          exact (hle.set (by omega) _).app _
        | none =>
          rw [hat, Option.none_or] at hP
          obtain ⟨G2, hG2⟩ : ∃ G : Hp, G = H' ++ [some ⟨[[.str ⟨#[]⟩, .int .i64 0, .bool false, .int .i64 0]], 4, 99, false⟩] := ⟨_, rfl⟩
          have hleG2 : HLe H' G2 := by rw [hG2]; exact HLe.self _ _
          simp [entAV, entRow, t1, t2, t3, t6, t25, t26, t27, hw]
          simp only [← hG2]
          exact ⟨m - 1, by omega, i + 1, by omega, by simp [t1], by simp [t2], by simp [t3], by simp [t6], by simp [t25], by simp [t26], by simp, hP, hle.trans hleG2, hleG2.2 _ _ c0, hleG2.2 _ _ c1⟩
    · have : i = 3 := by omega
      subst this
      rw [List.drop_of_length_le (by omega)] at hP
      rw [← hP]
      have w1 := Hp.at_lt c1
      simp [entAV, entRow, t1, t2, t3, t6, t25, t26, t27, c1, w1, Hp.at_app, Hp.at_set, set_in', at_in]
      exact hle.set (by omega) _

def knownR (s : Sr) (t : Int) : Bool := decide (t = s.time) || decide (t ∈ s.tms)
theorem known_ok (v : AV) (s : Sr) (time : Int) (H : Hp) (hs : St H v s) (hb : StB s) :
    AC Tryz.prog E 81 [v, .int .i64 time] H (fun u H' => u = .bool (knownR s time) ∧ H' = H) := by
  obtain ⟨a, b, c, d, lr, sr, rfl, ha, hb1, hlr, hc, hsr, hd⟩ := hs
  refine AC_byp (tC_le tabJ_ok) h_impl_Store_known (by simp) ?_
  obtain ⟨H1, hH1⟩ : ∃ H1 : Hp, H1 = H ++ [some ⟨[[a, b, c, .int .i64 s.keep, .int .i64 s.time, d]], 6, 28, false⟩] := ⟨_, rfl⟩
  have hle1 : HLe H H1 := by rw [hH1]; exact HLe.self _ _
  have b0 : H1.at H.length = some ⟨[[a, b, c, .int .i64 s.keep, .int .i64 s.time, d]], 6, 28, false⟩ := by rw [hH1]; simp
  simp [c_impl_Store_known, stAV, Rows.one ha, hb1.one, hc.one, Rows.one hd, ← hH1, b0]
  by_cases he : time = s.time
  · simp [he, knownR, hle1]
  · simp [he, b0, knownR]
    refine cg_use (ContainsI_ok d s.tms time H1 (hd.le hle1) (by have := hb.2.2.2.2.1; omega)) ?_
    simp [hle1]
def gotR (s : Sr) (k : ByteArray) (t : Int) : Int × Bool := if storeOk s = true ∧ keyOk k = true ∧ knownR s t = true then match getR s k t with
    | some e => (e.val, !e.gone)
    | none => (0, false)
  else (0, false)
theorem implStoreGet_ok (v : AV) (s : Sr) (k : ByteArray) (time : Int) (H : Hp) (hs : St H v s) (hb : StB s) (hk : k.size < 4611686018427387904) :
    AC Tryz.prog E 41 [v, .str k, .int .i64 time] H (fun u H' => u = .tu [.int .i64 (gotR s k time).1, .bool (gotR s k time).2] ∧ H' = H) := by
  have hs0 := hs
  obtain ⟨a, b, c, d, rfl, n1, n2, n3, n4, _, _⟩ := hs.shape
  refine AC_byp (tC_le tabJ_ok) h_impl_StoreGet (by simp) ?_
  obtain ⟨H1, hH1⟩ : ∃ H1 : Hp, H1 = H ++ [some ⟨[[a, b, c, .int .i64 s.keep, .int .i64 s.time, d]], 6, 28, false⟩] := ⟨_, rfl⟩
  have hle1 : HLe H H1 := by rw [hH1]; exact HLe.self _ _
  have b0 : H1.at H.length = some ⟨[[a, b, c, .int .i64 s.keep, .int .i64 s.time, d]], 6, 28, false⟩ := by rw [hH1]; simp
  simp [c_impl_StoreGet, n1, n2, n3, n4, ← hH1, b0]
  refine cg_use (implStoreOk_ok _ s H1 (hs0.le hle1) hb) ?_
  have hkey : ∀ {C : CallP} {d : Option Nat} {ag} {p : Plan} {t : Tm} {H : Hp} {K : Tm → Hp → Prop}, _ := @fun C d ag p t H K => tabJ_key C d ag p t H K k hk
  unfold gotR
  cases ho : storeOk s with
  | false => simp [hle1]
  | true =>
    cases hko : keyOk k with
    | false => simp [hkey, hko, hle1]
    | true =>
      simp [hkey, hko, b0]
      refine cg_use (known_ok _ s time H1 (hs0.le hle1) hb) ?_
      cases hkn : knownR s time with
      | false => simp [hle1]
      | true =>
        simp [b0]
        refine cg_use (find_ok _ s k time H1 (hs0.le hle1) hb ho hko) ?_
        cases hg : getR s k time with
        | none =>
          simp [entAV, entRow, Hp.at_app]
          exact hle1.app _
        | some e =>
          obtain ⟨ek, ev, eg, et⟩ := e
          simp [entAV, entRow, Hp.at_app]
          exact hle1.app _

end Go.Proofs.YtgoeenodllmdpaaGreat.B


namespace Go.Proofs.YtgoeenodllmdpaaGreat.B
open Go.RowKit Go.Proofs
set_option linter.unusedVariables false
set_option linter.unusedSimpArgs false

theorem atR_none {k : ByteArray} {t : Int} : ∀ {r : List Ent}, atR k t r = none ↔ ∀ x ∈ r, x.key = k → ¬ x.time ≤ t
  | [] => by simp [atR]
  | y :: r => by
    rw [atR]
    by_cases h : y.key = k ∧ y.time ≤ t
    · rw [if_pos h]
      refine ⟨(fun h1 => by cases h1), fun h1 => absurd h.2 (h1 y (by simp) h.1)⟩
    · rw [if_neg h, atR_none]
      refine ⟨fun h1 x hx hk ht => ?_, fun h1 x hx => h1 x (List.mem_cons_of_mem _ hx)⟩
      rcases List.mem_cons.1 hx with rfl | hx
      · exact h ⟨hk, ht⟩
      · exact h1 x hx hk ht
theorem atR_best {k : ByteArray} {t : Int} : ∀ {r : List Ent}, r.Pairwise (fun a b => ahead a b = true) → ∀ {e : Ent}, atR k t r = some e ↔ Best r k t e
  | [], _, e => by
    refine ⟨(fun h => by cases h), (fun h => by cases h.mem)⟩
  | y :: r, hp, e => by
    obtain ⟨h1, h2⟩ := List.pairwise_cons.1 hp
    rw [atR]
    by_cases h : y.key = k ∧ y.time ≤ t
    · rw [if_pos h]
      have hlt : ∀ z ∈ r, z.key = k → z.time < y.time := fun z hz hk => by
        rcases (ahead_iff _ _).1 (h1 z hz) with h3 | h3
        · rw [h.1, hk] at h3
          rw [sless_irrefl] at h3
          cases h3
        · exact h3.2
      constructor
      · intro he
        obtain rfl := Option.some.inj he
        refine ⟨by simp, h.1, h.2, fun z hz hk ht => ?_⟩
        rcases List.mem_cons.1 hz with rfl | hz
        · exact Int.le_refl _
        · have := hlt z hz hk
          omega
      · intro hb
        rcases List.mem_cons.1 hb.mem with he | he
        · rw [he]
        · have a1 := hlt e he hb.key
          have a2 := hb.max y (by simp) h.1 h.2
          omega
    · rw [if_neg h, atR_best h2]
      constructor
      · intro hb
        refine ⟨List.mem_cons_of_mem _ hb.mem, hb.key, hb.le, fun z hz hk ht => ?_⟩
        rcases List.mem_cons.1 hz with rfl | hz
        · exact absurd ⟨hk, ht⟩ h
        · exact hb.max z hz hk ht
      · intro hb
        rcases List.mem_cons.1 hb.mem with he | he
        · rw [← he] at h
          exact absurd ⟨hb.key, hb.le⟩ h
        · exact ⟨he, hb.key, hb.le, fun z hz => hb.max z (List.mem_cons_of_mem _ hz)⟩
theorem find_best {k : ByteArray} {t : Int} : ∀ {ls : List (List Ent)}, (∀ l ∈ ls, l.Pairwise (fun a b => ahead a b = true)) → ls.Pairwise Newer → ∀ {e : Ent}, ls.findSome? (atR k t) = some e ↔ Best ls.flatten k t e
  | [], _, _, e => by
    refine ⟨(fun h => by cases h), (fun h => by cases h.mem)⟩
  | l :: ls, h1, h2, e => by
    obtain ⟨h3, h4⟩ := List.pairwise_cons.1 h2
    have hn : Newer l ls.flatten := fun x hx y hy hk => by
      obtain ⟨m, hm, hy⟩ := List.mem_flatten.1 hy
      exact h3 m hm x hx y hy hk
    have ih := find_best (k := k) (t := t) (fun m hm => h1 m (List.mem_cons_of_mem _ hm)) h4 (e := e)
    rw [List.findSome?_cons, List.flatten_cons, best_app hn, ← atR_best (h1 l (by simp)), ← ih, ← atR_none]
    cases atR k t l with
    | none => simp
    | some x => simp
theorem Val.best {s : Sr} (h : Val s) {k : ByteArray} {t : Int} {e : Ent} : getR s k t = some e ↔ Best (entsR s) k t e := by
  obtain ⟨a, b, c, u, v, w, h⟩ := h
  unfold getR
  rw [find_best]
  · rfl
  · intro l hl
    rw [h.lev] at hl
    simp only [List.mem_cons, List.not_mem_nil, or_false] at hl
    rcases hl with rfl | rfl | rfl | rfl
    · exact (runOk_pair h.top).1
    · exact (runOk_pair h.la.run).1
    · exact (runOk_pair h.lb.run).1
    · exact (runOk_pair h.lc.run).1
  · rw [h.lev]
    refine List.pairwise_cons.2 ⟨fun l hl => ?_, List.pairwise_cons.2 ⟨fun l hl => ?_, List.pairwise_cons.2 ⟨fun l hl => ?_, List.pairwise_singleton _ _⟩⟩⟩
    · refine h.ta.sub (fun _ h => h) (fun x hx => ?_)
      simp only [List.mem_cons, List.not_mem_nil, or_false] at hl
      rcases hl with rfl | rfl | rfl <;> simp [hx]
    · refine h.ab.sub (fun _ h => h) (fun x hx => ?_)
      simp only [List.mem_cons, List.not_mem_nil, or_false] at hl
      rcases hl with rfl | rfl <;> simp [hx]
    · rw [List.mem_singleton.1 hl]
      exact h.bc
theorem Val.ok {s : Sr} (h : Val s) : storeOk s = true := by
  obtain ⟨a, b, c, u, v, w, h⟩ := h
  exact h.ok
theorem Val.late {s : Sr} (h : Val s) : ∀ e ∈ entsR s, e.time ≤ s.time := by
  obtain ⟨a, b, c, u, v, w, h⟩ := h
  rw [entsR_of h.lev]
  exact h.late
theorem Val.ent {s : Sr} (h : Val s) : ∀ e ∈ entsR s, entOk e = true := by
  obtain ⟨a, b, c, u, v, w, h⟩ := h
  rw [entsR_of h.lev]
  intro e he
  simp only [List.mem_append] at he
  rcases he with he | he | he | he
  · exact (runOk_pair h.top).2.1 e he
  · exact (runOk_pair h.la.run).2.1 e he
  · exact (runOk_pair h.lb.run).2.1 e he
  · exact (runOk_pair h.lc.run).2.1 e he
theorem entOk_gone {e : Ent} (h : entOk e = true) (hg : e.gone = true) : e.val = 0 := by
  simp only [entOk, Bool.and_eq_true, Bool.or_eq_true, decide_eq_true_eq] at h
  rcases h.1.2 with h1 | h1
  · rw [hg] at h1
    cases h1
  · exact h1
theorem gotR_eq {s x : Sr} {k : ByteArray} {t t' : Int} (hs : Val s) (hx : Val x) (h1 : knownR s t = true) (h2 : knownR x t' = true) (h : ∀ f : Ent, f.gone = false → (Best (entsR s) k t f ↔ Best (entsR x) k t' f)) : gotR s k t = gotR x k t' := by
  have one : ∀ {y : Sr} {z : Int}, Val y → knownR y z = true → ∀ {f : Ent}, f.gone = false → Best (entsR y) k z f → keyOk k = true → gotR y k z = (f.val, true) := by
    intro y z hy hz f hf hb hk
    unfold gotR
    rw [if_pos ⟨hy.ok, hk, hz⟩, hy.best.2 hb]
    simp [hf]
  have non : ∀ {y : Sr} {z : Int}, Val y → (∀ f : Ent, f.gone = false → ¬ Best (entsR y) k z f) → gotR y k z = (0, false) := by
    intro y z hy hn
    unfold gotR
    split
    · cases hg : getR y k z with
      | none => rfl
      | some f =>
        have hb := hy.best.1 hg
        cases hf : f.gone with
        | false => exact absurd hb (hn f hf)
        | true =>
          have := entOk_gone (hy.ent f hb.mem) hf
          simp [hf, this]
    · rfl
  by_cases hk : keyOk k = true
  · by_cases he : ∃ f : Ent, f.gone = false ∧ Best (entsR s) k t f
    · obtain ⟨f, hf, hb⟩ := he
      rw [one hs h1 hf hb hk, one hx h2 hf ((h f hf).1 hb) hk]
    · have hn : ∀ f : Ent, f.gone = false → ¬ Best (entsR s) k t f := fun f hf hb => he ⟨f, hf, hb⟩
      rw [non hs hn, non hx (fun f hf hb => hn f hf ((h f hf).2 hb))]
  · unfold gotR
    rw [if_neg (fun h => hk h.2.1), if_neg (fun h => hk h.2.1)]
theorem known_now (s : Sr) : knownR s s.time = true := by simp [knownR]
theorem put_other {s x : Sr} {k other : ByteArray} {val : Int} (hs : storeOk s = true → Val s) (hx : putR s k val = some x) (ho : other ≠ k) : gotR s other s.time = gotR x other x.time := by
  unfold putR at hx
  have hok : storeOk s = true := by
    unfold addR at hx
    split at hx
    · rename_i h
      simp only [Bool.and_eq_true] at h
      exact h.1
    · cases hx
  have hV := hs hok
  obtain ⟨a, b, c, u, v, w, hv⟩ := hs hok
  obtain ⟨hxv, ht, hkp, htm, hek, y, hfd, hsub, hmem⟩ := add_V (e := ⟨k, val, false, s.time + 1⟩) hv rfl hx
  have hlate : ∀ z ∈ entsR y, z.time ≤ s.time := fun z hz => hV.late z (hsub z hz)
  refine gotR_eq hV hxv (known_now s) (known_now x) (fun f hf => ?_)
  rw [hfd s.time (.inr rfl) other f hf, ht]
  constructor
  · intro hb
    refine ⟨(hmem f).2 (.inr hb.mem), hb.key, by have := hb.le; omega, fun z hz hzk hzt => ?_⟩
    rcases (hmem z).1 hz with rfl | hz
    · exact absurd hzk.symm ho
    · exact hb.max z hz hzk (hlate z hz)
  · intro hb
    rcases (hmem f).1 hb.mem with rfl | hm
    · exact absurd hb.key.symm ho
    · exact ⟨hm, hb.key, hlate f hm, fun z hz hzk hzt => hb.max z ((hmem z).2 (.inr hz)) hzk (by omega)⟩
end Go.Proofs.YtgoeenodllmdpaaGreat.B


namespace Go.Proofs.YtgoeenodllmdpaaGreat.B
open Go.RowKit Go.Proofs
set_option linter.unusedVariables false
set_option linter.unusedSimpArgs false
variable {E : Env}

theorem Rd.e2 {K : Hp} {r M : Nat} (hr : Rd K r M) : ∀ x ob, x = r → K.at x = some ob → ob.esz = 2 := by
  intro x ob hx ho
  obtain ⟨b, bs, p, h1, _⟩ := hr
  rw [hx, h1] at ho
  cases ho
  rfl
theorem keysR_size {r : List Ent} {B : Nat} (h : ∀ e ∈ r, e.key.size ≤ B) : ∀ k ∈ keysR r, k.size ≤ B := by
  intro k hk
  obtain ⟨e, he, rfl⟩ := keys1_mem none r k hk
  exact h e he
set_option maxHeartbeats 1600000 in
theorem l71Of_ok (o N : Nat) (v : AV) (s : Sr) (H : Hp) (hr : Rd H o N) (hN : N < 34359738368) (hs : St H v s) (hp : Spl s) :
    AC Tryz.prog E 111 [.pt o 0 0, v] H (fun u H' => ∃ k, u = .str k ∧ k.size ≤ 5 ∧ Dr o H H' ∧ Rd H' o (N + 7)) := by
  obtain ⟨a, b, c, d, lr, sr, rfl, f1, f2, f3, f4, f5, f6⟩ := hs
  refine AC_by fol (tC_le tab2_ok) h_spec_l71Of ?_
  obtain ⟨H1, hH1⟩ : ∃ H1 : Hp, H1 = H ++ [some ⟨[[a, b, c, .int .i64 s.keep, .int .i64 s.time, d]], 6, 28, false⟩] := ⟨_, rfl⟩
  have hle1 : HLe H H1 := by rw [hH1]; exact HLe.self _ _
  have b0 : H1.at H.length = some ⟨[[a, b, c, .int .i64 s.keep, .int .i64 s.time, d]], 6, 28, false⟩ := by rw [hH1]; simp
  have ll := f3.length
  have l1 := f2.len
  rw [ll] at l1
  obtain ⟨z1, z2, z3⟩ := hp.sml
  simp [c_spec_l71Of, stAV, Rows.one f1, f2.one, f4.one, Rows.one f6, ← hH1, b0]
  refine cg_ex (l11Keys_ok a s.top H1 (f1.le hle1) (by omega)) ?_
  rintro v0 H2 ⟨hle2, hv0⟩
  simp
  refine W_for (fun m t H' => ∃ (i : Nat) (out : List ByteArray) (w : AV), i + m = s.lev.length ∧ t 0 = .pt o 0 0 ∧ t 3 = .pt H.length 0 0 ∧ t 5 = w ∧ t 6 = .int .i64 i ∧ HLe H1 H' ∧ OwnS H1 H' w out ∧ out.length ≤ 2000 + 1000 * i ∧ ∀ k ∈ out, k.size ≤ 5) s.lev.length ?_ (tC_mono AC_mono) ?_
  · refine ⟨0, keysR s.top, v0, by omega, by simp, by simp, by simp, by simp, hle2, hv0, ?_, keysR_size (fun e he => hp.key e (List.mem_append_left _ he))⟩
    have := keysR_len s.top
    omega
  rintro m t H' ⟨i, out, w, him, t0, t3, t5, t6, hle, hw, hol, hok⟩
  have c0 := hle.2 _ _ b0
  have hleH := hle1.trans hle
  simp [t0, t3, t5, t6, c0, l1, f2.slc]
  refine c_split (fun hq => ?_) (fun hq => ?_) <;> simp at hq
  · have hi : i < s.lev.length := by omega
    have hw2 := wrapN (i := i) (by omega)
    obtain ⟨o1, i1, ob1, rfl, x1, x2, x3⟩ := f2.get (j := i) (by omega)
    obtain ⟨u, hu, hue⟩ := f3.get i (by omega) hi
    rw [hu] at x3
    have x1' := hleH.2 _ _ x1
    have q1 : i < lr.length := by omega
    have hlen := z3 _ (List.getElem_mem hi)
    simp [t0, t3, t5, t6, c0, x1', x2, x3, q1]
    refine cg_ex (l11Keys_ok u s.lev[i] H' (hue.le hleH) (by omega)) ?_
    rintro v1 H3 ⟨hle3, hv1⟩
    have hk1 := keysR_len s.lev[i]
    have hw3 := hw.le hle3
    simp [t0, t3, t5, t6]
    refine appG_cat (bytes := 16) hw3 hv1.rows (hle.trans hle3) (by omega) (fun v2 H4 g1 g2 g3 g4 => ?_)
    simp [t0, t3, t5, t6, hw2]
    refine ⟨m - 1, by omega, i + 1, by omega, by omega, g1, out ++ keysR s.lev[i], g2, by rw [List.length_append]; omega, fun k hk => ?_⟩
    rcases List.mem_append.1 hk with h | h
    · exact hok k h
    · exact keysR_size (fun e he => hp.key e (List.mem_append_right _ (List.mem_flatten.2 ⟨_, List.getElem_mem hi, he⟩))) k h
  · simp [t0, t5]
    refine cg_ex (l71Near_ok o N w out H' (hr.le hleH) hw.rows (by omega) hok (by omega)) ?_
    rintro v1 H3 ⟨k, rfl, hk, hd, hr3⟩
    simp
    exact ⟨hk, (hleH.fr (S := fun x => x = o)).same hd, hr3⟩

def DrawnK (H H' : Hp) (v : AV) : Prop := ∃ w s k n, v = .tu [w, .str k, .int .i64 n] ∧ HLe H H' ∧ St H' w s ∧ StB s ∧ Spl s ∧ k.size ≤ 5
set_option maxHeartbeats 1600000 in
theorem DrawStorePut_ok (c : AV) (bs : List Int) (H : Hp) (hc : Bytes H c bs) (hn : bs.length < 4611686018427387904) :
    AC Tryz.prog E 45 [c] H (fun v H' => DrawnK H H' v) := by
  refine AC_by fol (tC_le tab2_ok) h_spec_DrawStorePut ?_
  obtain ⟨H1, hH1⟩ : ∃ H1 : Hp, H1 = H ++ [some ⟨[[.nils, .nils, .nils, .int .i64 0, .int .i64 0, .nils]], 6, 28, false⟩] := ⟨_, rfl⟩
  have hle1 : HLe H H1 := by rw [hH1]; exact HLe.self _ _
  have b1 : H1.at H.length = some ⟨[[.nils, .nils, .nils, .int .i64 0, .int .i64 0, .nils]], 6, 28, false⟩ := by rw [hH1]; simp
  simp [c_spec_DrawStorePut, ← hH1]
  refine cg_ex (l6Open_ok c bs H1 ⟨hc.1.le hle1, hc.2⟩ hn) ?_
  rintro v H2 ⟨r, rfl, ho, hle2, hr2⟩
  have hol := hr2.lt
  have lH : H.length < H1.length := Hp.at_lt b1
  have b2 := hle2.2 _ _ b1
  simp
  refine cg_ex (l71Spoilt_ok r 0 H2 hr2 (by omega)) ?_
  rintro w H3 ⟨s, hs, hsb, hsp, hd3, hr3⟩
  obtain ⟨xa, xb, xc, xd, hw, n1, n2, n3, n4, _⟩ := hs.shape
  have hw' := hw
  subst hw'
  have b3 := hd3.2 _ _ (show ¬ H.length = r by omega) b2
  obtain ⟨H4, hH4⟩ : ∃ H4 : Hp, H4 = H3 ++ [some ⟨[[xa, xb, xc, .int .i64 s.keep, .int .i64 s.time, xd]], 6, 28, false⟩] := ⟨_, rfl⟩
  have hle4 : HLe H3 H4 := by rw [hH4]; exact HLe.self _ _
  have c4 : H4.at H3.length = some ⟨[[xa, xb, xc, .int .i64 s.keep, .int .i64 s.time, xd]], 6, 28, false⟩ := by rw [hH4]; simp
  have b4 := hle4.2 _ _ b3
  have hr4 := hr3.le hle4
  have hle14 : HLe H H4 := ((hle1.trans hle2).fr_le hd3 (fun x hx => by omega)).trans hle4
  have l34 := Hp.at_lt c4
  have l3 := hd3.len
  have hs4 := hs.le hle4
  simp [n1, n2, n3, n4, ← hH4, c4]
  refine cg_ex (l71Of_ok r _ _ s H4 hr4 (by omega) hs4 hsp) ?_
  rintro v H5 ⟨k, rfl, hk, hd5, hr5⟩
  have b5 := hd5.2 _ _ (show ¬ H.length = r by omega) b4
  have c5 := hd5.2 _ _ (show ¬ H3.length = r by omega) c4
  have hs5 := hs4.frE hd5 (e := 2) (by simp) hr4.e2
  have hle15 := hle14.fr_le hd5 (fun x hx => by omega)
  simp
  refine cg_ex (pick_ok r _ 24 H5 hr5 (by omega) (by omega)) ?_
  rintro v H6 ⟨z, rfl, hz, hd6, hr6, hlen6⟩
  have b6 := hd6.2 _ _ (show ¬ H.length = r by omega) b5
  have c6 := hd6.2 _ _ (show ¬ H3.length = r by omega) c5
  have hs6 := hs5.frE hd6 (e := 2) (by simp) hr5.e2
  have hle16 := hle15.fr_le hd6 (fun x hx => by omega)
  have hk2 : (⟨#[120]⟩ : ByteArray).size ≤ 5 := by decide
  simp
  refine c_split (fun hq => ?_) (fun hq => ?_) <;> simp at hq <;> simp [c6]
  all_goals
    refine cg_ex (pick_ok r _ 100 H6 hr6 (by omega) (by omega)) ?_
    rintro v H7 ⟨y, rfl, hy, hd7, hr7, hlen7⟩
    have b7 := hd7.2 _ _ (show ¬ H.length = r by omega) b6
    have c7 := hd7.2 _ _ (show ¬ H3.length = r by omega) c6
    have hs7 := hs6.frE hd7 (e := 2) (by simp) hr6.e2
    have hle17 := hle16.fr_le hd7 (fun x hx => by omega)
    simp [c7]
    refine cg_ex (pick_ok r _ 24 H7 hr7 (by omega) (by omega)) ?_
    rintro v H8 ⟨x, rfl, hx, hd8, hr8, hlen8⟩
    have b8 := hd8.2 _ _ (show ¬ H.length = r by omega) b7
    have c8 := hd8.2 _ _ (show ¬ H3.length = r by omega) c7
    have hs8 := hs7.frE hd8 (e := 2) (by simp) hr7.e2
    have hle18 := hle17.fr_le hd8 (fun x hx => by omega)
    have u8 := Hp.at_lt b8
    simp [c8, b8, u8, n1, n2, n3, n4, Hp.at_set]
    have F := Fr.one H8 H.length (some ⟨[[xa, xb, xc, .int .i64 s.keep, .int .i64 s.time, xd]], 6, 28, false⟩)
    have hS : ∀ y ob, y = H.length → H8.at y = some ob → ob.esz = 6 := fun y ob hy ho => by
      rw [hy, b8] at ho
      cases ho
      rfl
    exact ⟨_, s, _, _, rfl, hle18.fr_le F (fun x hx => by omega), hs8.frE F (e := 6) (by simp) hS, hsb, hsp, by first | exact hk | exact hk2⟩

theorem DrawKeyBegins_ok (c : AV) (bs : List Int) (H : Hp) (hc : Bytes H c bs) (hn : bs.length < 4611686018427387904) :
    AC Tryz.prog E 46 [c] H (fun v H' => ∃ k k2, v = .tu [.str k, .str k2] ∧ HLe H H' ∧ k.size ≤ 5) := by
  refine AC_by fol (tC_le tab2_ok) h_spec_DrawKeyBegins ?_
  simp [c_spec_DrawKeyBegins]
  refine cg_ex (l6Open_ok c bs H hc hn) ?_
  rintro v H2 ⟨r, rfl, ho, hle2, hr2⟩
  have hol := hr2.lt
  simp
  refine cg_ex (l71Key_ok r 0 H2 hr2 (by omega)) ?_
  rintro v H3 ⟨k, rfl, hk, hd3, hr3⟩
  simp
  have hle3 := hle2.fr_le hd3 (fun x hx => by omega)
  obtain ⟨G, hG⟩ : ∃ G : Hp, G = H3 ++ [some ⟨[[.str k]], 1, 9, false⟩] := ⟨_, rfl⟩
  have hleG : HLe H3 G := by rw [hG]; exact HLe.self _ _
  have hl : Strs G (.sl H3.length 0 1) [k] := by
    rw [hG]
    exact Strs.at (e := 9) (ro := false) (by simp [strRow]) rfl
  rw [← hG]
  refine cg_ex (l71Near_ok r _ _ _ G (hr3.le hleG) hl (by simp) (by simpa using hk) (by omega)) ?_
  rintro v H4 ⟨k2, rfl, hk2, hd4, hr4⟩
  simp
  exact ⟨(hle3.trans hleG).fr_le hd4 (fun x hx => by omega), hk⟩

end Go.Proofs.YtgoeenodllmdpaaGreat.B


namespace Go.Proofs.YtgoeenodllmdpaaGreat.B
open Go.RowKit Go.Proofs
set_option linter.unusedVariables false
set_option linter.unusedSimpArgs false
variable {E : Env}

def sNil : Sr := ⟨[], [], [], 0, 0, []⟩
theorem sNil_B : StB sNil := ⟨⟨by simp [sNil], by simp [sNil, Fits]⟩, by simp [sNil], by simp [sNil], by simp [sNil], by simp [sNil], by simp [sNil], by simp [sNil, I64], by simp [sNil, I64], by simp [sNil]⟩
theorem RetS.vl {H0 H : Hp} {u : AV} {o : Option Sr} (h : RetS H0 H u o) (hb : ∀ x, o = some x → Small x) : HLe H0 H ∧ StB (o.getD sNil) ∧ ∃ a b c d, u = .tu [.ag [a, b, c, .int .i64 (o.getD sNil).keep, .int .i64 (o.getD sNil).time, d], .bool o.isSome] ∧ one a = true ∧ one b = true ∧ one c = true ∧ one d = true ∧ St H (.ag [a, b, c, .int .i64 (o.getD sNil).keep, .int .i64 (o.getD sNil).time, d]) (o.getD sNil) := by
  obtain ⟨h1, h2⟩ := h
  cases o with
  | none => exact ⟨h1, sNil_B, .nils, .nils, .nils, .nils, h2, rfl, rfl, rfl, rfl, .nils, .nils, .nils, .nils, [], [], rfl, Rows.nil, Rows.nil, trivial, Rows.nil, trivial, Rows.nil⟩
  | some x =>
    obtain ⟨w, e, hm⟩ := h2
    obtain ⟨a, b, c, d, rfl, n1, n2, n3, n4, _⟩ := hm.st.shape
    exact ⟨h1, (hb x rfl).stB, a, b, c, d, e, n1, n2, n3, n4, hm.st⟩
theorem St.box {H K : Hp} {a b c d : AV} {s : Sr} (h : St H (.ag [a, b, c, .int .i64 s.keep, .int .i64 s.time, d]) s) (hK : K = H ++ [some ⟨[[a, b, c, .int .i64 s.keep, .int .i64 s.time, d]], 6, 28, false⟩]) :
    HLe H K ∧ K.at H.length = some ⟨[[a, b, c, .int .i64 s.keep, .int .i64 s.time, d]], 6, 28, false⟩ ∧ St K (.ag [a, b, c, .int .i64 s.keep, .int .i64 s.time, d]) s := by
  have hle : HLe H K := by rw [hK]; exact HLe.self _ _
  exact ⟨hle, by rw [hK]; simp, h.le hle⟩
theorem ltStore_same {v v' : AV} {s : Sr} {H : Hp} (hs : St H v s) (hs' : St H v' s) (hb : StB s) : AC Tryz.prog E 29 [v, v'] H (fun u H' => u = .bool true ∧ H' = H) :=
  (ltStore_ok v v' s s H hs hs' hb hb).mono (fun u H' h => ⟨by rw [h.1]; simp, h.2⟩)
set_option maxHeartbeats 1600000 in
theorem lawStorePutOther_ok (c c2 : AV) (bs bs2 : List Int) (H : Hp) (hc : Bytes H c bs) (hn : bs.length < 4611686018427387904) (hc2 : Bytes H c2 bs2) (hn2 : bs2.length < 4611686018427387904) :
    AC Tryz.prog E 9 [c, c2] H (fun v H' => v = .bool true) := by
  refine AC_by fol (tC_le tabJ_ok) h_laws_FnStorePutOther ?_
  have l1 := hc.len
  have l2 := hc2.len
  simp [c_laws_FnStorePutOther, l1, l2, hc.1.slc, hc2.1.slc]
  by_cases q1 : 1048576 < bs.length
  · have q1I : (1048576 : Int) < bs.length := by omega
    simp [q1, q1I]
  by_cases q2 : 1048576 < bs2.length
  · have q1I : ¬ (1048576 : Int) < bs.length := by omega
    have q2I : (1048576 : Int) < bs2.length := by omega
    simp [q1, q1I, q2, q2I, l2, hc2.1.slc]
  have q1I : ¬ (1048576 : Int) < bs.length := by omega
  have q2I : ¬ (1048576 : Int) < bs2.length := by omega
  simp [q1, q1I, q2, q2I, l2, hc2.1.slc]
  refine cg_ex (DrawStorePut_ok c bs H hc hn) ?_
  rintro v H1 ⟨w, s, k, n, rfl, hle1, hs, hsb, hsp, hk⟩
  obtain ⟨xa, xb, xc, xd, rfl, n1, n2, n3, n4, _⟩ := hs.shape
  obtain ⟨H2, hH2⟩ : ∃ H2 : Hp, H2 = H1 ++ [some ⟨[[xa, xb, xc, .int .i64 s.keep, .int .i64 s.time, xd]], 6, 28, false⟩] := ⟨_, rfl⟩
  obtain ⟨hle2, b2, hs2⟩ := St.box hs hH2
  simp [n1, n2, n3, n4, ← hH2]
  refine cg_ex (DrawKeyBegins_ok c2 bs2 H2 ⟨hc2.1.le (hle1.trans hle2), hc2.2⟩ hn2) ?_
  rintro v H3 ⟨ot, k2, rfl, hle3, hot⟩
  have b3 := hle3.2 _ _ b2
  have hs3 := hs2.le hle3
  simp [b3]
  have hsm : ∀ x, putR s k n = some x → Small x := fun x hx => addR_small hx
  refine cg_ex (StorePut_ok _ s k n H3 hs3 hsb (by omega)) ?_
  intro v H4 hret
  obtain ⟨hle4, hob, ya, yb, yc, yd, rfl, m1, m2, m3, m4, hy⟩ := hret.vl hsm
  obtain ⟨x, hx⟩ : ∃ x, x = (putR s k n).getD sNil := ⟨_, rfl⟩
  rw [← hx] at hob hy ⊢
  obtain ⟨H5, hH5⟩ : ∃ H5 : Hp, H5 = H4 ++ [some ⟨[[ya, yb, yc, .int .i64 x.keep, .int .i64 x.time, yd]], 6, 28, false⟩] := ⟨_, rfl⟩
  obtain ⟨hle5, c5, hy5⟩ := St.box hy hH5
  have b5 := hle5.2 _ _ (hle4.2 _ _ b3)
  have hs5 := hs3.le (hle4.trans hle5)
  simp [m1, m2, m3, m4, ← hH5, b5]
  refine cg_ex (implPut_ok _ s k n H5 hs5 hsb (by omega)) ?_
  intro v H6 hret6
  obtain ⟨hle6, _, za, zb, zc, zd, rfl, p1, p2, p3, p4, hz⟩ := hret6.ret.vl hsm
  rw [← hx] at hz ⊢
  obtain ⟨H7, hH7⟩ : ∃ H7 : Hp, H7 = H6 ++ [some ⟨[[za, zb, zc, .int .i64 x.keep, .int .i64 x.time, zd]], 6, 28, false⟩] := ⟨_, rfl⟩
  obtain ⟨hle7, d7, hz7⟩ := St.box hz hH7
  have h57 := hle6.trans hle7
  have b7 := h57.2 _ _ b5
  have c7 := h57.2 _ _ c5
  have hy7 := hy5.le h57
  have hs7 := hs5.le h57
  simp [p1, p2, p3, p4, ← hH7, d7, c7]
  refine cg_use (ltStore_same hz7 hy7 hob) ?_
  cases ho : putR s k n with
  | none =>
    simp [d7, c7]
    refine cg_use (ltStore_same hz7 hy7 hob) ?_
    simp
  | some x' =>
    by_cases he : ot = k
    · simp [he, d7, c7]
      refine cg_use (ltStore_same hz7 hy7 hob) ?_
      simp
    · have hxx : x = x' := by rw [hx, ho]; rfl
      have hg := put_other hsp.val ho he
      rw [← hxx] at hg
      simp [he, b7]
      refine cg_use (implStoreGet_ok _ s ot s.time H7 hs7 hsb (by omega)) ?_
      simp [d7]
      refine cg_use (implStoreGet_ok _ x ot x.time H7 hz7 hob (by omega)) ?_
      rw [← hg]
      simp

end Go.Proofs.YtgoeenodllmdpaaGreat.B


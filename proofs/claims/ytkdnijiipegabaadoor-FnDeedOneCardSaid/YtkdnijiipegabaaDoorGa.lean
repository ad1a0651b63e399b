/- Runs, sieves and stores, in plain Lean. -/
import Derived.Test.YtkdnijiipegabaaDoorEf
namespace Go.Proofs.YtkdnijiipegabaaDoor.B
open Go.RowKit
set_option linter.unusedVariables false
set_option linter.unusedSimpArgs false

/-! ### Runs -/

/-- Can an entry be found at some times, or now, if the one ahead of it is so. -/
def seenB (times : List Int) (p : Option Ent) (e : Ent) : Bool :=
  match p with
  | none => true
  | some q => !decide (q.key = e.key) || times.any fun t => decide (e.time ≤ t) && decide (t < q.time)
def trim1 (times : List Int) : Option Ent → List Ent → List Ent
  | _, [] => []
  | p, e :: es => if seenB times p e = true then e :: trim1 times (some e) es else trim1 times (some e) es
/-- Is an entry its key's last one. -/
def lastB (e : Ent) : List Ent → Bool
  | [] => true
  | f :: _ => !decide (f.key = e.key)
/-- What was taken away at last is left out. -/
def drop1 : List Ent → List Ent
  | [] => []
  | e :: es => if (!e.gone || !lastB e es) = true then e :: drop1 es else drop1 es
/-- Does the one ahead have another key. -/
def newK (p : Option Ent) (e : Ent) : Bool :=
  match p with
  | none => true
  | some q => !decide (q.key = e.key)
def trimR (r : List Ent) (times : List Int) (bottom : Bool) : List Ent := if bottom = true then drop1 (trim1 times none r) else trim1 times none r
def keys1 : Option Ent → List Ent → List ByteArray
  | _, [] => []
  | p, e :: es => if newK p e = true then e.key :: keys1 (some e) es else keys1 (some e) es
/-- The keys of a run. -/
def keysR (r : List Ent) : List ByteArray := keys1 none r
/-- What was put last of a key up to a time. -/
def atR (k : ByteArray) (time : Int) : List Ent → Option Ent
  | [] => none
  | e :: es => if e.key = k ∧ e.time ≤ time then some e else atR k time es
def newE (below : List Ent) (time : Int) (e : Ent) : Bool := decide (e.time ≤ time) && (match atR e.key 999 below with | none => true | some f => decide (f.time < e.time))
def newestR (below : List Ent) (time : Int) : List Ent → Bool
  | [] => true
  | e :: es => newE below time e && newestR below time es
def asc1 (now : Int) : Option Int → List Int → Bool
  | _, [] => true
  | p, t :: ts => decide (0 ≤ t) && decide (t ≤ now) && (match p with | none => true | some q => decide (q < t)) && asc1 now (some t) ts
def timesR (ts : List Int) (now : Int) : Bool := asc1 now none ts && decide (ts.length ≤ 3)

/-! ### Sieves -/
structure Sv where
  l : ByteArray
  m : ByteArray
  f : ByteArray
  r : List ByteArray
  k : Int
deriving DecidableEq, Inhabited

/-- A key's letter at a place, - at its end. -/
def letter (k : ByteArray) (d : Nat) : UInt8 := if h : d < k.size then k.data[d] else 45
/-- Keys of the same letter as the first one. -/
def grp (d : Nat) (ks : List ByteArray) : List ByteArray :=
  match ks with
  | [] => []
  | k :: _ => ks.filter fun x => letter x d == letter k d
theorem grp_pos (d : Nat) (k : ByteArray) (ks : List ByteArray) : 0 < (grp d (k :: ks)).length := by
  simp [grp]
/-- The branches of a fork. -/
def brs (d : Nat) : List ByteArray → List (List ByteArray)
  | [] => []
  | k :: ks => grp d (k :: ks) :: brs d ((k :: ks).drop (grp d (k :: ks)).length)
termination_by ks => ks.length
decreasing_by
  have := grp_pos d k ks
  simp only [List.length_drop, List.length_cons]
  omega
/-- What is kept of a key behind so many letters. -/
def restK (k : ByteArray) (d : Nat) (keep : Int) : ByteArray := (k.extract d k.size).extract 0 (min (k.size - d) keep.toNat)
abbrev Fk := List ByteArray × Nat
def many (g : List ByteArray) : Bool := decide (1 < g.length)
/-- A branch behind others. -/
def addB (d : Nat) (first : Bool) (s : Sv) (g : List ByteArray) : Sv :=
  { s with
    l := s.l ++ lit1 (letter (g.headD ⟨#[]⟩) d)
    f := s.f ++ lit1 (if first = true then 49 else 48)
    m := s.m ++ lit1 (if many g = true then 49 else 48)
    r := if many g = true then s.r else s.r ++ [restK (g.headD ⟨#[]⟩) (d + 1) s.k] }
def addBs (d : Nat) : Bool → Sv → List (List ByteArray) → Sv
  | _, s, [] => s
  | b, s, g :: gs => addBs d false (addB d b s g) gs
def subs (d : Nat) (gs : List (List ByteArray)) : List Fk := (gs.filter many).map fun g => (g, d + 1)
/-- Fork by fork. -/
def bfs : Nat → List Fk → Sv → Sv
  | 0, _, s => s
  | _ + 1, [], s => s
  | n + 1, (ks, d) :: q, s => bfs n (q ++ subs d (brs d ks)) (addBs d true s (brs d ks))
def sieveR (ks : List ByteArray) (keep : Int) : Sv := bfs 500 [(ks, 0)] ⟨⟨#[]⟩, ⟨#[]⟩, ⟨#[]⟩, [], keep⟩
def sieveO (ks : List ByteArray) (keep : Int) : Option Sv := if keysOk ks = true ∧ 0 ≤ keep ∧ keep ≤ 5 then some (sieveR ks keep) else none

/-! ### Stores -/
structure Sr where
  top : List Ent
  lev : List (List Ent)
  sv : List Sv
  keep : Int
  time : Int
  tms : List Int
deriving DecidableEq, Inhabited

def sizeL (i : Nat) : Nat := 8 * (i + 1)
def levelOk (s : Sr) (i : Nat) : Bool := runOk (s.lev.getD i []) && decide ((s.lev.getD i []).length ≤ sizeL i) && decide (sieveO (keysR (s.lev.getD i [])) s.keep = some (s.sv.getD i default))
def lowOk (s : Sr) (i k : Nat) : Bool := newestR (s.lev.getD k []) s.time (s.lev.getD i [])
def okAt (s : Sr) (i : Nat) : Prop := levelOk s i = true ∧ newestR (s.lev.getD i []) s.time s.top = true ∧ ∀ k, k < 3 → i < k → lowOk s i k = true
instance decOkAt (s : Sr) (i : Nat) : Decidable (okAt s i) := by unfold okAt; infer_instance
def headOk (s : Sr) : Bool := decide (s.lev.length = 3) && decide (s.sv.length = 3) && decide (0 ≤ s.keep ∧ s.keep ≤ 5) && decide (0 ≤ s.time ∧ s.time ≤ 999) && timesR s.tms s.time
def storeOk (s : Sr) : Bool := headOk s && (runOk s.top && decide (s.top.length ≤ 4)) && decide (okAt s 0 ∧ okAt s 1 ∧ okAt s 2)

def setR (s : Sr) (i : Nat) (r : List Ent) : Option Sr :=
  match sieveO (keysR r) s.keep with
  | none => none
  | some x => if r.length ≤ sizeL i then some { s with lev := s.lev.set i r, sv := s.sv.set i x } else none
/-- A run into the level that has so many below it. -/
def intoR : Nat → Sr → List Ent → Option Sr
  | 0, s, r => setR s 2 (trimR (joinL r (s.lev.getD 2 [])) s.tms true)
  | n + 1, s, r =>
    match setR s (1 - n) (trimR (joinL r (s.lev.getD (1 - n) [])) s.tms false) with
    | some x => some x
    | none => match intoR n s (s.lev.getD (1 - n) []) with
      | none => none
      | some x => setR x (1 - n) (trimR r x.tms false)
def downR (s : Sr) : Option Sr := intoR 2 { s with top := [] } s.top
def addR (s : Sr) (e : Ent) : Option Sr :=
  if (storeOk s && entOk e) = true then
    match (if 4 ≤ s.top.length then downR s else some s) with
    | none => none
    | some x => some { x with top := joinL [e] x.top, time := e.time }
  else none
def putR (s : Sr) (k : ByteArray) (v : Int) : Option Sr := addR s ⟨k, v, false, s.time + 1⟩
def takeR (s : Sr) (k : ByteArray) : Option Sr := addR s ⟨k, 0, true, s.time + 1⟩
def holdR (s : Sr) : Option Sr :=
  if storeOk s = true then
    let ts := if s.tms.getLast? = some s.time then s.tms else s.tms ++ [s.time]
    if timesR ts s.time = true then some { s with tms := ts } else none
  else none
def freeR (s : Sr) (t : Int) : Option Sr :=
  if storeOk s = true then
    let ts := s.tms.filter fun x => !decide (x = t)
    if ts.length = s.tms.length then none else some { s with tms := ts }
  else none
def letR (s : Sr) : Option Sr := if storeOk s = true then downR s else none
def joinR (s : Sr) (l : Int) : Option Sr :=
  if storeOk s = true ∧ 0 ≤ l ∧ l ≤ 1 then
    match setR s l.toNat [] with
    | none => none
    | some x => intoR (1 - l.toNat) x (s.lev.getD l.toNat [])
  else none
structure Dd where
  kind : Int
  key : ByteArray
  num : Int
deriving DecidableEq, Inhabited
def ddAV (d : Dd) : AV := .ag [.int .i64 d.kind, .str d.key, .int .i64 d.num]
def doR (s : Sr) (d : Dd) : Option Sr :=
  if d.kind = 1 then putR s d.key d.num else if d.kind = 2 then takeR s d.key else if d.kind = 3 then holdR s else if d.kind = 4 then freeR s d.num
  else if d.kind = 5 then letR s else if d.kind = 6 then joinR s d.num else none
def doAll (s : Sr) (ds : List Dd) : Sr := ds.foldl (fun s d => (doR s d).getD s) s
def pastR (s : Sr) (ds : List Dd) : Option Sr := if (storeOk s && decide (ds.length ≤ 40)) = true then some (doAll s ds) else none
def newR (keep : Int) : Option Sr := if 0 ≤ keep ∧ keep ≤ 5 then some ⟨[], [[], [], []], List.replicate 3 ⟨⟨#[]⟩, ⟨#[]⟩, ⟨#[]⟩, [], keep⟩, keep, 0, []⟩ else none

end Go.Proofs.YtkdnijiipegabaaDoor.B

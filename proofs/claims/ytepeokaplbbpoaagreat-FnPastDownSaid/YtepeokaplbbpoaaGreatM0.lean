/- A part of the proof: The program logic's base: abstract values and objects, and how they lie in the machine's memory. The program logic: what becomes of the objects in the machine's memory when a block is made, written, or grown. The program logic: a new block, a cell written, several cells written. The program logic: abstract operations, and what each does. The program logic: each abstract operation is what the machine does (those that make and write no memory). The program logic: the operations that read, make and write memory. The program logic: building, literals, equality, make. The program logic: make, comparisons with nil, append. The program logic: append. The program logic: cap of nil, clear, and append of new ones. The program logic: codes, and what they do. The program logic: regions in any order. The program logic: regions in any order, done. The program logic: from the program's operations to the abstract ones. The program logic: from the program's codes and functions to the abstract ones. The program logic: the rules by which functions are proved. The program logic: the rules by which functions are proved, in words for simp. The program logic: what simp does with a code. Nothing here has a binder in front of what comes later: simp goes through a code from its head on. There is no condition. -/
import Derived.Below
import Derived.Orders
import Derived.Laws.Slices
import Derived.Laws.Tables
import Derived.Laws.OwnMore
import Derived.Laws.StructEq
import Derived.Laws.Strings3
import Derived.Great.BuildSlice
import Derived.ArgAppend
import Derived.Laws.BytesString
import Derived.Lib.AppendZeros
namespace Go.Proofs.YtepeokaplbbpoaaGreat.B
open Go.RowKit
set_option linter.unusedVariables false
inductive AV where
 | int (k:IntKind) (n:Int)
 | bool (b:Bool)
 | str (s:ByteArray)
 | nilp | nils | sz | nilf | nili | un | any
 | sl (o i n:Nat)
 | pt (o i f:Nat)
 | ag (cs:List AV)
 | tu (vs:List AV)
 | fn (f:FuncId) (caps:List AV)
 | er (c:Nat)
deriving Inhabited
structure Ob where
 rows:List (List AV)
 esz:Nat
 ety:Nat
 ro:Bool
deriving Inhabited
abbrev Hp:=List (Option Ob)
structure Pl where
 b:Nat
 base:Nat
 esz:Nat
 sz:Nat
 ro:Bool
abbrev Phi:=Nat->Option Pl
mutual
def VR (φ:Phi):AV->Value->Prop
 | .int k n,v=>v=.int k n
 | .bool b,v=>v=.bool b
 | .str s,v=>v=.string s
 | .nilp,v=>v=.pointer none
 | .nils,v=>v=.slice none 0 0
 | .sz,v=>∃ a,v=.slice (some a) 0 0
 | .nilf,v=>v=.nilFunc
 | .nili,v=>v=.nilIface
 | .un,v=>v=undef
 | .any,_=>True
 | .sl o i n,v=>∃ p a c,φ o=some p/\v=.slice (some a) n c/\n<=c /\
   (c=0\/(a=⟨p.b,p.base+i * p.esz,none⟩/\(p.ro=true\/(i+c) * p.esz=p.sz)))
 | .pt o i f,v=>∃ p,φ o=some p/\v=.pointer (some ⟨p.b,p.base+i * p.esz+f,none⟩)
 | .ag cs,v=>∃ l,v=.agg l.toArray/\VRs φ cs l
 | .tu cs,v=>∃ l,v=.tuple l.toArray/\VRs φ cs l
 | .fn f cs,v=>∃ l,v=.func (.func f) #[] l.toArray/\VRs φ cs l
 | .er _,v=>∃ t x,v=.iface t x
def VRs (φ:Phi):List AV->List Value->Prop
 | [],l=>l=[]
 | a :: as,l=>∃ v vs,l=v :: vs/\VR φ a v/\VRs φ as vs
end
def PLe (φ φ':Phi):Prop:=∀ o p,φ o=some p->φ' o=some p
theorem PLe.refl (φ:Phi):PLe φ φ:=fun _ _ h=>h
theorem PLe.trans {a b c:Phi} (h:PLe a b) (k:PLe b c):PLe a c:=fun o p hp=>k o p (h o p hp)
mutual
theorem VR.mono {φ φ':Phi} (h:PLe φ φ'):∀ (a:AV) (v:Value),VR φ a v->VR φ' a v
 | .int _ _,_,r=>r
 | .bool _,_,r=>r
 | .str _,_,r=>r
 | .nilp,_,r=>r
 | .nils,_,r=>r
 | .sz,_,r=>r
 | .nilf,_,r=>r
 | .nili,_,r=>r
 | .un,_,r=>r
 | .any,_,_=>trivial
 | .sl o i n,v,r=>by
  obtain⟨p,a,c,h1,h2⟩:=r
  exact⟨p,a,c,h _ _ h1,h2⟩
 | .pt o i f,v,r=>by
  obtain⟨p,h1,h2⟩:=r
  exact⟨p,h _ _ h1,h2⟩
 | .ag cs,v,r=>by
  obtain⟨l,h1,h2⟩:=r
  exact⟨l,h1,VRs.mono h cs l h2⟩
 | .tu cs,v,r=>by
  obtain⟨l,h1,h2⟩:=r
  exact⟨l,h1,VRs.mono h cs l h2⟩
 | .fn f cs,v,r=>by
  obtain⟨l,h1,h2⟩:=r
  exact⟨l,h1,VRs.mono h cs l h2⟩
 | .er _,_,r=>r
theorem VRs.mono {φ φ':Phi} (h:PLe φ φ'):∀ (as:List AV) (l:List Value),VRs φ as l->VRs φ' as l
 | [],_,r=>r
 | a :: as,_,r=>by
  obtain⟨v,vs,h1,h2,h3⟩:=r
  exact⟨v,vs,h1,VR.mono h a v h2,VRs.mono h as vs h3⟩
end
theorem VRs.length {φ:Phi}:∀ {as:List AV} {l:List Value},VRs φ as l->l.length=as.length
 | [],_,h=>by rw [h]; rfl
 | _ :: _,_,⟨_,_,h1,_,h3⟩=>by rw [h1,List.length_cons,VRs.length h3,List.length_cons]
theorem VRs.get {φ:Phi}:∀ {as:List AV} {l:List Value},VRs φ as l->∀ (i:Nat) (a:AV),as[i]?=some a->∃ v,l[i]?=some v/\VR φ a v
 | [],_,_,i,a,h=>by simp at h
 | x :: as,_,⟨v,vs,h1,h2,h3⟩,i,a,h=>by
  subst h1
  cases i with
  | zero =>
   have:x=a:=by simpa using h
   subst this
   exact⟨v,by simp,h2⟩
  | succ i =>
   obtain⟨u,hu,hr⟩:=VRs.get h3 i a (by simpa using h)
   exact⟨u,by simpa using hu,hr⟩
theorem VRs.of_get {φ:Phi}:∀ {as:List AV} {l:List Value},l.length=as.length->(∀ (i:Nat) (a:AV),as[i]?=some a->∃ v,l[i]?=some v/\VR φ a v)->VRs φ as l
 | [],l,hl,_=>by
  cases l with
  | nil=>rfl
  | cons _ _=>simp at hl
 | a :: as,l,hl,h=>by
  cases l with
  | nil=>simp at hl
  | cons v vs =>
   obtain⟨u,hu,hr⟩:=h 0 a (by simp)
   have:v=u:=by simpa using hu
   subst this
   exact⟨v,vs,rfl,hr,VRs.of_get (by simpa using hl) (fun i x hx=>by simpa using h (i+1) x (by simpa using hx))⟩
theorem VRs.append {φ:Phi}:∀ {as bs:List AV} {l m:List Value},VRs φ as l->VRs φ bs m->VRs φ (as++bs) (l++m)
 | [],_,_,_,h,k=>by rw [show _=([]:List Value) from h]; exact k
 | _ :: _,_,_,_,⟨v,vs,h1,h2,h3⟩,k=>by
  subst h1
  exact⟨v,vs++_,rfl,h2,VRs.append h3 k⟩
theorem VRs.set {φ:Phi} {as:List AV} {l:List Value} (h:VRs φ as l) (i:Nat) {a:AV} {v:Value} (hr:VR φ a v):VRs φ (as.set i a) (l.set i v):=by
 refine VRs.of_get (by simp [h.length]) (fun j x hx=>?_)
 rw [List.getElem?_set] at hx ⊢
 split at hx
 ·rename_i e
  subst e
  rw [if_pos rfl]
  split at hx
  ·rename_i hlt
   have:a=x:=by simpa using hx
   subst this
   rw [if_pos (by rw [h.length]; exact hlt)]
   exact⟨v,rfl,hr⟩
  ·simp at hx
 ·rename_i e
  rw [if_neg e]
  exact h.get _ _ hx
def one:AV->Bool
 | .ag _=>false
 | .tu _=>false
 | .un=>false
 | .any=>false
 | _=>true
structure OB (B0:Nat) (φ:Phi) (ob:Ob) (p:Pl) (w:World):Prop where
 ro:p.ro=ob.ro
 esz:p.esz=ob.esz
 blk:∃ cells e fr,w.heap[p.b]?=some (.cells cells e fr)/\(ob.ro=false->fr=(0,0)/\e=ob.ety/\p.sz=cells.size/\p.base=0/\B0<=p.b) /\
  ∀ (i:Nat) (row:List AV),ob.rows[i]?=some row->row.length=ob.esz/\∀ (f:Nat) (a:AV),row[f]?=some a->one a=true/\∃ v,cells[p.base+i * ob.esz+f]?=some v/\VR φ a v
structure Env where
 B0:Nat
 G:World->Prop
 st:∀ w w',Below B0 w w'->G w->G w'
structure HR (E:Env) (φ:Phi) (H:Hp) (w:World):Prop where
 obj:∀ (o:Nat) (ob:Ob),H[o]?=some (some ob)->∀ p,φ o=some p->OB E.B0 φ ob p w
 inj:∀ (o o':Nat) (ob ob':Ob),H[o]?=some (some ob)->H[o']?=some (some ob')->∀ p p',φ o=some p->φ o'=some p'->ob.ro=false->o≠o'->p.b≠p'.b
 dom:∀ o p,φ o=some p->o<H.length
 blk:∀ o p,φ o=some p->p.b<w.heap.size
 base:E.B0<=w.heap.size
 glob:E.G w
end Go.Proofs.YtepeokaplbbpoaaGreat.B

namespace Go.Proofs.YtepeokaplbbpoaaGreat.B
open Go.RowKit
set_option linter.unusedVariables false
theorem one_cell {φ:Phi} {a:AV} {v:Value} (h1:one a=true) (h:VR φ a v):v.oneCell'=true:=by
 cases a<;>simp [one] at h1
 case int=>rw [show v=_ from h]; rfl
 case bool=>rw [show v=_ from h]; rfl
 case str=>rw [show v=_ from h]; rfl
 case nilp=>rw [show v=_ from h]; rfl
 case nils=>rw [show v=_ from h]; rfl
 case sz=>obtain⟨a,h2⟩:=h; rw [h2]; rfl
 case nilf=>rw [show v=_ from h]; rfl
 case nili=>rw [show v=_ from h]; rfl
 case sl=>obtain⟨p,a,c,_,h2,_⟩:=h; rw [h2]; rfl
 case pt=>obtain⟨p,_,h2⟩:=h; rw [h2]; rfl
 case fn=>obtain⟨l,h2,_⟩:=h; rw [h2]; rfl
 case er=>obtain⟨t,x,h2⟩:=h; rw [h2]; rfl
theorem HR.cell {E:Env} {φ:Phi} {H:Hp} {w:World} (h:HR E φ H w) {o:Nat} {ob:Ob} (ho:H[o]?=some (some ob)) {p:Pl} (hp:φ o=some p)
  {i:Nat} {row:List AV} (hr:ob.rows[i]?=some row) {f:Nat} {a:AV} (ha:row[f]?=some a) :
  ∃ v,w.cell? ⟨p.b,p.base+i * p.esz+f,none⟩=some v/\VR φ a v/\one a=true:=by
 obtain⟨hro,hes,cells,e,fr,hb,_,hc⟩:=h.obj o ob ho p hp
 obtain⟨hl,hc⟩:=hc i row hr
 obtain⟨h1,v,hv,hR⟩:=hc f a ha
 refine⟨v,?_,hR,h1⟩
 rw [<- hes] at hv
 simp [World.cell?,hb,hv]
theorem HR.keep {E:Env} {φ:Phi} {H:Hp} {w w':World} (h:HR E φ H w) (hb:Below E.B0 w w') (hk:∀ o ob p,H[o]?=some (some ob)->φ o=some p->w'.heap[p.b]?=w.heap[p.b]?):HR E φ H w' where
 obj:=fun o ob ho p hp=>by
  obtain⟨hro,hes,cells,e,fr,hb',h1,hc⟩:=h.obj o ob ho p hp
  exact⟨hro,hes,cells,e,fr,by rw [hk o ob p ho hp]; exact hb',h1,hc⟩
 inj:=h.inj
 dom:=h.dom
 blk:=fun o p hp=>Nat.lt_of_lt_of_le (h.blk o p hp) hb.size
 base:=Nat.le_trans h.base hb.size
 glob:=E.st w w' hb h.glob
theorem HR.drew {E:Env} {φ:Phi} {H:Hp} {w:World} (h:HR E φ H w):HR E φ H { w with drawn:=w.drawn+1 } :=
 h.keep ⟨rfl,rfl,rfl,Nat.le_refl _,fun _ _=>rfl⟩ (fun _ _ _ _ _=>rfl)
theorem HR.kill {E:Env} {φ:Phi} {H:Hp} {w:World} (h:HR E φ H w) (o:Nat):HR E φ (H.set o none) w where
 obj:=fun o' ob ho p hp=>by
  rw [List.getElem?_set] at ho
  split at ho
  ·split at ho<;>simp at ho
  ·exact h.obj o' ob ho p hp
 inj:=fun o1 o2 ob1 ob2 h1 h2 p p' hp hp' hro hne=>by
  rw [List.getElem?_set] at h1 h2
  split at h1
  ·split at h1<;>simp at h1
  ·split at h2
   ·split at h2<;>simp at h2
   ·exact h.inj o1 o2 ob1 ob2 h1 h2 p p' hp hp' hro hne
 dom:=fun o' p hp=>by rw [List.length_set]; exact h.dom o' p hp
 blk:=h.blk
 base:=h.base
 glob:=h.glob
def Phi.put (φ:Phi) (o:Nat) (p:Pl):Phi:=fun x=>if x=o then some p else φ x
theorem Phi.put_le {φ:Phi} {o:Nat} {p:Pl} (h:φ o=none):PLe φ (φ.put o p):=fun x q hq=>by
 unfold Phi.put
 split
 ·rename_i e
  subst e
  rw [h] at hq
  cases hq
 ·exact hq
theorem HR.none_at {E:Env} {φ:Phi} {H:Hp} {w:World} (h:HR E φ H w):φ H.length=none:=by
 cases hφ:φ H.length with
 | none=>rfl
 | some p=>exact absurd (h.dom _ p hφ) (Nat.lt_irrefl _)
theorem HR.add {E:Env} {φ:Phi} {H:Hp} {w:World} (h:HR E φ H w) (ob:Ob) (p:Pl) (hro:p.ro=ob.ro)
  (hfree:ob.ro=false->∀ o' ob' p',H[o']?=some (some ob')->φ o'=some p'->p'.b≠p.b)
  (hrw:∀ o' ob' p',H[o']?=some (some ob')->φ o'=some p'->ob'.ro=false->p'.b≠p.b)
  (hob:OB E.B0 (φ.put H.length p) ob p w) (hlt:p.b<w.heap.size):HR E (φ.put H.length p) (H++[some ob]) w where
 obj:=fun o' ob' ho p' hp=>by
  rcases Nat.lt_or_ge o' H.length with hl | hl
  ·rw [List.getElem?_append_left hl] at ho
   have hp':φ o'=some p':=by
    unfold Phi.put at hp
    rw [if_neg (by omega)] at hp
    exact hp
   obtain⟨a1,a2,cells,e,fr,hb',h1,hc⟩:=h.obj o' ob' ho p' hp'
   refine⟨a1,a2,cells,e,fr,hb',h1,fun i row hr=>⟨(hc i row hr).1,fun f a ha=>?_⟩⟩
   obtain⟨k1,v,hv,hR⟩:=(hc i row hr).2 f a ha
   exact⟨k1,v,hv,VR.mono (Phi.put_le h.none_at) _ _ hR⟩
  ·rw [List.getElem?_append_right hl] at ho
   have e:o'=H.length:=by
    rcases Nat.eq_or_lt_of_le hl with e | e
    ·exact e.symm
    ·rw [show o'-H.length=(o'-H.length-1)+1 by omega] at ho
     simp at ho
   subst e
   have e2:ob=ob':=by simpa using ho
   have e3:p=p':=by simpa [Phi.put] using hp
   subst e2 e3
   exact hob
 inj:=fun o1 o2 ob1 ob2 h1 h2 p1 p2 hp1 hp2 hro1 hne=>by
  have key:∀ o' ob' p',(H++[some ob])[o']?=some (some ob')->(φ.put H.length p) o'=some p'->(H[o']?=some (some ob')/\φ o'=some p')\/(o'=H.length/\ob'=ob/\p'=p):=by
   intro o' ob' p' ho hp
   rcases Nat.lt_or_ge o' H.length with hl | hl
   ·rw [List.getElem?_append_left hl] at ho
    unfold Phi.put at hp
    rw [if_neg (by omega)] at hp
    exact .inl ⟨ho,hp⟩
   ·rw [List.getElem?_append_right hl] at ho
    have e:o'=H.length:=by
     rcases Nat.eq_or_lt_of_le hl with e | e
     ·exact e.symm
     ·rw [show o'-H.length=(o'-H.length-1)+1 by omega] at ho
      simp at ho
    subst e
    have e1:ob=ob':=by simpa using ho
    have e2:p=p':=by simpa [Phi.put] using hp
    exact .inr ⟨rfl,e1.symm,e2.symm⟩
  rcases key o1 ob1 p1 h1 hp1 with ⟨a1,a2⟩ | ⟨a1,a2,a3⟩<;>rcases key o2 ob2 p2 h2 hp2 with ⟨b1,b2⟩ | ⟨b1,b2,b3⟩
  ·exact h.inj o1 o2 ob1 ob2 a1 b1 p1 p2 a2 b2 hro1 hne
  ·subst b3
   exact hrw o1 ob1 p1 a1 a2 hro1
  ·subst a3 a2
   exact fun e=>hfree hro1 o2 ob2 p2 b1 b2 e.symm
  ·exact absurd (a1.trans b1.symm) hne
 dom:=fun o' p' hp=>by
  rw [List.length_append,List.length_singleton]
  unfold Phi.put at hp
  split at hp
  ·omega
  ·have:=h.dom o' p' hp
   omega
 blk:=fun o' p' hp=>by
  unfold Phi.put at hp
  split at hp
  ·have:p=p':=by simpa using hp
   subst this
   exact hlt
  ·exact h.blk o' p' hp
 base:=h.base
 glob:=h.glob
end Go.Proofs.YtepeokaplbbpoaaGreat.B

namespace Go.Proofs.YtepeokaplbbpoaaGreat.B
open Go.RowKit
set_option linter.unusedVariables false
theorem flatten_get {α:Type} (n:Nat):∀ (rows:List (List α)),(∀ r∈rows,r.length=n)->∀ (i f:Nat) (row:List α),rows[i]?=some row->f<n->rows.flatten[i * n+f]?=row[f]?
 | [],_,i,f,row,h,_=>by simp at h
 | r :: rs,hl,i,f,row,h,hf=>by
  have hr:=hl r (by simp)
  rw [List.flatten_cons]
  cases i with
  | zero =>
   have:r=row:=by simpa using h
   subst this
   rw [Nat.zero_mul,Nat.zero_add,List.getElem?_append_left (by omega)]
  | succ i =>
   rw [List.getElem?_append_right (by rw [hr,Nat.succ_mul]; omega),hr,show (i+1) * n+f-n=i * n+f by rw [Nat.succ_mul]; omega]
   exact flatten_get n rs (fun x hx=>hl x (by simp [hx])) i f row (by simpa using h) hf
theorem HR.new {E:Env} {φ:Phi} {H:Hp} {w:World} (h:HR E φ H w) (rows:List (List AV)) (esz ety:Nat) (cells:List Value) (hv:VRs φ rows.flatten cells)
  (hl:∀ r∈rows,r.length=esz) (h1:∀ a∈rows.flatten,one a=true) :
  HR E (φ.put H.length ⟨w.heap.size,0,esz,cells.length,false⟩) (H++[some ⟨rows,esz,ety,false⟩]) (w.alloc (.cells cells.toArray ety)):=by
 have hb:Below E.B0 w (w.alloc (.cells cells.toArray ety)):=(Below.refl _ _).alloc h.base _
 have hk:HR E φ H (w.alloc (.cells cells.toArray ety)):=h.keep hb (fun o ob p _ hp=>Below.heap_alloc _ _ _ (h.blk o p hp))
 refine hk.add _ _ rfl (fun _ o' ob' p' _ hp' e=>?_) (fun o' ob' p' _ hp' _ e=>?_) ⟨rfl,rfl,cells.toArray,ety,(0,0),?_,fun _=>⟨rfl,rfl,by simp,rfl,h.base⟩,fun i row hr=>?_⟩ (by show w.heap.size<_; simp)
 ·have:=h.blk o' p' hp'
  simp only at e
  omega
 ·have:=h.blk o' p' hp'
  simp only at e
  omega
 ·exact heap_alloc_new w _
 ·have hrl:=hl row (List.mem_of_getElem? hr)
  refine⟨hrl,fun f a ha=>?_⟩
  have hf:f<esz:=by rw [<- hrl]; exact (List.getElem?_eq_some_iff.1 ha).1
  have hg:rows.flatten[i * esz+f]?=some a:=by rw [flatten_get esz rows hl i f row hr hf]; exact ha
  obtain⟨v,hv',hR⟩:=hv.get _ _ hg
  exact⟨h1 a (List.mem_of_getElem? hg),v,by simpa using hv',VR.mono (Phi.put_le hk.none_at) _ _ hR⟩
theorem HR.set1 {E:Env} {φ:Phi} {H:Hp} {w:World} (h:HR E φ H w) {o:Nat} {ob:Ob} (ho:H[o]?=some (some ob)) (hrw:ob.ro=false) {p:Pl} (hp:φ o=some p)
  {i:Nat} {row:List AV} (hr:ob.rows[i]?=some row) {f:Nat} (hf:f<row.length) {a:AV} {v:Value} (h1:one a=true) (hv:VR φ a v) :
  (∃ u,w.cell? ⟨p.b,p.base+i * p.esz+f,none⟩=some u)/\w.frozen? ⟨p.b,p.base+i * p.esz+f,none⟩=false /\
  Below E.B0 w (w.setCell ⟨p.b,p.base+i * p.esz+f,none⟩ v) /\
  HR E φ (H.set o (some { ob with rows:=ob.rows.set i (row.set f a) })) (w.setCell ⟨p.b,p.base+i * p.esz+f,none⟩ v):=by
 obtain⟨u,hu,_,_⟩:=h.cell ho hp hr (List.getElem?_eq_getElem hf)
 obtain⟨hro,hes,cells,e,fr,hblk,hw,hc⟩:=h.obj o ob ho p hp
 obtain⟨rfl,rfl,hsz,hb0,hB⟩:=hw hrw
 have hbel:Below E.B0 w (w.setCell ⟨p.b,p.base+i * p.esz+f,none⟩ v):=(Below.refl _ _).setCell (p:=⟨p.b,p.base+i * p.esz+f,none⟩) hB v
 have hnew:(w.setCell ⟨p.b,p.base+i * p.esz+f,none⟩ v).heap[p.b]?=some (.cells (cells.setIfInBounds (p.base+i * p.esz+f) v) ob.ety (0,0)):=by
  simp [World.setCell,Array.getElem?_modify,hblk]
 have hlt:p.base+i * p.esz+f<cells.size:=by
  simp [World.cell?,hblk] at hu
  exact (Array.getElem?_eq_some_iff.1 hu).1
 refine⟨⟨u,hu⟩,by simp [World.frozen?,hblk],hbel,?_⟩
 have hol:o<H.length:=(List.getElem?_eq_some_iff.1 ho).1
 refine { obj:=fun o' ob' ho' p' hp'=>?_,inj:=fun o1 o2 ob1 ob2 k1 k2 p1 p2 q1 q2 hro1 hne=>?_,dom:=fun o' p' hp'=>by rw [List.length_set]; exact h.dom o' p' hp',blk:=fun o' p' hp'=>Nat.lt_of_lt_of_le (h.blk o' p' hp') hbel.size,base:=Nat.le_trans h.base hbel.size,glob:=E.st _ _ hbel h.glob }
 ·rw [List.getElem?_set] at ho'
  by_cases e:o=o'
  ·subst e
   rw [if_pos rfl,if_pos hol] at ho'
   have e1:{ ob with rows:=ob.rows.set i (row.set f a) }=ob':=by simpa using ho'
   subst e1
   rw [hp] at hp'
   have e2:p=p':=by simpa using hp'
   subst e2
   refine⟨hro,hes,_,_,_,hnew,fun _=>⟨rfl,rfl,by simpa using hsz,hb0,hB⟩,fun j row' hr'=>?_⟩
   simp only at hr'
   rw [List.getElem?_set] at hr'
   by_cases ej:i=j
   ·subst ej
    have hil:i<ob.rows.length:=(List.getElem?_eq_some_iff.1 hr).1
    rw [if_pos rfl,if_pos hil] at hr'
    have e3:row.set f a=row':=by simpa using hr'
    subst e3
    refine⟨by rw [List.length_set]; exact (hc i row hr).1,fun g b hg=>?_⟩
    rw [List.getElem?_set] at hg
    by_cases eg:f=g
    ·subst eg
     rw [if_pos rfl,if_pos hf] at hg
     have e4:a=b:=by simpa using hg
     subst e4
     refine⟨h1,v,?_,hv⟩
     dsimp only
     rw [<- hes,Array.getElem?_setIfInBounds,if_pos rfl,if_pos hlt]
    ·rw [if_neg eg] at hg
     obtain⟨g1,x,hx,hX⟩:=(hc i row hr).2 g b hg
     refine⟨g1,x,?_,hX⟩
     dsimp only
     rw [Array.getElem?_setIfInBounds,if_neg (by rw [hes]; omega)]
     exact hx
   ·rw [if_neg ej] at hr'
    obtain⟨g0,g⟩:=hc j row' hr'
    refine⟨g0,fun k b hb=>?_⟩
    obtain⟨g1,x,hx,hX⟩:=g k b hb
    refine⟨g1,x,?_,hX⟩
    dsimp only
    have hk:k<ob.esz:=by rw [<- g0]; exact (List.getElem?_eq_some_iff.1 hb).1
    have hfe:f<ob.esz:=by rw [<- (hc i row hr).1]; exact hf
    rw [Array.getElem?_setIfInBounds,if_neg ?_]
    ·exact hx
    ·rw [hes]
     intro e5
     rcases Nat.lt_or_gt_of_ne ej with hij | hij
     ·have:=Nat.mul_le_mul_right ob.esz (show i+1<=j from hij)
      rw [Nat.succ_mul] at this
      omega
     ·have:=Nat.mul_le_mul_right ob.esz (show j+1<=i from hij)
      rw [Nat.succ_mul] at this
      omega
  ·rw [if_neg e] at ho'
   obtain⟨a1,a2,cells',e',fr',hb',hw',hc'⟩:=h.obj o' ob' ho' p' hp'
   refine⟨a1,a2,cells',e',fr',?_,hw',hc'⟩
   rw [Below.heap_setCell _ _ _ _ (h.inj o o' ob ob' ho ho' p p' hp hp' hrw e).symm]
   exact hb'
 ·have key:∀ (x:Nat) (obx:Ob),(H.set o (some { ob with rows:=ob.rows.set i (row.set f a) }))[x]?=some (some obx)->∃ oby:Ob,H[x]?=some (some oby)/\oby.ro=obx.ro:=by
   intro x obx hx
   rw [List.getElem?_set] at hx
   by_cases e:o=x
   ·subst e
    rw [if_pos rfl,if_pos hol] at hx
    have e1:{ ob with rows:=ob.rows.set i (row.set f a) }=obx:=by simpa using hx
    subst e1
    exact⟨ob,ho,rfl⟩
   ·rw [if_neg e] at hx
    exact⟨obx,hx,rfl⟩
  obtain⟨y1,j1,j2⟩:=key o1 ob1 k1
  obtain⟨y2,j3,j4⟩:=key o2 ob2 k2
  exact h.inj o1 o2 y1 y2 j1 j3 p1 p2 q1 q2 (j2.trans hro1) hne
def putAt:List AV->Nat->List AV->List AV
 | row,_,[]=>row
 | row,f,c :: cs=>putAt (row.set f c) (f+1) cs
theorem putAt_length:∀ (cs:List AV) (row:List AV) (f:Nat),(putAt row f cs).length=row.length
 | [],_,_=>rfl
 | c :: cs,row,f=>by rw [putAt,putAt_length cs,List.length_set]
theorem Addr_add (b o n:Nat):(⟨b,o,none⟩:Addr).add n=⟨b,o+n,none⟩:=by
 unfold Addr.add
 split
 ·rename_i e
  rw [e,Nat.add_zero]
 ·rfl
theorem HR.setN {E:Env} {φ:Phi} {P:Program}:∀ (cs:List AV) (vs:List Value) (k:Nat) {H:Hp} {w:World} (h:HR E φ H w) {o:Nat} {ob:Ob} (ho:H[o]?=some (some ob)) (hrw:ob.ro=false) {p:Pl} (hp:φ o=some p)
  {i:Nat} {row:List AV} (hr:ob.rows[i]?=some row) {f:Nat} (hf:f+k+cs.length<=row.length) (h1:∀ a∈cs,one a=true) (hv:VRs φ cs vs),
  ∃ w',(storeCells ⟨p.b,p.base+i * p.esz+f,none⟩ vs k).run P w=.ok () w'/\Below E.B0 w w' /\
   HR E φ (H.set o (some { ob with rows:=ob.rows.set i (putAt row (f+k) cs) })) w'
 | [],vs,k,H,w,h,o,ob,ho,hrw,p,hp,i,row,hr,f,hf,h1,hv=>by
  have e:vs=[]:=hv
  subst e
  refine⟨w,rfl,Below.refl _ _,?_⟩
  have e1:ob.rows.set i row=ob.rows:=by
   apply List.ext_getElem?
   intro j
   rw [List.getElem?_set]
   split
   ·rename_i e; subst e; rw [hr]; simp [(List.getElem?_eq_some_iff.1 hr).1]
   ·rfl
  have e2:H.set o (some ob)=H:=by
   apply List.ext_getElem?
   intro j
   rw [List.getElem?_set]
   split
   ·rename_i e; subst e; rw [ho]; simp [(List.getElem?_eq_some_iff.1 ho).1]
   ·rfl
  rw [putAt,e1,show ({ ob with rows:=ob.rows }:Ob)=ob from rfl,e2]
  exact h
 | c :: cs,vs,k,H,w,h,o,ob,ho,hrw,p,hp,i,row,hr,f,hf,h1,hv=>by
  obtain⟨v,vs',rfl,hvc,hvs⟩:=hv
  obtain⟨⟨u,hu⟩,hfz,hbel,hH⟩:=h.set1 ho hrw hp hr (f:=f+k) (by simp at hf; omega) (h1 c (by simp)) hvc
  have hol:o<H.length:=(List.getElem?_eq_some_iff.1 ho).1
  have hil:i<ob.rows.length:=(List.getElem?_eq_some_iff.1 hr).1
  obtain⟨w',hrun,hb',hH'⟩:=HR.setN (P:=P) cs vs' (k+1) hH (o:=o) (ob:={ ob with rows:=ob.rows.set i (row.set (f+k) c) }) (by rw [List.getElem?_set,if_pos rfl,if_pos hol]) hrw hp (i:=i) (row:=row.set (f+k) c)
   (by simp only; rw [List.getElem?_set,if_pos rfl,if_pos hil]) (f:=f) (by simp at hf ⊢; omega) (fun a ha=>h1 a (by simp [ha])) hvs
  refine⟨w',?_,hbel.trans hb',?_⟩
  ·have hone:=one_cell (h1 c (by simp)) hvc
   rw [storeCells,Addr_add]
   have:p.base+i * p.esz+f+k=p.base+i * p.esz+(f+k):=by omega
   rw [this]
   have hs:(store ⟨p.b,p.base+i * p.esz+(f+k),none⟩ v:Sem Unit).run P w=.ok () (w.setCell ⟨p.b,p.base+i * p.esz+(f+k),none⟩ v):=by
    cases v<;>simp [Value.oneCell'] at hone<;>simp [store,Sem.run,hu,hfz]
   rw [Sem.run_bind,hs]
   exact hrun
  ·have e1:(H.set o (some { ob with rows:=ob.rows.set i (row.set (f+k) c) })).set o (some { ob with rows:=(ob.rows.set i (row.set (f+k) c)).set i (putAt (row.set (f+k) c) (f+(k+1)) cs) }) =
     H.set o (some { ob with rows:=ob.rows.set i (putAt row (f+k) (c :: cs)) }):=by
    rw [List.set_set,List.set_set]
    rfl
   rw [<- e1]
   exact hH'
end Go.Proofs.YtepeokaplbbpoaaGreat.B

namespace Go.Proofs.YtepeokaplbbpoaaGreat.B
open Go.RowKit
set_option linter.unusedVariables false
inductive Od where
 | t (d:Nat)
 | c (v:AV)
deriving Inhabited
def Od.ev (t:Nat->AV):Od->AV
 | .t d=>t d
 | .c v=>v
def AV.cells:AV->List AV
 | .ag cs=>cs
 | v=>[v]
def cells1:AV->Bool
 | .ag cs=>cs.all one
 | v=>one v
def bt (s:ByteArray) (i:Int):Int:=((s[i.toNat]?).map (fun b=>(b.toNat:Int))).getD 0
inductive AOp where
 | mv (x:Od)
 | pick (c a b:Od)
 | alloc (ety:Nat) (zs:List AV)
 | box (ety esz:Nat) (x:Od)
 | build (zs:List AV) (ps:List (Nat × Nat × Od))
 | lit (ety esz n:Nat) (zs:List AV) (ps:List (Nat × Nat × Od))
 | ld (x:Od)
 | lda (n:Nat) (x:Od)
 | st (n:Nat) (x y:Od)
 | nck (x:Od)
 | bin (b:BinOp) (x y:Od)
 | eqb (ne:Bool) (x y:Od)
 | eqn (k:Nat) (ne:Bool) (x y:Od)
 | eqs (ne:Bool) (ks:List Nat) (x y:Od)
 | not (x:Od)
 | neg (x:Od)
 | cv (k:IntKind) (x:Od)
 | cvs (x:Od)
 | mk (ety esz bytes:Nat) (zs:List AV) (x:Od)
 | cut (esz:Nat) (x:Od) (lo hi:Option Od)
 | cuts (x:Od) (lo hi:Option Od)
 | fa (off:Nat) (x:Od)
 | fd (off n:Nat) (x:Od)
 | ia (esz:Nat) (x y:Od)
 | ix (x y:Od)
 | ext (i:Nat) (x:Od)
 | len (x:Od)
 | lns (x:Od)
 | mx (x y:Od)
 | mn (x y:Od)
 | fn (f:Nat) (xs:List Od)
 | app (ety esz bytes:Nat) (x y:Od)
 | call (f:Nat) (xs:List Od)
 | calv (x:Od) (xs:List Od)
 | bad
 | cap (x:Od)
 | clr (z:AV) (x:Od)
 | appz (ety esz bytes:Nat) (zs:List AV) (x y:Od)
def binI (b:BinOp) (k:IntKind) (x y:Int):Option AV :=
 match b with
 | .add=>some (.int k (k.wrap (x+y)))
 | .sub=>some (.int k (k.wrap (x-y)))
 | .mul=>some (.int k (k.wrap (x * y)))
 | .quo=>if y=0 then none else some (.int k (k.wrap (x.tdiv y)))
 | .rem=>if y=0 then none else some (.int k (x.tmod y))
 | .xor=>some (.int k (k.wrap ((BitVec.ofInt k.bits x ^^^ BitVec.ofInt k.bits y).toNat)))
 | .shr=>if y=1 then some (.int k (x.fdiv 2)) else none
 | .eql=>some (.bool (x==y))
 | .neq=>some (.bool (x != y))
 | .lss=>some (.bool (decide (x<y)))
 | .leq=>some (.bool (decide (x<=y)))
 | .gtr=>some (.bool (decide (x > y)))
 | .geq=>some (.bool (decide (x >= y)))
 | _=>none
def binS (b:BinOp) (x y:ByteArray):Option AV :=
 match b with
 | .add=>if x.size+y.size<=9223372036854775807 then some (.str (x++y)) else none
 | .eql=>some (.bool (x.toList==y.toList))
 | .neq=>some (.bool (!(x.toList==y.toList)))
 | .lss=>some (.bool (Op.bytesLess x.toList y.toList))
 | .leq=>some (.bool (Op.bytesLess x.toList y.toList||x.toList==y.toList))
 | .gtr=>some (.bool (!(Op.bytesLess x.toList y.toList||x.toList==y.toList)))
 | .geq=>some (.bool (!(Op.bytesLess x.toList y.toList)))
 | _=>none
def binA (b:BinOp):AV->AV->Option AV
 | .int k x,.int k' y=>if k=k' then binI b k x y else none
 | .str x,.str y=>binS b x y
 | _,_=>none
def eqc:Nat->AV->AV->Option Bool
 | 0,.int k x,.int k' y=>if k=k' then some (x==y) else none
 | 1,.bool x,.bool y=>some (x==y)
 | 2,.str x,.str y=>some (x.toList==y.toList)
 | _,_,_=>none
def eqcs:List Nat->List AV->List AV->Option Bool
 | [],[],[]=>some true
 | k :: ks,a :: as,b :: bs=>(eqc k a b).bind fun r=>(eqcs ks as bs).map fun s=>r&&s
 | _,_,_=>none
def eqnA:Nat->AV->AV->Option Bool
 | 0,.nils,.nils=>some true
 | 0,.sl _ _ _,.nils=>some false
 | 0,.sz,.nils=>some false
 | 1,.nili,.nili=>some true
 | 1,.er _,.nili=>some false
 | _,_,_=>none
def fillA (t:Nat->AV):List AV->List (Nat × Nat × Od)->Option (List AV)
 | zs,[]=>some zs
 | zs,(off,n,x) :: ps=>if (x.ev t).cells.length=n/\off+n<=zs.length/\cells1 (x.ev t)=true then fillA t (putAt zs off (x.ev t).cells) ps else none
def chunk (esz:Nat):Nat->List AV->List (List AV)
 | 0,_=>[]
 | n+1,l=>l.take esz :: chunk esz n (l.drop esz)
def u8s:List (List AV)->Option (List Int)
 | []=>some []
 | [.int .u8 z] :: rs=>(u8s rs).map (z :: ·)
 | _=>none
def strOf (ns:List Int):ByteArray:=ns.foldl (fun r n=>r.push (UInt8.ofNat n.toNat)) ByteArray.empty
def Hp.at (H:Hp) (o:Nat):Option Ob:=(H[o]?).bind id
def intA:AV->Option Int
 | .int _ n=>some n
 | _=>none
def optI (t:Nat->AV) (d:Int):Option Od->Option Int
 | none=>some d
 | some x=>intA (x.ev t)
def clrR:List (List AV)->Nat->Nat->AV->List (List AV)
 | rows,_,0,_=>rows
 | rows,i,n+1,z=>clrR (rows.set i [z]) (i+1) n z
def stepA (t:Nat->AV) (H:Hp):AOp->Option (AV × Hp)
 | .mv x=>some (x.ev t,H)
 | .pick c a b=>match c.ev t with
  | .bool q=>some (if q then a.ev t else b.ev t,H)
  | _=>none
 | .alloc ety zs=>some (.pt H.length 0 0,H++[some ⟨[zs],zs.length,ety,false⟩])
 | .box ety esz x=>if (x.ev t).cells.length=esz/\cells1 (x.ev t)=true then some (.pt H.length 0 0,H++[some ⟨[(x.ev t).cells],esz,ety,false⟩]) else none
 | .build zs ps=>(fillA t zs ps).map fun cs=>(.ag cs,H)
 | .lit ety esz n zs ps=>(fillA t zs ps).map fun cs=>(.sl H.length 0 n,H++[some ⟨chunk esz n cs,esz,ety,false⟩])
 | .ld x=>match x.ev t with
  | .pt o i f=>(H.at o).bind fun ob=>(ob.rows[i]?).bind fun r=>(r[f]?).map fun v=>(v,H)
  | _=>none
 | .lda n x=>match x.ev t with
  | .pt o i f=>(H.at o).bind fun ob=>(ob.rows[i]?).bind fun r=>if f+n<=r.length then some (.ag ((r.drop f).take n),H) else none
  | _=>none
 | .st n x y=>match x.ev t with
  | .pt o i f=>(H.at o).bind fun ob=>(ob.rows[i]?).bind fun r =>
    if ob.ro=false/\(y.ev t).cells.length=n/\f+n<=r.length/\cells1 (y.ev t)=true then some (.un,H.set o (some { ob with rows:=ob.rows.set i (putAt r f (y.ev t).cells) })) else none
  | _=>none
 | .nck x=>match x.ev t with
  | .pt o i f=>some (.pt o i f,H)
  | .fn f cs=>some (.fn f cs,H)
  | _=>none
 | .bin b x y=>(binA b (x.ev t) (y.ev t)).map (·,H)
 | .eqb ne x y=>match x.ev t,y.ev t with
  | .bool p,.bool q=>some (.bool ((p==q) != ne),H)
  | _,_=>none
 | .eqn k ne x y=>(eqnA k (x.ev t) (y.ev t)).map fun r=>(.bool (r != ne),H)
 | .eqs ne ks x y=>match x.ev t,y.ev t with
  | .ag p,.ag q=>(eqcs ks p q).map fun r=>(.bool (r != ne),H)
  | _,_=>none
 | .not x=>match x.ev t with
  | .bool q=>some (.bool (!q),H)
  | _=>none
 | .neg x=>match x.ev t with
  | .int k n=>some (.int k (k.wrap (0-n)),H)
  | _=>none
 | .cv k x=>match x.ev t with
  | .int _ n=>some (.int k (k.wrap n),H)
  | _=>none
 | .cvs x=>match x.ev t with
  | .sl o i n=>(H.at o).bind fun ob=>if ob.esz=1/\i+n<=ob.rows.length then (u8s ((ob.rows.drop i).take n)).map fun ns=>(.str (strOf ns),H) else none
  | _=>none
 | .mk ety esz bytes zs x=>match x.ev t with
  | .int .i64 n=>if 0<=n/\n * bytes<=140737488355328 then some (.sl H.length 0 n.toNat,H++[some ⟨List.replicate n.toNat zs,esz,ety,false⟩]) else none
  | _=>none
 | .cut esz x lo hi=>match x.ev t with
  | .sl o i n=>(H.at o).bind fun ob=>if ob.esz=esz then (optI t 0 lo).bind fun l=>(optI t n hi).bind fun h =>
    if 0<=l/\l<=h/\h<=n then some (.sl o (i+l.toNat) (h.toNat-l.toNat),H) else none else none
  | .nils=>(optI t 0 lo).bind fun l=>(optI t 0 hi).bind fun h=>if l=0/\h=0 then some (.nils,H) else none
  | .sz=>(optI t 0 lo).bind fun l=>(optI t 0 hi).bind fun h=>if l=0/\h=0 then some (.sz,H) else none
  | _=>none
 | .cuts x lo hi=>match x.ev t with
  | .str s=>(optI t 0 lo).bind fun l=>(optI t s.size hi).bind fun h=>if 0<=l/\l<=h/\h<=s.size then some (.str (s.extract l.toNat h.toNat),H) else none
  | _=>none
 | .fa off x=>match x.ev t with
  | .pt o i f=>some (.pt o i (f+off),H)
  | _=>none
 | .fd off n x=>match x.ev t with
  | .ag cs=>if n=0 then (cs[off]?).map (·,H) else some (.ag ((cs.drop off).take n),H)
  | _=>none
 | .ia esz x y=>match x.ev t,y.ev t with
  | .sl o i n,.int _ j=>(H.at o).bind fun ob=>if ob.esz=esz/\0<=j/\j<n then some (.pt o (i+j.toNat) 0,H) else none
  | _,_=>none
 | .ix x y=>match x.ev t,y.ev t with
  | .str s,.int _ j=>if 0<=j/\j<s.size then some (.int .u8 (bt s j),H) else none
  | _,_=>none
 | .ext i x=>match x.ev t with
  | .tu vs=>(vs[i]?).map (·,H)
  | _=>none
 | .lns x=>match x.ev t with
  | .str s=>some (.int .i64 s.size,H)
  | _=>none
 | .len x=>match x.ev t with
  | .sl _ _ n=>some (.int .i64 n,H)
  | .nils=>some (.int .i64 0,H)
  | .sz=>some (.int .i64 0,H)
  | _=>none
 | .mx x y=>match x.ev t,y.ev t with
  | .int k a,.int _ b=>some (.int k (if b > a then b else a),H)
  | _,_=>none
 | .mn x y=>match x.ev t,y.ev t with
  | .int k a,.int _ b=>some (.int k (if b<a then b else a),H)
  | _,_=>none
 | .fn f xs=>some (.fn f (xs.map (·.ev t)),H)
 | .app ety esz bytes x y=>match y.ev t with
  | .nils=>match x.ev t with
   | .nils=>some (.nils,H)
   | .sz=>some (.sz,H)
   | .sl o i n=>some (.sl o i n,H)
   | _=>none
  | .sz=>match x.ev t with
   | .nils=>some (.nils,H)
   | .sz=>some (.sz,H)
   | .sl o i n=>some (.sl o i n,H)
   | _=>none
  | .sl o2 i2 m=>(H.at o2).bind fun ob2=>if ob2.esz=esz/\m * bytes<=140737488355328/\i2+m<=ob2.rows.length then match x.ev t with
   | .nils=>some (if m=0 then (.nils,H) else (.sl H.length 0 m,H++[some ⟨(ob2.rows.drop i2).take m,esz,ety,false⟩]))
   | .sz=>some (if m=0 then (.sz,H) else (.sl H.length 0 m,H++[some ⟨(ob2.rows.drop i2).take m,esz,ety,false⟩]))
   | .sl o 0 n=>(H.at o).bind fun ob =>
    if ob.ro=false/\ob.esz=esz/\ob.ety=ety/\(n+m) * bytes<=140737488355328/\n<=ob.rows.length then
     some (.sl H.length 0 (n+m),(H.set o none)++[some ⟨ob.rows.take n++(ob2.rows.drop i2).take m,esz,ety,false⟩]) else none
   | _=>none else none
  | _=>none
 | .call _ _=>none
 | .calv _ _=>none
 | .bad=>none
 | .cap x=>match x.ev t with
  | .nils=>some (.int .i64 0,H)
  | _=>none
 | .clr z x=>match x.ev t with
  | .nils=>some (.tu [],H)
  | .sz=>some (.tu [],H)
  | .sl o i n=>(H.at o).bind fun ob=>if ob.ro=false/\ob.esz=1/\i+n<=ob.rows.length/\one z=true then some (.tu [],H.set o (some { ob with rows:=clrR ob.rows i n z })) else none
  | _=>none
 | .appz ety esz bytes zs x y=>match x.ev t,y.ev t with
  | .nils,.int .i64 n=>if 0<n/\n * bytes<=140737488355328 then some (.sl H.length 0 n.toNat,H++[some ⟨List.replicate n.toNat zs,esz,ety,false⟩]) else none
  | _,_=>none
structure TR (φ:Phi) (t:Nat->AV) (n:Nat) (a:Act):Prop where
 size:a.tmps.size=n
 vals:∀ d,VR φ (t d) (a.tmps.getD d undef)
 defers:a.defers=[]
def upd (t:Nat->AV) (d:Nat) (v:AV):Nat->AV:=fun x=>if x=d then v else t x
theorem TR.mono {φ φ':Phi} {t:Nat->AV} {n:Nat} {a:Act} (h:TR φ t n a) (hp:PLe φ φ'):TR φ' t n a:=⟨h.size,fun d=>VR.mono hp _ _ (h.vals d),h.defers⟩
theorem TR.put {φ:Phi} {t:Nat->AV} {n:Nat} {a:Act} (h:TR φ t n a) {d:Nat} (hd:d<n) {v:AV} {u:Value} (hv:VR φ v u):TR φ (upd t d v) n (a.put (some d) u):=by
 refine⟨by simp [Act.put,h.size],fun x=>?_,h.defers⟩
 unfold upd
 simp only [Act.put,Array.getD_eq_getD_getElem?,Array.getElem?_setIfInBounds]
 by_cases e:x=d
 ·subst e
  rw [if_pos rfl,if_pos rfl,if_pos (by rw [h.size]; exact hd)]
  exact hv
 ·rw [if_neg e,if_neg (fun k=>e k.symm),<- Array.getD_eq_getD_getElem?]
  exact h.vals x
def cVal:Value->Option AV
 | .int k n=>some (.int k n)
 | .bool b=>some (.bool b)
 | .string s=>some (.str s)
 | .pointer none=>some .nilp
 | .slice none 0 0=>some .nils
 | .nilFunc=>some .nilf
 | .nilIface=>some .nili
 | _=>none
theorem cVal_sound {v:Value} {a:AV} (h:cVal v=some a) (φ:Phi):VR φ a v:=by
 unfold cVal at h
 split at h<;>first | (cases h; rfl) | cases h
def cOd:Operand->Option Od
 | .tmp d=>some (.t d)
 | .const v=>(cVal v).map .c
 | .func f=>some (.c (.fn f []))
 | .global _=>none
theorem TR.ev {φ:Phi} {t:Nat->AV} {n:Nat} {a:Act} (h:TR φ t n a) {x:Operand} {y:Od} (hx:cOd x=some y):VR φ (y.ev t) (a.eval x):=by
 unfold cOd at hx
 split at hx
 ·cases hx
  exact h.vals _
 ·simp only [Option.map_eq_some_iff] at hx
  obtain⟨v,hv,rfl⟩:=hx
  exact cVal_sound hv φ
 ·cases hx
  exact⟨[],rfl,rfl⟩
 ·cases hx
end Go.Proofs.YtepeokaplbbpoaaGreat.B

namespace Go.Proofs.YtepeokaplbbpoaaGreat.B
open Go.RowKit
set_option linter.unusedVariables false
set_option linter.unusedSimpArgs false
def Does (P:Program) (o:Oper) (a:Act) (w:World) (u:Value) (w':World):Prop :=
 (execOp a.eval o).run P w=.ok (.value u) w'\/((execOp a.eval o).run P w=.ok .skip w'/\u=undef)
theorem Does.wp {P:Program} {o:Oper} {a:Act} {w w':World} {u:Value} {next:Act->World->Prop} {Q:Exit->Act->World->Prop} (h:Does P o a w u w') (k:next (a.put o.dst u) w'):o.wp P a w next Q:=by
 unfold Oper.wp
 rcases h with h | ⟨h,rfl⟩
 ·rw [h]; exact k
 ·rw [h]; exact k
def OpOK (P:Program) (E:Env) (o:Oper) (ao:AOp):Prop:=∀ (t:Nat->AV) (H:Hp) (v:AV) (H':Hp),stepA t H ao=some (v,H')->∀ (φ:Phi) (n:Nat) (a:Act) (w:World),TR φ t n a->HR E φ H w ->
 ∃ φ' u w',Does P o a w u w'/\VR φ' v u/\PLe φ φ'/\HR E φ' H' w'/\Below E.B0 w w'
theorem pure_ok {P:Program} {E:Env} {o:Oper} {a:Act} {w:World} {φ:Phi} {H:Hp} {v:AV} {u:Value} (hd:(execOp a.eval o).run P w=.ok (.value u) w) (hv:VR φ v u) (hH:HR E φ H w) :
  ∃ φ' u w',Does P o a w u w'/\VR φ' v u/\PLe φ φ'/\HR E φ' H w'/\Below E.B0 w w':=⟨φ,u,w,.inl hd,hv,PLe.refl _,hH,Below.refl _ _⟩
variable {P:Program} {E:Env} {o:Oper}
theorem k_mv {x:Operand} {y:Od} (ho:o.op=.move x\/o.op=.assign x) (hx:cOd x=some y):OpOK P E o (.mv y):=by
 intro t H v H' hs φ n a w hT hH
 simp only [stepA,Option.some.injEq,Prod.mk.injEq] at hs
 obtain⟨rfl,rfl⟩:=hs
 refine pure_ok ?_ (hT.ev hx) hH
 rcases ho with ho | ho<;>simp [execOp,ho]
theorem k_pick {c x y:Operand} {c' x' y':Od} (ho:o.op=.pick c x y) (hc:cOd c=some c') (hx:cOd x=some x') (hy:cOd y=some y'):OpOK P E o (.pick c' x' y'):=by
 intro t H v H' hs φ n a w hT hH
 have h1:=hT.ev hc
 simp only [stepA] at hs
 split at hs
 ·rename_i q e
  rw [e] at h1
  have h1':a.eval c=.bool q:=h1
  simp only [Option.some.injEq,Prod.mk.injEq] at hs
  obtain⟨rfl,rfl⟩:=hs
  refine pure_ok (u:=if q then a.eval x else a.eval y) ?_ ?_ hH
  ·simp [execOp,ho,h1',asBool]
  ·cases q
   ·exact hT.ev hy
   ·exact hT.ev hx
 ·cases hs
theorem binI_ok {b:BinOp} {k:IntKind} {x y:Int} {v:AV} (h:binI b k x y=some v) (T:TypeId) (w:World):∃ u,(binOp b T (.int k x) (.int k y)).run P w=.ok u w/\∀ φ,VR φ v u:=by
 cases b<;>simp only [binI] at h<;>first
  | (cases h; refine⟨_,?_,fun φ=>rfl⟩; simp [binOp,Op.intArith,Op.intCmp,Op.intBits])
  | (
   split at h
   ·cases h
   ·rename_i h0
    cases h
    refine⟨_,?_,fun φ=>rfl⟩
    simp [binOp,Op.intDiv,h0])
  | (
   split at h
   ·rename_i h0
    cases h
    refine⟨_,?_,fun φ=>rfl⟩
    subst h0
    cases k<;>simp [binOp,Op.shift,IntKind.bits]
   ·cases h)
  | cases h
theorem binS_ok {b:BinOp} {x y:ByteArray} {v:AV} (h:binS b x y=some v) (T:TypeId) (w:World):∃ u,(binOp b T (.string x) (.string y)).run P w=.ok u w/\∀ φ,VR φ v u:=by
 cases b<;>simp only [binS] at h<;>first
  | (cases h; refine⟨_,?_,fun φ=>rfl⟩; simp [binOp,Op.stringOp])
  | (
   split at h
   ·rename_i h0
    cases h
    refine⟨_,?_,fun φ=>rfl⟩
    have:¬(((x.size+y.size:Nat):Int) > IntKind.i64.max):=by
     simp only [IntKind.max,IntKind.signed,IntKind.bits]
     omega
    simp only [binOp,Op.stringOp]
    rw [if_neg this]
    rfl
   ·cases h)
  | cases h
theorem k_bin {b:BinOp} {T T2:TypeId} {x y:Operand} {x' y':Od} (ho:o.op=.binOp b T x y T2) (hx:cOd x=some x') (hy:cOd y=some y'):OpOK P E o (.bin b x' y'):=by
 intro t H v H' hs φ n a w hT hH
 have h1:=hT.ev hx
 have h2:=hT.ev hy
 simp only [stepA,Option.map_eq_some_iff] at hs
 obtain⟨r,hr,hs⟩:=hs
 cases hs
 unfold binA at hr
 split at hr
 ·rename_i k p k' q e1 e2
  split at hr
  ·rename_i ek
   subst ek
   rw [e1] at h1
   rw [e2] at h2
   have h1':a.eval x=.int k p:=h1
   have h2':a.eval y=.int k q:=h2
   obtain⟨u,hu,hv⟩:=binI_ok (P:=P) hr T w
   refine pure_ok (u:=u) ?_ (hv φ) hH
   simp only [execOp,ho,h1',h2']
   simp only [Sem.run_bind]
   have hg:(eqGuard b T x y (.int k p) (.int k q)).run P w=.ok () w:=by
    unfold eqGuard
    split<;>simp
   simp [hg,hu]
  ·cases hr
 ·rename_i p q e1 e2
  rw [e1] at h1
  rw [e2] at h2
  have h1':a.eval x=.string p:=h1
  have h2':a.eval y=.string q:=h2
  obtain⟨u,hu,hv⟩:=binS_ok (P:=P) hr T w
  refine pure_ok (u:=u) ?_ (hv φ) hH
  simp only [execOp,ho,h1',h2']
  have hg:(eqGuard b T x y (.string p) (.string q)).run P w=.ok () w:=by
   unfold eqGuard
   split<;>simp
  simp [hg,hu]
 ·cases hr
theorem k_not {T:TypeId} {x:Operand} {x':Od} (ho:o.op=.unOp .not T x) (hx:cOd x=some x'):OpOK P E o (.not x'):=by
 intro t H v H' hs φ n a w hT hH
 have h1:=hT.ev hx
 simp only [stepA] at hs
 split at hs
 ·rename_i q e
  rw [e] at h1
  have h1':a.eval x=.bool q:=h1
  cases hs
  exact pure_ok (u:=.bool (!q)) (by simp [execOp,ho,h1',Op.unary]) rfl hH
 ·cases hs
theorem k_neg {T:TypeId} {x:Operand} {x':Od} (ho:o.op=.unOp .neg T x) (hx:cOd x=some x'):OpOK P E o (.neg x'):=by
 intro t H v H' hs φ n a w hT hH
 have h1:=hT.ev hx
 simp only [stepA] at hs
 split at hs
 ·rename_i k q e
  rw [e] at h1
  have h1':a.eval x=.int k q:=h1
  cases hs
  exact pure_ok (u:=.int k (k.wrap (0-q))) (by simp [execOp,ho,h1',Op.unary,Op.intArith]) rfl hH
 ·cases hs
theorem k_cv {S T:TypeId} {k0 k:IntKind} {x:Operand} {x':Od} (ho:o.op=.convert S T x) (hS:P.underlying S=some (.int k0)) (hTy:P.underlying T=some (.int k)) (hx:cOd x=some x'):OpOK P E o (.cv k x'):=by
 intro t H v H' hs φ n a w hT hH
 have h1:=hT.ev hx
 simp only [stepA] at hs
 split at hs
 ·rename_i k1 q e
  rw [e] at h1
  have h1':a.eval x=.int k1 q:=h1
  cases hs
  exact pure_ok (u:=.int k (k.wrap q)) (by simp [execOp,ho,h1',convert,run_underlying hS,run_underlying hTy,Conv.intToInt]) rfl hH
 ·cases hs
theorem k_ext {x:Operand} {x':Od} {i:Nat} (ho:o.op=.extract x i) (hx:cOd x=some x'):OpOK P E o (.ext i x'):=by
 intro t H v H' hs φ n a w hT hH
 have h1:=hT.ev hx
 simp only [stepA] at hs
 split at hs
 ·rename_i vs e
  rw [e] at h1
  obtain⟨l,h1',hl⟩:=h1
  simp only [Option.map_eq_some_iff] at hs
  obtain⟨v',hv',hs⟩:=hs
  cases hs
  obtain⟨u,hu,hr⟩:=hl.get _ _ hv'
  exact pure_ok (u:=u) (by simp [execOp,ho,h1',Instr.extract,hu]) hr hH
 ·cases hs
theorem k_nck {x:Operand} {x':Od} (ho:o.op=.nilCheck x) (hx:cOd x=some x'):OpOK P E o (.nck x'):=by
 intro t H v H' hs φ n a w hT hH
 have h1:=hT.ev hx
 simp only [stepA] at hs
 split at hs
 ·rename_i oo i f e
  rw [e] at h1
  cases hs
  refine pure_ok (u:=a.eval x) ?_ h1 hH
  obtain⟨p,_,h1'⟩:=h1
  simp [execOp,ho,h1']
 ·rename_i f cs e
  rw [e] at h1
  cases hs
  refine pure_ok (u:=a.eval x) ?_ h1 hH
  obtain⟨l,h1',_⟩:=h1
  simp [execOp,ho,h1']
 ·cases hs
theorem k_lns {T:TypeId} {x:Operand} {x':Od} (ho:o.op=.call { callee:=.builtin .len,args:=#[x],argTypes:=#[T] }) (hu:P.underlying T=some .string) (hx:cOd x=some x'):OpOK P E o (.lns x'):=by
 intro t H v H' hs φ n a w hT hH
 have h1:=hT.ev hx
 simp only [stepA] at hs
 split at hs
 ·rename_i s e
  rw [e] at h1
  have h1':a.eval x=.string s:=h1
  cases hs
  exact pure_ok (u:=.int .i64 s.size) (by simp [execOp,ho,resolve,invoke,builtin,Builtin.len_,run_underlying hu,h1',goInt]) rfl hH
 ·cases hs
theorem k_len {T e':TypeId} {x:Operand} {x':Od} (ho:o.op=.call { callee:=.builtin .len,args:=#[x],argTypes:=#[T] }) (hu:P.underlying T=some (.slice e')) (hx:cOd x=some x'):OpOK P E o (.len x'):=by
 intro t H v H' hs φ n a w hT hH
 have h1:=hT.ev hx
 simp only [stepA] at hs
 split at hs
 ·rename_i oo i m e
  rw [e] at h1
  obtain⟨p,ad,c,_,h1',_⟩:=h1
  cases hs
  exact pure_ok (u:=.int .i64 m) (by simp [execOp,ho,resolve,invoke,builtin,Builtin.len_,run_underlying hu,h1',goInt]) rfl hH
 ·rename_i e
  rw [e] at h1
  have h1':a.eval x=.slice none 0 0:=h1
  cases hs
  exact pure_ok (u:=.int .i64 0) (by simp [execOp,ho,resolve,invoke,builtin,Builtin.len_,run_underlying hu,h1',goInt]) rfl hH
 ·rename_i e
  rw [e] at h1
  obtain⟨ad,h1'⟩:=h1
  cases hs
  exact pure_ok (u:=.int .i64 0) (by simp [execOp,ho,resolve,invoke,builtin,Builtin.len_,run_underlying hu,h1',goInt]) rfl hH
 ·cases hs
theorem k_mx {Ts:Array TypeId} {x y:Operand} {x' y':Od} (ho:o.op=.call { callee:=.builtin .max,args:=#[x,y],argTypes:=Ts }) (hx:cOd x=some x') (hy:cOd y=some y'):OpOK P E o (.mx x' y'):=by
 intro t H v H' hs φ n a w hT hH
 have h1:=hT.ev hx
 have h2:=hT.ev hy
 simp only [stepA] at hs
 split at hs
 ·rename_i k p k' q e1 e2
  rw [e1] at h1
  rw [e2] at h2
  have h1':a.eval x=.int k p:=h1
  have h2':a.eval y=.int k' q:=h2
  cases hs
  exact pure_ok (u:=.int k (if q > p then q else p)) (by simp [execOp,ho,resolve,invoke,builtin,Builtin.max_,Builtin.max2,h1',h2']) rfl hH
 ·cases hs
theorem k_mn {Ts:Array TypeId} {x y:Operand} {x' y':Od} (ho:o.op=.call { callee:=.builtin .min,args:=#[x,y],argTypes:=Ts }) (hx:cOd x=some x') (hy:cOd y=some y'):OpOK P E o (.mn x' y'):=by
 intro t H v H' hs φ n a w hT hH
 have h1:=hT.ev hx
 have h2:=hT.ev hy
 simp only [stepA] at hs
 split at hs
 ·rename_i k p k' q e1 e2
  rw [e1] at h1
  rw [e2] at h2
  have h1':a.eval x=.int k p:=h1
  have h2':a.eval y=.int k' q:=h2
  cases hs
  exact pure_ok (u:=.int k (if q<p then q else p)) (by simp [execOp,ho,resolve,invoke,builtin,Builtin.min_,Builtin.min2,h1',h2']) rfl hH
 ·cases hs
theorem eq_bool {T:TypeId} (hT0:P.underlying T=some .bool) (d:Nat) (p q:Bool) (w:World):(Op.equalIn (d+1) T (.bool p) (.bool q)).run P w=.ok (p==q) w:=by
 simp [Op.equalIn,run_underlying hT0]
theorem k_eqb {b:BinOp} {ne:Bool} {T T2:TypeId} {x y:Operand} {x' y':Od} (ho:o.op=.binOp b T x y T2) (hb:b=if ne then .neq else .eql) (hT0:P.underlying T=some .bool) (hx:cOd x=some x') (hy:cOd y=some y'):OpOK P E o (.eqb ne x' y'):=by
 intro t H v H' hs φ n a w hT hH
 have h1:=hT.ev hx
 have h2:=hT.ev hy
 simp only [stepA] at hs
 split at hs
 ·rename_i p q e1 e2
  rw [e1] at h1
  rw [e2] at h2
  have h1':a.eval x=.bool p:=h1
  have h2':a.eval y=.bool q:=h2
  cases hs
  refine pure_ok (u:=.bool ((p==q) != ne)) ?_ rfl hH
  have he:(Op.equal T (.bool p) (.bool q)).run P w=.ok (p==q) w:=eq_bool hT0 9999 p q w
  subst hb
  cases ne
  ·have hg:(eqGuard .eql T x y (.bool p) (.bool q)).run P w=.ok () w:=by simp [eqGuard]
   have hr:(binOp .eql T (.bool p) (.bool q)).run P w=.ok (.bool (p==q)) w:=by simp [binOp,he]
   simp only [execOp,ho,h1',h2',Bool.false_eq_true,if_false]
   simp [hg,hr]
  ·have hg:(eqGuard .neq T x y (.bool p) (.bool q)).run P w=.ok () w:=by simp [eqGuard]
   have hr:(binOp .neq T (.bool p) (.bool q)).run P w=.ok (.bool (!(p==q))) w:=by simp [binOp,he]
   simp only [execOp,ho,h1',h2',if_true]
   simp [hg,hr]
 ·cases hs
theorem k_fn {f:FuncId} {xs:Array Operand} {xs':List Od} (ho:o.op=.makeFunc (.func f) #[] xs) (hx:xs.toList.mapM cOd=some xs'):OpOK P E o (.fn f xs'):=by
 intro t H v H' hs φ n a w hT hH
 simp only [stepA,Option.some.injEq,Prod.mk.injEq] at hs
 obtain⟨rfl,rfl⟩:=hs
 have key:∀ (l:List Operand) (l':List Od),l.mapM cOd=some l'->VRs φ (l'.map (·.ev t)) (l.map a.eval):=by
  intro l
  induction l with
  | nil=>intro l' h; simp at h; subst h; rfl
  | cons y l ih =>
   intro l' h
   simp only [List.mapM_cons,Option.bind_eq_bind,Option.pure_def,Option.bind_eq_some_iff,Option.some.injEq] at h
   obtain⟨y',hy,r,hr,rfl⟩:=h
   exact⟨_,_,rfl,hT.ev hy,ih r hr⟩
 refine pure_ok (u:=.func (.func f) #[] (xs.map a.eval)) (by simp [execOp,ho,Instr.makeFunc]) ?_ hH
 refine⟨xs.toList.map a.eval,?_,key _ _ hx⟩
 rw [<- Array.toList_map,Array.toArray_toList]
theorem bt_get (s:ByteArray) (j:Int) (h0:0<=j) (h1:j<s.size):∃ b,s[j.toNat]?=some b/\bt s j=(b.toNat:Int):=by
 have hl:j.toNat<s.size:=by omega
 refine⟨s[j.toNat],?_,?_⟩
 ·simp [hl]
 ·simp [bt,hl]
theorem k_ix {T:TypeId} {x y:Operand} {x' y':Od} (ho:o.op=.index T x y) (hT0:P.underlying T=some .string) (hx:cOd x=some x') (hy:cOd y=some y'):OpOK P E o (.ix x' y'):=by
 intro t H v H' hs φ n a w hT hH
 have h1:=hT.ev hx
 have h2:=hT.ev hy
 simp only [stepA] at hs
 split at hs
 ·rename_i s k j e1 e2
  rw [e1] at h1
  rw [e2] at h2
  have h1':a.eval x=.string s:=h1
  have h2':a.eval y=.int k j:=h2
  split at hs
  ·rename_i hj
   cases hs
   obtain⟨b,hb,he⟩:=bt_get s j hj.1 hj.2
   refine pure_ok (u:=.int .u8 (bt s j)) ?_ rfl hH
   simp [execOp,ho,h1',h2',Instr.index,asIntOf,run_underlying hT0,hj.1,hb,he]
  ·cases hs
 ·cases hs
def cOO:Option Operand->Option (Option Od)
 | none=>some none
 | some x=>(cOd x).map some
theorem optI_ok {φ:Phi} {t:Nat->AV} {n:Nat} {a:Act} (hT:TR φ t n a) {lo:Option Operand} {lo':Option Od} (hl:cOO lo=some lo') {d l:Int} (h:optI t d lo'=some l) :
  (lo=none/\l=d)\/∃ x k,lo=some x/\a.eval x=.int k l:=by
 cases lo with
 | none =>
  cases hl
  simp only [optI,Option.some.injEq] at h
  exact .inl ⟨rfl,h.symm⟩
 | some x =>
  simp only [cOO,Option.map_eq_some_iff] at hl
  obtain⟨x',hx',rfl⟩:=hl
  have h1:=hT.ev hx'
  simp only [optI] at h
  cases he:x'.ev t<;>rw [he] at h<;>simp [intA] at h
  subst h
  rw [he] at h1
  exact .inr ⟨x,_,rfl,h1⟩
theorem k_cuts {T:TypeId} {x:Operand} {x':Od} {lo hi:Option Operand} {lo' hi':Option Od} (ho:o.op=.slice T x lo hi none) (hT0:P.underlying T=some .string) (hx:cOd x=some x')
  (hlo:cOO lo=some lo') (hhi:cOO hi=some hi'):OpOK P E o (.cuts x' lo' hi'):=by
 intro t H v H' hs φ n a w hT hH
 have h1:=hT.ev hx
 simp only [stepA] at hs
 split at hs
 ·rename_i s e
  rw [e] at h1
  have h1':a.eval x=.string s:=h1
  simp only [Option.bind_eq_some_iff] at hs
  obtain⟨l,hl,h,hh,hs⟩:=hs
  split at hs
  ·rename_i hb
   cases hs
   refine pure_ok (u:=.string (s.extract l.toNat h.toNat)) ?_ rfl hH
   have eh:(h.toNat:Int)=h:=Int.toNat_of_nonneg (by omega)
   rcases optI_ok hT hlo hl with ⟨rfl,rfl⟩ | ⟨xl,kl,rfl,el⟩<;>rcases optI_ok hT hhi hh with ⟨rfl,rfl⟩ | ⟨xh,kh,rfl,eh2⟩
   ·simp [execOp,ho,h1',Instr.sliceAt,run_underlying hT0,Instr.slice,Instr.sliceBounds]
   ·simp [execOp,ho,h1',Instr.sliceAt,run_underlying hT0,Instr.slice,Instr.sliceBounds,run_sliceBound,eh2,hb.2.2,(by omega:0<=h)]
   ·simp [execOp,ho,h1',Instr.sliceAt,run_underlying hT0,Instr.slice,Instr.sliceBounds,run_sliceBound,el,hb.1,hb.2.1]
   ·simp [execOp,ho,h1',Instr.sliceAt,run_underlying hT0,Instr.slice,Instr.sliceBounds,run_sliceBound,el,eh2,hb.1,hb.2.1,hb.2.2,eh,(by omega:0<=h)]
  ·cases hs
 ·cases hs
end Go.Proofs.YtepeokaplbbpoaaGreat.B

namespace Go.Proofs.YtepeokaplbbpoaaGreat.B
open Go.RowKit
set_option linter.unusedVariables false
set_option linter.unusedSimpArgs false
variable {P:Program} {E:Env} {o:Oper}
def aggB:TypeDesc->Bool
 | .struct _=>true
 | .array _ _=>true
 | _=>false
theorem run_isAgg {T:TypeId} {d:TypeDesc} (h:P.underlying T=some d) (w:World):(isAgg T).run P w=.ok (aggB d) w:=by
 simp only [isAgg,Sem.run_bind,run_underlying h,Result.andThen_ok]
 cases d<;>rfl
theorem run_sizeOf {T:TypeId} {i:TypeInfo} (h:P.info? T=some i) (w:World):(sizeOf T).run P w=.ok i.size w:=by
 simp [sizeOf,typeInfo,h]
theorem Hp.at_some {H:Hp} {x:Nat} {ob:Ob} (h:H.at x=some ob):H[x]?=some (some ob):=by
 simp only [Hp.at,Option.bind_eq_some_iff] at h
 obtain⟨y,hy,e⟩:=h
 have:y=some ob:=e
 rw [hy,this]
theorem k_fa {T:TypeId} {x:Operand} {x':Od} {k:Nat} {fs:Array Field} {fd:Field} {i:TypeInfo} (ho:o.op=.fieldAddr T x k) (hT0:P.underlying T=some (.struct fs)) (hf:fs[k]?=some fd) (hi:P.info? fd.type=some i) (hz:i.size≠0) (hx:cOd x=some x'):OpOK P E o (.fa fd.offset x'):=by
 intro t H v H' hs φ n a w hT hH
 have h1:=hT.ev hx
 simp only [stepA] at hs
 split at hs
 ·rename_i oo j f e
  rw [e] at h1
  obtain⟨p,hp,h1'⟩:=h1
  cases hs
  refine pure_ok (u:=.pointer (some ⟨p.b,p.base+j * p.esz+(f+fd.offset),none⟩)) ?_ ⟨p,hp,rfl⟩ hH
  simp [execOp,ho,h1',Instr.fieldAt,Instr.sureAddr,run_underlying hT0,hf,fieldPlace,run_sizeOf hi,hz,Addr_add,Nat.add_assoc]
 ·cases hs
theorem k_ld {T:TypeId} {x:Operand} {x':Od} {d:TypeDesc} (ho:o.op=.load T x) (hT0:P.underlying T=some d) (hd:aggB d=false) (hx:cOd x=some x'):OpOK P E o (.ld x'):=by
 intro t H v H' hs φ n a w hT hH
 have h1:=hT.ev hx
 simp only [stepA] at hs
 split at hs
 ·rename_i oo i f e
  rw [e] at h1
  obtain⟨p,hp,h1'⟩:=h1
  simp only [Option.bind_eq_some_iff,Option.map_eq_some_iff] at hs
  obtain⟨ob,hob,r,hr,v',hv',hs⟩:=hs
  cases hs
  obtain⟨u,hu,hR,_⟩:=hH.cell (Hp.at_some hob) hp hr hv'
  refine pure_ok (u:=u) ?_ hR hH
  simp [execOp,ho,h1',Instr.loadAt,Instr.sureAddr,loadVar,run_isAgg hT0,hd,hu]
 ·cases hs
theorem HR.rowlen {φ:Phi} {H:Hp} {w:World} (h:HR E φ H w) {x:Nat} {ob:Ob} (ho:H[x]?=some (some ob)) {p:Pl} (hp:φ x=some p) {i:Nat} {row:List AV} (hr:ob.rows[i]?=some row):row.length=p.esz:=by
 obtain⟨_,he,cells,e,fr,_,_,hc⟩:=h.obj x ob ho p hp
 rw [he]
 exact (hc i row hr).1
theorem HR.cells {φ:Phi} {H:Hp} {w:World} (h:HR E φ H w) {x:Nat} {ob:Ob} (ho:H[x]?=some (some ob)) {p:Pl} (hp:φ x=some p) {i:Nat} {row:List AV} (hr:ob.rows[i]?=some row) (f m:Nat) (hm:f+m<=row.length) :
  ∃ l:List Value,VRs φ ((row.drop f).take m) l/\l.length=m/\∀ (j:Nat) (v:Value),l[j]?=some v->w.cell? ((⟨p.b,p.base+i * p.esz+f,none⟩:Addr).add j)=some v:=by
 induction m with
 | zero=>exact⟨[],by simp [VRs],rfl,fun j v hv=>by simp at hv⟩
 | succ m ih =>
  obtain⟨l,h1,h2,h3⟩:=ih (by omega)
  have hlt:f+m<row.length:=by omega
  obtain⟨u,hu,hR,_⟩:=h.cell ho hp hr (List.getElem?_eq_getElem hlt)
  refine⟨l++[u],?_,by simp [h2],fun j v hv=>?_⟩
  ·have e:(row.drop f).take (m+1)=(row.drop f).take m++[row[f+m]]:=by
    rw [List.take_succ_eq_append_getElem (by simp; omega)]
    simp
   rw [e]
   exact h1.append ⟨u,[],rfl,hR,rfl⟩
  ·rcases Nat.lt_or_ge j l.length with hj | hj
   ·rw [List.getElem?_append_left hj] at hv
    exact h3 j v hv
   ·rw [List.getElem?_append_right hj] at hv
    have ej:j=m:=by
     rcases Nat.eq_or_lt_of_le hj with e | e
     ·omega
     ·rw [show j-l.length=(j-l.length-1)+1 by omega] at hv
      simp at hv
    subst ej
    have:u=v:=by simpa [h2] using hv
    subst this
    rw [Addr_add,Nat.add_assoc]
    exact hu
theorem k_lda {T:TypeId} {x:Operand} {x':Od} {d:TypeDesc} {i:TypeInfo} (ho:o.op=.load T x) (hT0:P.underlying T=some d) (hd:aggB d=true) (hi:P.info? T=some i) (hx:cOd x=some x'):OpOK P E o (.lda i.size x'):=by
 intro t H v H' hs φ n a w hT hH
 have h1:=hT.ev hx
 simp only [stepA] at hs
 split at hs
 ·rename_i oo j f e
  rw [e] at h1
  obtain⟨p,hp,h1'⟩:=h1
  simp only [Option.bind_eq_some_iff] at hs
  obtain⟨ob,hob,r,hr,hs⟩:=hs
  split at hs
  ·rename_i hle
   cases hs
   obtain⟨l,hl,hl2,hl3⟩:=hH.cells (Hp.at_some hob) hp hr f i.size hle
   refine pure_ok (u:=.agg l.toArray) ?_ ⟨l,rfl,hl⟩ hH
   have hrun:=run_loadCells_list (P:=P) (w:=w) _ l hl3
   rw [hl2] at hrun
   simp [execOp,ho,h1',Instr.loadAt,Instr.sureAddr,loadVar,run_isAgg hT0,hd,run_sizeOf hi,hrun]
  ·cases hs
 ·cases hs
theorem cells1_one {x:AV} (h:cells1 x=true) (hx:∀ cs,x≠.ag cs):one x=true:=by
 cases x<;>first | exact h | exact absurd rfl (hx _)
theorem cells_VR {φ:Phi} {x:AV} {v:Value} (h1:cells1 x=true) (h:VR φ x v):VRs φ x.cells v.cells.toList/\∀ a∈x.cells,one a=true:=by
 cases x
 case ag cs =>
  obtain⟨l,rfl,hl⟩:=h
  exact⟨by simpa [AV.cells,Value.cells] using hl,fun a ha=>by simp only [cells1,List.all_eq_true] at h1; exact h1 a ha⟩
 case tu cs=>simp [cells1,one] at h1
 case un=>simp [cells1,one] at h1
 case any=>simp [cells1,one] at h1
 all_goals
  have h1':=cells1_one h1 (fun cs e=>by cases e)
  refine⟨?_,fun a ha=>by rw [List.mem_singleton.1 ha]; exact h1'⟩
  have hone:=one_cell h1' h
  refine⟨v,[],?_,h,rfl⟩
  cases v<;>simp [Value.oneCell'] at hone<;>rfl
theorem k_st {T:TypeId} {x y:Operand} {x' y':Od} {i:TypeInfo} (ho:o.op=.store T x y) (hi:P.info? T=some i) (hx:cOd x=some x') (hy:cOd y=some y'):OpOK P E o (.st i.size x' y'):=by
 intro t H v H' hs φ n a w hT hH
 have h1:=hT.ev hx
 have h2:=hT.ev hy
 simp only [stepA] at hs
 split at hs
 ·rename_i oo j f e
  rw [e] at h1
  obtain⟨p,hp,h1'⟩:=h1
  simp only [Option.bind_eq_some_iff] at hs
  obtain⟨ob,hob,r,hr,hs⟩:=hs
  split at hs
  ·rename_i hc
   obtain⟨hro,hlen,hle,hc1⟩:=hc
   cases hs
   obtain⟨hv,hone⟩:=cells_VR hc1 h2
   obtain⟨w',hrun,hb,hH'⟩:=HR.setN (P:=P) _ _ 0 hH (Hp.at_some hob) hro hp hr (f:=f) (by omega) hone hv
   refine⟨φ,undef,w',.inr ⟨?_,rfl⟩,rfl,PLe.refl _,hH',hb⟩
   have hsz:(a.eval y).cells.size=i.size:=by
    have:=hv.length
    rw [Array.length_toList] at this
    omega
   simp [execOp,ho,h1',Instr.storeAt,Instr.sureAddr,storeVar,run_sizeOf hi,hsz,hrun]
  ·cases hs
 ·cases hs
theorem new_ok {φ:Phi} {H:Hp} {w:World} (hH:HR E φ H w) {rows:List (List AV)} {esz ety:Nat} {cells:List Value} (hv:VRs φ rows.flatten cells) (hl:∀ r∈rows,r.length=esz) (h1:∀ a∈rows.flatten,one a=true) :
  PLe φ (φ.put H.length ⟨w.heap.size,0,esz,cells.length,false⟩)/\HR E (φ.put H.length ⟨w.heap.size,0,esz,cells.length,false⟩) (H++[some ⟨rows,esz,ety,false⟩]) (w.alloc (.cells cells.toArray ety)) /\
  Below E.B0 w (w.alloc (.cells cells.toArray ety))/\(φ.put H.length ⟨w.heap.size,0,esz,cells.length,false⟩) H.length=some ⟨w.heap.size,0,esz,cells.length,false⟩ :=
 ⟨Phi.put_le hH.none_at,hH.new rows esz ety cells hv hl h1,(Below.refl _ _).alloc hH.base _,by simp [Phi.put]⟩
theorem k_alloc {T:TypeId} {i:TypeInfo} {z:Value} {zs:List AV} (ho:o.op=.alloc T) (hi:P.info? T=some i) (hz:i.zero=some z) (hzs:z.cells.toList.mapM cVal=some zs):OpOK P E o (.alloc T zs):=by
 intro t H v H' hs φ n a w hT hH
 simp only [stepA,Option.some.injEq,Prod.mk.injEq] at hs
 obtain⟨rfl,rfl⟩:=hs
 have key:∀ (l:List Value) (l':List AV),l.mapM cVal=some l'->VRs φ l' l/\∀ x∈l',one x=true:=by
  intro l
  induction l with
  | nil=>intro l' h; simp at h; subst h; exact⟨rfl,by simp⟩
  | cons y l ih =>
   intro l' h
   simp only [List.mapM_cons,Option.bind_eq_bind,Option.pure_def,Option.bind_eq_some_iff,Option.some.injEq] at h
   obtain⟨y',hy,r,hr,rfl⟩:=h
   obtain⟨i1,i2⟩:=ih r hr
   refine⟨⟨_,_,rfl,cVal_sound hy φ,i1⟩,fun x hx=>?_⟩
   rcases List.mem_cons.1 hx with rfl | hx
   ·unfold cVal at hy
    split at hy<;>first | (cases hy; rfl) | cases hy
   ·exact i2 x hx
 obtain⟨k1,k2⟩:=key _ _ hzs
 obtain⟨g1,g2,g3,g4⟩:=new_ok hH (rows:=[zs]) (esz:=zs.length) (ety:=T) (cells:=z.cells.toList) (by simpa using k1) (by simp) (by simpa using k2)
 refine⟨_,.pointer (some ⟨w.heap.size,0,none⟩),_,.inl ?_,⟨_,g4,by simp⟩,g1,g2,g3⟩
 simp [execOp,ho,Instr.alloc,zeroValue,typeInfo,hi,hz,newVar,newRow]
theorem k_box {T:TypeId} {x:Operand} {x':Od} {esz:Nat} (ho:o.op=.box T x) (hx:cOd x=some x'):OpOK P E o (.box T esz x'):=by
 intro t H v H' hs φ n a w hT hH
 have h1:=hT.ev hx
 simp only [stepA] at hs
 split at hs
 ·rename_i hc
  cases hs
  obtain⟨hv,hone⟩:=cells_VR hc.2 h1
  obtain⟨g1,g2,g3,g4⟩:=new_ok hH (rows:=[(x'.ev t).cells]) (esz:=esz) (ety:=T) (cells:=(a.eval x).cells.toList) (by simpa using hv) (by simpa using hc.1) (by simpa using hone)
  refine⟨_,.pointer (some ⟨w.heap.size,0,none⟩),_,.inl ?_,⟨_,g4,by simp⟩,g1,g2,g3⟩
  simp [execOp,ho,Instr.box,newVar,newRow]
 ·cases hs
theorem k_fd {T:TypeId} {x:Operand} {x':Od} {k:Nat} {fs:Array Field} {fd:Field} {d:TypeDesc} (ho:o.op=.field T x k) (hT0:P.underlying T=some (.struct fs)) (hf:fs[k]?=some fd) (hd:P.underlying fd.type=some d) (hagg:aggB d=false) (hx:cOd x=some x'):OpOK P E o (.fd fd.offset 0 x'):=by
 intro t H v H' hs φ n a w hT hH
 have h1:=hT.ev hx
 simp only [stepA] at hs
 split at hs
 ·rename_i cs e
  rw [e] at h1
  obtain⟨l,h1',hl⟩:=h1
  simp only [if_true,Option.map_eq_some_iff] at hs
  obtain⟨v',hv',hs⟩:=hs
  cases hs
  obtain⟨u,hu,hr⟩:=hl.get _ _ hv'
  refine pure_ok (u:=u) ?_ hr hH
  simp [execOp,ho,h1',Instr.field,run_underlying hT0,hf,asAgg,part,run_isAgg hd,hagg,hu]
 ·cases hs
theorem k_ia {T e0:TypeId} {x y:Operand} {x' y':Od} {i:TypeInfo} (ho:o.op=.indexAddr T x y) (hT0:P.underlying T=some (.slice e0)) (hi:P.info? e0=some i) (hx:cOd x=some x') (hy:cOd y=some y'):OpOK P E o (.ia i.size x' y'):=by
 intro t H v H' hs φ n a w hT hH
 have h1:=hT.ev hx
 have h2:=hT.ev hy
 simp only [stepA] at hs
 split at hs
 ·rename_i oo k m kk j e1 e2
  rw [e1] at h1
  rw [e2] at h2
  obtain⟨p,ad,c,hp,h1',hmc,hc⟩:=h1
  have h2':a.eval y=.int kk j:=h2
  simp only [Option.bind_eq_some_iff] at hs
  obtain⟨ob,hob,hs⟩:=hs
  split at hs
  ·rename_i hb
   cases hs
   have hes:p.esz=i.size:=by rw [(hH.obj _ _ (Hp.at_some hob) p hp).esz,hb.1]
   rcases hc with rfl | ⟨rfl,_⟩
   ·omega
   ·refine pure_ok (u:=.pointer (some ⟨p.b,p.base+(k+j.toNat) * p.esz+0,none⟩)) ?_ ⟨p,hp,rfl⟩ hH
    simp [execOp,ho,h1',h2',Instr.indexAt,asIntOf,run_underlying hT0,hb.2.1,hb.2.2,run_sizeOf hi,Addr_add,<- hes,Nat.add_mul,Nat.add_assoc]
  ·cases hs
 ·cases hs
theorem sliced_ok {φ:Phi} {p:Pl} {oo k m c l h:Nat} {ad:Addr} (hp:φ oo=some p) (hmc:m<=c) (hc:c=0\/(ad=⟨p.b,p.base+k * p.esz,none⟩/\(p.ro=true\/(k+c) * p.esz=p.sz))) (hl:l<=h) (hh:h<=m) :
  VR φ (.sl oo (k+l) (h-l)) (sliced (some ad) l h c p.esz):=by
 unfold sliced
 refine⟨p,if c=l then ad else ad.add (l * p.esz),c-l,hp,?_,by omega,?_⟩
 ·split<;>simp_all
 ·rcases hc with rfl | ⟨rfl,hs⟩
  ·exact .inl (by omega)
  ·by_cases e:c=l
   ·exact .inl (by omega)
   ·refine .inr ⟨?_,?_⟩
    ·rw [if_neg e,Addr_add,Nat.add_mul,Nat.add_assoc]
    ·rcases hs with hs | hs
     ·exact .inl hs
     ·exact .inr (by rw [show k+l+(c-l)=k+c by omega]; exact hs)
theorem k_cut {T e0:TypeId} {x:Operand} {x':Od} {lo hi:Option Operand} {lo' hi':Option Od} {i:TypeInfo} (ho:o.op=.slice T x lo hi none) (hT0:P.underlying T=some (.slice e0)) (hi0:P.info? e0=some i) (hx:cOd x=some x')
  (hlo:cOO lo=some lo') (hhi:cOO hi=some hi'):OpOK P E o (.cut i.size x' lo' hi'):=by
 intro t H v H' hs φ n a w hT hH
 have h1:=hT.ev hx
 have hel:P.elem T=e0:=by simp [Program.elem,hT0]
 have hu:P.underlying T=some (.slice (P.elem T)):=by rw [hel]; exact hT0
 have hsz:∀ w,(sizeOf (P.elem T)).run P w=.ok i.size w:=by rw [hel]; exact run_sizeOf hi0
 simp only [stepA] at hs
 split at hs
 ·rename_i oo k m e
  rw [e] at h1
  obtain⟨p,ad,c,hp,h1',hmc,hc⟩:=h1
  simp only [Option.bind_eq_some_iff] at hs
  obtain⟨ob,hob,hs⟩:=hs
  split at hs
  ·rename_i hes0
   simp only [Option.bind_eq_some_iff] at hs
   obtain⟨l,hl,h,hh,hs⟩:=hs
   split at hs
   ·rename_i hb
    cases hs
    have hes:p.esz=i.size:=by rw [(hH.obj _ _ (Hp.at_some hob) p hp).esz,hes0]
    refine pure_ok (u:=sliced (some ad) l.toNat h.toNat c i.size) ?_ (by rw [<- hes]; exact sliced_ok hp hmc hc (by omega) (by omega)) hH
    rcases optI_ok hT hlo hl with ⟨rfl,rfl⟩ | ⟨xl,kl,rfl,el⟩<;>rcases optI_ok hT hhi hh with ⟨rfl,rfl⟩ | ⟨xh,kh,rfl,eh2⟩
    ·simp [execOp,ho,h1',run_sliceAt_slice w T _ _ _ _ hu,run_slice_all w T (some ad) m c hu,hsz]
    ·simp [execOp,ho,h1',run_sliceAt_slice w T _ _ _ _ hu,run_slice_h w T (some ad) m c hu kh h (by omega) (by omega),hsz,eh2]
    ·simp [execOp,ho,h1',run_sliceAt_slice w T _ _ _ _ hu,run_slice_l w T (some ad) m c hu kl l (by omega) (by omega),hsz,el]
    ·simp [execOp,ho,h1',run_sliceAt_slice w T _ _ _ _ hu,run_slice_lh w T (some ad) m c hu kl kh l h (by omega) (by omega) (by omega),hsz,el,eh2]
   ·cases hs
  ·cases hs
 ·rename_i e
  rw [e] at h1
  have h1':a.eval x=.slice none 0 0:=h1
  simp only [Option.bind_eq_some_iff] at hs
  obtain⟨l,hl,h,hh,hs⟩:=hs
  split at hs
  ·rename_i hb
   obtain⟨rfl,rfl⟩:=hb
   cases hs
   refine pure_ok (u:=.slice none 0 0) ?_ rfl hH
   rcases optI_ok hT hlo hl with ⟨rfl,_⟩ | ⟨xl,kl,rfl,el⟩<;>rcases optI_ok hT hhi hh with ⟨rfl,_⟩ | ⟨xh,kh,rfl,eh2⟩
   ·simp [execOp,ho,h1',run_sliceAt_slice w T _ _ _ _ hu,run_slice_all w T none 0 0 hu,hsz,sliced]
   ·simp [execOp,ho,h1',run_sliceAt_slice w T _ _ _ _ hu,run_slice_h w T none 0 0 hu kh 0 (by omega) (by omega),hsz,sliced,eh2]
   ·simp [execOp,ho,h1',run_sliceAt_slice w T _ _ _ _ hu,run_slice_l w T none 0 0 hu kl 0 (by omega) (by omega),hsz,sliced,el]
   ·simp [execOp,ho,h1',run_sliceAt_slice w T _ _ _ _ hu,run_slice_lh w T none 0 0 hu kl kh 0 0 (by omega) (by omega) (by omega),hsz,sliced,el,eh2]
  ·cases hs
 ·rename_i e
  rw [e] at h1
  obtain⟨ad,h1'⟩:=h1
  simp only [Option.bind_eq_some_iff] at hs
  obtain⟨l,hl,h,hh,hs⟩:=hs
  split at hs
  ·rename_i hb
   obtain⟨rfl,rfl⟩:=hb
   cases hs
   refine pure_ok (u:=.slice (some ad) 0 0) ?_ ⟨ad,rfl⟩ hH
   rcases optI_ok hT hlo hl with ⟨rfl,_⟩ | ⟨xl,kl,rfl,el⟩<;>rcases optI_ok hT hhi hh with ⟨rfl,_⟩ | ⟨xh,kh,rfl,eh2⟩
   ·simp [execOp,ho,h1',run_sliceAt_slice w T _ _ _ _ hu,run_slice_all w T (some ad) 0 0 hu,hsz,sliced]
   ·simp [execOp,ho,h1',run_sliceAt_slice w T _ _ _ _ hu,run_slice_h w T (some ad) 0 0 hu kh 0 (by omega) (by omega),hsz,sliced,eh2]
   ·simp [execOp,ho,h1',run_sliceAt_slice w T _ _ _ _ hu,run_slice_l w T (some ad) 0 0 hu kl 0 (by omega) (by omega),hsz,sliced,el]
   ·simp [execOp,ho,h1',run_sliceAt_slice w T _ _ _ _ hu,run_slice_lh w T (some ad) 0 0 hu kl kh 0 0 (by omega) (by omega) (by omega),hsz,sliced,el,eh2]
  ·cases hs
 ·cases hs
end Go.Proofs.YtepeokaplbbpoaaGreat.B

namespace Go.Proofs.YtepeokaplbbpoaaGreat.B
open Go.RowKit
set_option linter.unusedVariables false
set_option linter.unusedSimpArgs false
variable {P:Program} {E:Env} {o:Oper}
theorem putv {φ:Phi}:∀ (cs:List AV) (vs:List Value) (off k:Nat) (zs:List AV) (cells:Array Value),VRs φ zs cells.toList->VRs φ cs vs ->
  VRs φ (putAt zs (off+k) cs) ((vs.zipIdx k).foldl (fun cs p=>cs.setIfInBounds (off+p.2) p.1) cells).toList
 | [],vs,off,k,zs,cells,hz,hv=>by
  rw [show vs=[] from hv]
  exact hz
 | c :: cs,vs,off,k,zs,cells,hz,hv=>by
  obtain⟨v,vs',rfl,h1,h2⟩:=hv
  rw [List.zipIdx_cons,List.foldl_cons,putAt]
  exact putv cs vs' off (k+1) (zs.set (off+k) c) (cells.setIfInBounds (off+k) v) (by rw [Array.toList_setIfInBounds]; exact hz.set _ h1) h2
theorem putAt_one {zs cs:List AV} (hz:∀ a∈zs,one a=true) (hc:∀ a∈cs,one a=true):∀ (f:Nat),∀ a∈putAt zs f cs,one a=true:=by
 induction cs generalizing zs with
 | nil=>intro f a ha; exact hz a ha
 | cons c cs ih =>
  intro f a ha
  rw [putAt] at ha
  refine ih ?_ (fun a ha=>hc a (List.mem_cons_of_mem _ ha)) _ a ha
  intro a ha
  rcases List.mem_or_eq_of_mem_set ha with h | h
  ·exact hz a h
  ·rw [h]; exact hc c (List.mem_cons_self ..)
def PartsOK (place:Nat->Option (Nat × Nat)):List (Nat × Operand)->List (Nat × Nat × Od)->Prop
 | [],[]=>True
 | (i,x) :: xs,(off,n,y) :: ys=>place i=some (off,n)/\cOd x=some y/\PartsOK place xs ys
 | _,_=>False
theorem fill_ok {φ:Phi} {t:Nat->AV} {n:Nat} {a:Act} (hT:TR φ t n a) (place:Nat->Option (Nat × Nat)):∀ (xs:List (Nat × Operand)) (ys:List (Nat × Nat × Od)) (zs cs:List AV) (cells:Array Value),
  PartsOK place xs ys->VRs φ zs cells.toList->(∀ a∈zs,one a=true)->fillA t zs ys=some cs ->
  ∃ cells',Instr.fill place cells (xs.map fun p=>(p.1,a.eval p.2))=some cells'/\VRs φ cs cells'.toList/\(∀ a∈cs,one a=true)/\cs.length=zs.length
 | [],[],zs,cs,cells,_,hz,h1,hf=>by
  simp only [fillA,Option.some.injEq] at hf
  subst hf
  exact⟨cells,rfl,hz,h1,rfl⟩
 | [],_ :: _,_,_,_,hp,_,_,_=>hp.elim
 | _ :: _,[],_,_,_,hp,_,_,_=>by
  rename_i p ps _ _ _ _ _ _
  obtain⟨_,_⟩:=p
  exact hp.elim
 | (i,x) :: xs,(off,m,y) :: ys,zs,cs,cells,hp,hz,h1,hf=>by
  obtain⟨hpl,hx,hp⟩:=hp
  simp only [fillA] at hf
  split at hf
  ·rename_i hc
   obtain⟨c1,c2,c3⟩:=hc
   have hv:=hT.ev hx
   obtain⟨hvc,hone⟩:=cells_VR c3 hv
   have hsz:(a.eval x).cells.size=m:=by
    have:=hvc.length
    rw [Array.length_toList] at this
    omega
   have hcs:cells.size=zs.length:=by
    have:=hz.length
    rwa [Array.length_toList] at this
   have hput:=putv (y.ev t).cells (a.eval x).cells.toList off 0 zs cells hz hvc
   obtain⟨cells',k1,k2,k3,k4⟩:=fill_ok hT place xs ys _ cs _ hp hput (putAt_one h1 hone _) hf
   refine⟨cells',?_,k2,k3,by rw [k4,putAt_length]⟩
   simp only [List.map_cons,Instr.fill,hpl]
   rw [if_neg (by simp [hsz,hcs]; omega)]
   rw [<- k1]
   congr 1
   rw [<- Array.foldl_toList,Array.toList_zipIdx]
  ·cases hf
theorem cVals_ok (φ:Phi):∀ (l:List Value) (l':List AV),l.mapM cVal=some l'->VRs φ l' l/\∀ x∈l',one x=true:=by
 intro l
 induction l with
 | nil=>intro l' h; simp at h; subst h; exact⟨rfl,by simp⟩
 | cons y l ih =>
  intro l' h
  simp only [List.mapM_cons,Option.bind_eq_bind,Option.pure_def,Option.bind_eq_some_iff,Option.some.injEq] at h
  obtain⟨y',hy,r,hr,rfl⟩:=h
  obtain⟨i1,i2⟩:=ih r hr
  refine⟨⟨_,_,rfl,cVal_sound hy φ,i1⟩,fun x hx=>?_⟩
  rcases List.mem_cons.1 hx with rfl | hx
  ·unfold cVal at hy
   split at hy<;>first | (cases hy; rfl) | cases hy
  ·exact i2 x hx
theorem k_build {T:TypeId} {xs:Array (Nat × Operand)} {i:TypeInfo} {fs:Array Field} {z:Value} {zs:List AV} {places:List (Nat × Nat)} {ys:List (Nat × Nat × Od)} (ho:o.op=.build T xs)
  (hi:P.info? T=some i) (hz:i.zero=some z) (hT0:P.underlying T=some (.struct fs)) (hpl:fs.toList.mapM (fun f=>(P.info? f.type).map fun i=>(f.offset,i.size))=some places)
  (hzs:z.cells.toList.mapM cVal=some zs) (hp:PartsOK (places.toArray[·]?) xs.toList ys):OpOK P E o (.build zs ys):=by
 intro t H v H' hs φ n a w hT hH
 simp only [stepA,Option.map_eq_some_iff] at hs
 obtain⟨cs,hf,hs⟩:=hs
 cases hs
 obtain⟨h1,h2⟩:=cVals_ok φ _ _ hzs
 obtain⟨cells',k1,k2,_,_⟩:=fill_ok hT _ xs.toList ys zs cs z.cells hp h1 h2 hf
 refine pure_ok (u:=.agg cells') ?_ ⟨cells'.toList,by simp,k2⟩ hH
 have hb:P.built T (xs.map fun p=>(p.1,a.eval p.2)).toList=some cells':=by
  rw [Array.toList_map]
  unfold Program.built
  simp only [hi,hT0,hz,hpl]
  exact k1
 have hr:=run_build (P:=P) w T (xs.map fun p=>(p.1,a.eval p.2)) cells' hb
 simp [execOp,ho,hr]
theorem chunk_flatten (esz:Nat):∀ (n:Nat) (l:List AV),l.length=n * esz->(chunk esz n l).flatten=l
 | 0,l,h=>by
  have:l=[]:=List.length_eq_zero_iff.1 (by omega)
  subst this
  rfl
 | n+1,l,h=>by
  rw [chunk,List.flatten_cons,chunk_flatten esz n _ (by rw [List.length_drop,h,Nat.add_mul]; omega),List.take_append_drop]
theorem chunk_len (esz:Nat):∀ (n:Nat) (l:List AV),l.length=n * esz->∀ r∈chunk esz n l,r.length=esz
 | 0,l,h,r,hr=>by simp [chunk] at hr
 | n+1,l,h,r,hr=>by
  rw [chunk] at hr
  rw [Nat.add_mul] at h
  rcases List.mem_cons.1 hr with rfl | hr
  ·rw [List.length_take]; omega
  ·exact chunk_len esz n _ (by rw [List.length_drop]; omega) r hr
theorem range0 (f:Nat->Value):(Array.range 0).map f=#[]:=by
 apply Array.eq_empty_of_size_eq_zero
 simp
theorem k_lit {T e:TypeId} {len:Nat} {xs:Array (Nat × Operand)} {i:TypeInfo} {z:Value} {zs:List AV} {ys:List (Nat × Nat × Od)} (ho:o.op=.buildSlice T len xs)
  (hT0:P.underlying T=some (.slice e)) (hi:P.info? e=some i) (hz:i.zero=some z) (hsmall:len * i.size<=16777216)
  (hzs:((Array.range (len * i.size)).map (z.cells[· % z.cells.size]!)).toList.mapM cVal=some zs) (hp:PartsOK (fun k=>some (k * i.size,i.size)) xs.toList ys):OpOK P E o (.lit e i.size len zs ys):=by
 intro t H v H' hs φ n a w hT hH
 simp only [stepA,Option.map_eq_some_iff] at hs
 obtain⟨cs,hf,hs⟩:=hs
 cases hs
 obtain⟨h1,h2⟩:=cVals_ok φ _ _ hzs
 obtain⟨cells',k1,k2,k3,k4⟩:=fill_ok hT _ xs.toList ys zs cs _ hp h1 h2 hf
 have hlen:cs.length=len * i.size:=by
  rw [k4,<- h1.length]
  simp
 have hfl:=chunk_flatten i.size len cs hlen
 obtain⟨g1,g2,g3,g4⟩:=new_ok hH (rows:=chunk i.size len cs) (esz:=i.size) (ety:=e) (cells:=cells'.toList) (by rw [hfl]; exact k2) (chunk_len _ _ _ hlen) (by rw [hfl]; exact k3)
 have hcl:cells'.toList.length=len * i.size:=by rw [k2.length,hlen]
 refine⟨_,.slice (some ⟨w.heap.size,0,none⟩) len len,_,.inl ?_,⟨_,_,_,g4,rfl,Nat.le_refl _,.inr ⟨by simp,.inr (by simp only [Nat.zero_add]; exact hcl.symm)⟩⟩,g1,g2,g3⟩
 by_cases h0:len * i.size=0
 ·have e1:Instr.fill (fun k=>some (k * i.size,i.size)) #[] (xs.map fun p=>(p.1,a.eval p.2)).toList=some cells':=by
   rw [Array.toList_map,<- k1,h0,range0]
  simp only [execOp,ho]
  have hr:(Instr.buildSlice T len (xs.map fun p=>(p.1,a.eval p.2))).run P w=.ok (.slice (some ⟨w.heap.size,0,none⟩) len len) (w.alloc (.cells cells' e)):=by
   have e2:=e1
   rw [Array.toList_map] at e2
   simp only [Instr.buildSlice,Sem.run_bind,run_underlying hT0,run_sizeOf hi,h0,Result.andThen_ok]
   simp [h0,range0,newRow,e2]
  simp [hr]
 ·have hr:=run_buildSlice (P:=P) w T e len (xs.map fun p=>(p.1,a.eval p.2)) cells' i z hT0 hi hz (by simpa using hsmall) h0 (by rw [Array.toList_map]; exact k1)
  simp [execOp,ho,hr]
def flatT:Nat->Option TypeDesc->Bool
 | 0,some (.int _)=>true
 | 1,some .bool=>true
 | 2,some .string=>true
 | _,_=>false
theorem flatT0:∀ {x:Option TypeDesc},flatT 0 x=true->∃ k,x=some (.int k)
 | some (.int k),_=>⟨k,rfl⟩
theorem flatT1:∀ {x:Option TypeDesc},flatT 1 x=true->x=some .bool
 | some .bool,_=>rfl
theorem flatT2:∀ {x:Option TypeDesc},flatT 2 x=true->x=some .string
 | some .string,_=>rfl
def flatF (P:Program):List Field->Nat->List Nat->Bool
 | [],_,[]=>true
 | f :: fs, k, s :: ss => f.name != "_" && f.offset == k && flatT s (P.underlying f.type) && flatF P fs (k + 1) ss
 | _,_,_=>false
theorem eqF_ok {φ:Phi} (d:Nat) (xs ys:Array Value) (w:World):∀ (fs:List Field) (k:Nat) (ss:List Nat) (as bs:List AV) (r:Bool),flatF P fs k ss=true ->
  VRs φ as (xs.toList.drop k)->VRs φ bs (ys.toList.drop k)->eqcs ss as bs=some r->(Op.eqFields (d+1) xs ys fs).run P w=.ok r w
 | [],k,[],as,bs,r,hf,ha,hb,he=>by
  cases as<;>cases bs<;>simp only [eqcs,Option.some.injEq,reduceCtorEq] at he
  subst he
  simp [Op.eqFields]
 | [],k,_ :: _,as,bs,r,hf,ha,hb,he=>by simp [flatF] at hf
 | f :: fs,k,[],as,bs,r,hf,ha,hb,he=>by simp [flatF] at hf
 | f :: fs,k,s :: ss,as,bs,r,hf,ha,hb,he=>by
  simp only [flatF,Bool.and_eq_true,bne_iff_ne,ne_eq,beq_iff_eq] at hf
  obtain⟨⟨⟨hn,hoff⟩,hty⟩,hf⟩:=hf
  cases as with
  | nil=>cases bs<;>simp [eqcs] at he
  | cons x as =>
   cases bs with
   | nil=>simp [eqcs] at he
   | cons y bs =>
    simp only [eqcs,Option.bind_eq_some_iff,Option.map_eq_some_iff] at he
    obtain⟨r1,h1,r2,h2,rfl⟩:=he
    obtain⟨u,us,e1,hu,hus⟩:=ha
    obtain⟨v,vs,e2,hv,hvs⟩:=hb
    have gx:xs[k]?=some u:=by
     have:(xs.toList.drop k)[0]?=some u:=by rw [e1]; rfl
     rw [List.getElem?_drop] at this
     simpa using this
    have gy:ys[k]?=some v:=by
     have:(ys.toList.drop k)[0]?=some v:=by rw [e2]; rfl
     rw [List.getElem?_drop] at this
     simpa using this
    have dx:us=xs.toList.drop (k+1):=by rw [<- List.drop_drop,e1]; rfl
    have dy:vs=ys.toList.drop (k+1):=by rw [<- List.drop_drop,e2]; rfl
    have rest:=eqF_ok d xs ys w fs (k+1) ss as bs r2 hf (dx ▸ hus) (dy ▸ hvs) h2
    have here:∃ t0,P.underlying f.type=some t0/\aggB t0=false/\(Op.equalIn (d+1) f.type u v).run P w=.ok r1 w:=by
     unfold eqc at h1
     split at h1
     ·rename_i k1 a1 k2 b1
      split at h1
      ·rename_i ek
       subst ek
       cases h1
       obtain⟨k0,ht0⟩:=flatT0 hty
       rw [show u=_ from hu,show v=_ from hv]
       exact⟨_,ht0,rfl,run_equalIn_int w d _ _ _ _ _ ht0⟩
      ·cases h1
     ·cases h1
      have ht0:=flatT1 hty
      rw [show u=_ from hu,show v=_ from hv]
      exact⟨_,ht0,rfl,run_equalIn_bool' w d _ _ _ ht0⟩
     ·cases h1
      have ht0:=flatT2 hty
      rw [show u=_ from hu,show v=_ from hv]
      exact⟨_,ht0,rfl,run_equalIn_string w d _ _ _ ht0⟩
     ·cases h1
    obtain⟨t0,ht0,hagg,hrun⟩:=here
    simp only [Op.eqFields,hn,ne_eq,not_false_eq_true,if_true,Sem.run_bind]
    have px:(part f.type xs f.offset).run P w=.ok u w:=by simp [part,run_isAgg ht0,hagg,hoff,gx]
    have py:(part f.type ys f.offset).run P w=.ok v w:=by simp [part,run_isAgg ht0,hagg,hoff,gy]
    simp only [px,py,hrun,Result.andThen_ok]
    cases r1
    ·simp
    ·simp [rest]
theorem k_eqs {b:BinOp} {ne:Bool} {T T2:TypeId} {x y:Operand} {x' y':Od} {ss:List Nat} (ho:o.op=.binOp b T x y T2) (hb:b=if ne then .neq else .eql)
  (hT0:P.underlying T=some (.struct (P.fieldsOf T))) (hst:P.stoodInHeld T=false) (hg0:P.eqGuardType P.depth T=false) (hfl:flatF P (P.fieldsOf T).toList 0 ss=true)
  (hx:cOd x=some x') (hy:cOd y=some y'):OpOK P E o (.eqs ne ss x' y'):=by
 intro t H v H' hs φ n a w hT hH
 have h1:=hT.ev hx
 have h2:=hT.ev hy
 simp only [stepA] at hs
 split at hs
 ·rename_i p q e1 e2
  rw [e1] at h1
  rw [e2] at h2
  obtain⟨l1,h1',hl1⟩:=h1
  obtain⟨l2,h2',hl2⟩:=h2
  simp only [Option.map_eq_some_iff] at hs
  obtain⟨r,hr,hs⟩:=hs
  cases hs
  have hrun:=eqF_ok (P:=P) (φ:=φ) 9998 l1.toArray l2.toArray w _ 0 ss p q r hfl (by simpa using hl1) (by simpa using hl2) hr
  have heq:(Op.equalIn 10000 T (.agg l1.toArray) (.agg l2.toArray)).run P w=.ok r w:=by
   rw [show (10000:Nat)=9999+1 from rfl,run_equalIn_struct w 9999 T _ _ hT0 hst]
   exact hrun
  refine pure_ok (u:=.bool (r != ne)) ?_ rfl hH
  subst hb
  cases ne
  ·simp only [execOp,ho,h1',h2',Bool.false_eq_true,if_false]
   simp [run_eqGuard_agg w _ T x y _ _ hg0,run_eql_struct,heq]
  ·simp only [execOp,ho,h1',h2',if_true]
   simp [run_eqGuard_agg w _ T x y _ _ hg0,run_neq_struct,heq]
 ·cases hs
end Go.Proofs.YtepeokaplbbpoaaGreat.B

namespace Go.Proofs.YtepeokaplbbpoaaGreat.B
open Go.RowKit
set_option linter.unusedVariables false
set_option linter.unusedSimpArgs false
variable {P:Program} {E:Env} {o:Oper}
theorem rep_get {α:Type} (zs:List α) (n j:Nat) (h:j<n * zs.length):(List.replicate n zs).flatten[j]?=zs[j % zs.length]?:=by
 have h0:0<zs.length:=by
  rcases Nat.eq_zero_or_pos zs.length with e | e
  ·rw [e] at h; omega
  ·exact e
 have e:j=j / zs.length * zs.length+j % zs.length:=by rw [Nat.mul_comm]; exact (Nat.div_add_mod j _).symm
 have hlt:j / zs.length<n:=Nat.div_lt_of_lt_mul (by rw [Nat.mul_comm]; exact h)
 have:=flatten_get zs.length (List.replicate n zs) (fun r hr=>by rw [(List.mem_replicate.1 hr).2]) (j / zs.length) (j % zs.length) zs (by simp [hlt]) (Nat.mod_lt _ h0)
 rw [<- e] at this
 exact this
theorem made_VR {φ:Phi} {zs:List AV} {z:Array Value} (h:VRs φ zs z.toList) (n:Nat):VRs φ (List.replicate n zs).flatten (madeCells z (n * zs.length)).toList:=by
 have hz:z.size=zs.length:=by have:=h.length; rwa [Array.length_toList] at this
 refine VRs.of_get (by rw [Array.length_toList,size_madeCells]; simp) (fun j a ha=>?_)
 have hj:j<n * zs.length:=by
  have:=(List.getElem?_eq_some_iff.1 ha).1
  simpa using this
 rw [rep_get zs n j hj] at ha
 obtain⟨v,hv,hR⟩:=h.get _ _ ha
 refine⟨v,?_,hR⟩
 rw [Array.getElem?_toList] at hv
 have hm:j % z.size<z.size:=by rw [hz]; exact (List.getElem?_eq_some_iff.1 ha).1
 have hv2:z[j % z.size]?=some v:=by rw [hz]; exact hv
 rw [Array.getElem?_eq_getElem hm] at hv2
 simp only [madeCells,Array.getElem?_toList]
 rw [Array.getElem?_map,Array.getElem?_range,if_pos hj,Option.map_some,getElem!_pos z _ hm]
 exact hv2
theorem k_mk {T e:TypeId} {x y:Operand} {x':Od} {i:TypeInfo} {z:Value} {zs:List AV} (ho:o.op=.makeSlice T x y) (hxy:cOd y=cOd x) (hT0:P.underlying T=some (.slice e)) (hi:P.info? e=some i) (hz:i.zero=some z)
  (hzs:z.cells.toList.mapM cVal=some zs) (hsz:zs.length=i.size) (hb0:0<i.bytes) (hx:cOd x=some x'):OpOK P E o (.mk e i.size i.bytes zs x'):=by
 intro t H v H' hs φ n a w hT hH
 have h1:=hT.ev hx
 have h2:=hT.ev (hxy.trans hx)
 simp only [stepA] at hs
 split at hs
 ·rename_i m e1
  rw [e1] at h1 h2
  have h1':a.eval x=.int .i64 m:=h1
  have h2':a.eval y=.int .i64 m:=h2
  split at hs
  ·rename_i hc
   obtain⟨hm0,hmb⟩:=hc
   cases hs
   obtain⟨k,rfl⟩:=Int.eq_ofNat_of_zero_le hm0
   have hkb:k * i.bytes<=140737488355328:=by
    have:((k * i.bytes:Nat):Int)<=140737488355328:=by simpa using hmb
    omega
   have hk:k<=140737488355328:=Nat.le_trans (Nat.le_mul_of_pos_right k hb0) hkb
   obtain⟨c1,c2⟩:=cVals_ok φ _ _ hzs
   have hml:k<=maxLen:=by simp only [maxLen]; omega
   have hr:=run_make (P:=P) w T e i z hT0 hi hz .i64 .i64 (k:Int) (k:Int) (by omega) (Int.le_refl _) (by rw [Int.mul_comm]; omega) (by omega)
   simp only [Int.toNat_natCast] at hr
   have hmade:=made_VR c1 k
   rw [hsz] at hmade
   obtain⟨g1,g2,g3,g4⟩:=new_ok hH (rows:=List.replicate k zs) (esz:=i.size) (ety:=e) (cells:=(madeCells z.cells (k * i.size)).toList) hmade
    (fun r hr=>by rw [(List.mem_replicate.1 hr).2,hsz]) (fun a ha=>by
     obtain⟨r,hr,ha⟩:=List.mem_flatten.1 ha
     rw [(List.mem_replicate.1 hr).2] at ha
     exact c2 a ha)
   refine⟨_,.slice (some ⟨w.heap.size,0,none⟩) k k,_,.inl ?_,⟨_,_,_,g4,rfl,Nat.le_refl _,.inr ⟨by simp,.inr (by simp [size_madeCells])⟩⟩,g1,g2,g3⟩
   simp only [execOp,ho,h1',h2']
   simp [hr]
  ·cases hs
 ·cases hs
theorem eq_ss {T e:TypeId} (h:P.underlying T=some (.slice e)) (d:Nat) (w:World):(Op.equalIn (d+1) T (.slice none 0 0) (.slice none 0 0)).run P w=.ok true w:=by simp [Op.equalIn,run_underlying h]
theorem eq_sn {T e:TypeId} (h:P.underlying T=some (.slice e)) (d:Nat) (w:World) (ad:Addr) (m c:Nat):(Op.equalIn (d+1) T (.slice (some ad) m c) (.slice none 0 0)).run P w=.ok false w:=by simp [Op.equalIn,run_underlying h]
theorem eq_ii {T:TypeId} {ms} (h:P.underlying T=some (.interface ms)) (d:Nat) (w:World):(Op.equalIn (d+1) T .nilIface .nilIface).run P w=.ok true w:=by simp [Op.equalIn,run_underlying h]
theorem eq_in {T:TypeId} {ms} (h:P.underlying T=some (.interface ms)) (d:Nat) (w:World) (t0:TypeId) (x0:Value):(Op.equalIn (d+1) T (.iface t0 x0) .nilIface).run P w=.ok false w:=by simp [Op.equalIn,run_underlying h]
theorem eqv {b:BinOp} {ne:Bool} {T:TypeId} {v1 v2:Value} {r:Bool} {w:World} (hb:b=if ne then .neq else .eql) (he:(Op.equal T v1 v2).run P w=.ok r w)
  (h1:binOp .eql T v1 v2=(do pure (.bool (<- Op.equal T v1 v2)))) (h2:binOp .neq T v1 v2=(do pure (.bool (!(<- Op.equal T v1 v2))))):(binOp b T v1 v2).run P w=.ok (.bool (r != ne)) w:=by
 subst hb
 cases ne
 ·rw [if_neg (by simp),h1]
  simp [he]
 ·rw [if_pos rfl,h2]
  simp [he]
theorem eqg {b:BinOp} {T:TypeId} {x:Operand} {c v1 v2:Value} {w:World} (h:(∃ a m k,v1=.slice a m k)\/v2=.nilIface) (hv:∀ cs,v1≠.agg cs):(eqGuard b T x (.const c) v1 v2).run P w=.ok () w:=by
 unfold eqGuard
 rcases h with ⟨a,m,k,rfl⟩ | rfl
 ·split<;>simp
 ·cases v1<;>first | exact absurd rfl (hv _) | (split<;>simp)
theorem k_eqn {b:BinOp} {ne:Bool} {k:Nat} {T T2:TypeId} {x:Operand} {c:Value} {x' y':Od} {d:TypeDesc} (ho:o.op=.binOp b T x (.const c) T2) (hb:b=if ne then .neq else .eql) (hT0:P.underlying T=some d)
  (hd:(k=0/\∃ e,d=.slice e)\/(k=1/\∃ ms,d=.interface ms)) (hx:cOd x=some x') (hy:cOd (.const c)=some y'):OpOK P E o (.eqn k ne x' y'):=by
 intro t H v H' hs φ n a w hT hH
 have h1:=hT.ev hx
 have h2:=hT.ev hy
 simp only [stepA,Option.map_eq_some_iff] at hs
 obtain⟨r,hr,hs⟩:=hs
 cases hs
 refine pure_ok (u:=.bool (r != ne)) ?_ rfl hH
 have key:(eqGuard b T x (.const c) (a.eval x) (a.eval (.const c))).run P w=.ok () w/\(binOp b T (a.eval x) (a.eval (.const c))).run P w=.ok (.bool (r != ne)) w:=by
  unfold eqnA at hr
  split at hr<;>cases hr<;>rename_i e1 e2<;>rw [e1] at h1<;>rw [e2] at h2
  ·rcases hd with ⟨_,e,rfl⟩ | ⟨h,_⟩
   ·rw [show a.eval x=_ from h1,show a.eval _=_ from h2]
    exact⟨eqg (.inl ⟨_,_,_,rfl⟩) (fun _ h=>by cases h),eqv hb (eq_ss hT0 9999 w) rfl rfl⟩
   ·cases h
  ·rcases hd with ⟨_,e,rfl⟩ | ⟨h,_⟩
   ·obtain⟨p,ad,cc,_,h1',_⟩:=h1
    rw [h1',show a.eval _=_ from h2]
    exact⟨eqg (.inl ⟨_,_,_,rfl⟩) (fun _ h=>by cases h),eqv hb (eq_sn hT0 9999 w _ _ _) rfl rfl⟩
   ·cases h
  ·rcases hd with ⟨_,e,rfl⟩ | ⟨h,_⟩
   ·obtain⟨ad,h1'⟩:=h1
    rw [h1',show a.eval _=_ from h2]
    exact⟨eqg (.inl ⟨_,_,_,rfl⟩) (fun _ h=>by cases h),eqv hb (eq_sn hT0 9999 w _ _ _) rfl rfl⟩
   ·cases h
  ·rcases hd with ⟨h,_⟩ | ⟨_,e,rfl⟩
   ·cases h
   ·rw [show a.eval x=_ from h1,show a.eval _=_ from h2]
    exact⟨eqg (.inr rfl) (fun _ h=>by cases h),eqv hb (eq_ii hT0 9999 w) rfl rfl⟩
  ·rcases hd with ⟨h,_⟩ | ⟨_,e,rfl⟩
   ·cases h
   ·obtain⟨t0,x0,h1'⟩:=h1
    rw [h1',show a.eval _=_ from h2]
    exact⟨eqg (.inr rfl) (fun _ h=>by cases h),eqv hb (eq_in hT0 9999 w _ _) rfl rfl⟩
 obtain⟨k1,k2⟩:=key
 simp only [execOp,ho]
 simp only [Sem.run_bind,k1,Result.andThen_ok,k2]
 simp
end Go.Proofs.YtepeokaplbbpoaaGreat.B

namespace Go.Proofs.YtepeokaplbbpoaaGreat.B
open Go.RowKit
set_option linter.unusedVariables false
set_option linter.unusedSimpArgs false
variable {P:Program} {E:Env} {o:Oper}
theorem HR.ones {φ:Phi} {H:Hp} {w:World} (h:HR E φ H w) {x:Nat} {ob:Ob} (ho:H[x]?=some (some ob)) {p:Pl} (hp:φ x=some p) {i:Nat} {row:List AV} (hr:ob.rows[i]?=some row):∀ a∈row,one a=true:=by
 intro a ha
 obtain⟨f,hf⟩:=List.getElem?_of_mem ha
 obtain⟨_,_,_,h1⟩:=h.cell ho hp hr hf
 exact h1
theorem HR.rowsCells {φ:Phi} {H:Hp} {w:World} (h:HR E φ H w) {x:Nat} {ob:Ob} (ho:H[x]?=some (some ob)) {p:Pl} (hp:φ x=some p) (i m:Nat) (hm:i+m<=ob.rows.length) :
  ∃ l:List Value,VRs φ ((ob.rows.drop i).take m).flatten l/\l.length=m * p.esz/\(∀ (j:Nat) (v:Value),l[j]?=some v->w.cell? ((⟨p.b,p.base+i * p.esz,none⟩:Addr).add j)=some v) /\
   (∀ a∈((ob.rows.drop i).take m).flatten,one a=true)/\∀ r∈(ob.rows.drop i).take m,r.length=p.esz:=by
 induction m with
 | zero=>exact⟨[],by simp [VRs],by simp,fun j v hv=>by simp at hv,by simp,by simp⟩
 | succ m ih =>
  obtain⟨l,h1,h2,h3,h4,h5⟩:=ih (by omega)
  have hlt:i+m<ob.rows.length:=by omega
  have hrow:=List.getElem?_eq_getElem hlt
  have hrl:=h.rowlen ho hp hrow
  obtain⟨l2,k1,k2,k3⟩:=h.cells ho hp hrow 0 (ob.rows[i+m]).length (by omega)
  have e:(ob.rows.drop i).take (m+1)=(ob.rows.drop i).take m++[ob.rows[i+m]]:=by
   rw [List.take_succ_eq_append_getElem (by simp; omega)]
   simp
  refine⟨l++l2,?_,?_,fun j v hv=>?_,?_,?_⟩
  ·rw [e,List.flatten_append]
   exact h1.append (by simpa using k1)
  ·rw [List.length_append,h2,k2,hrl,Nat.add_mul,Nat.one_mul]
  ·rcases Nat.lt_or_ge j l.length with hj | hj
   ·rw [List.getElem?_append_left hj] at hv
    exact h3 j v hv
   ·rw [List.getElem?_append_right hj] at hv
    have:=k3 _ v hv
    rw [Addr_add] at this ⊢
    rw [h2] at this hj
    rw [<- this]
    congr 2
    rw [Nat.add_mul]
    omega
  ·rw [e,List.flatten_append]
   intro a ha
   rcases List.mem_append.1 ha with ha | ha
   ·exact h4 a ha
   ·exact h.ones ho hp hrow a (by simpa using ha)
  ·rw [e]
   intro r hr
   rcases List.mem_append.1 hr with hr | hr
   ·exact h5 r hr
   ·rw [List.mem_singleton.1 hr]; exact hrl
theorem VRs.oneCell {φ:Phi}:∀ {as:List AV} {l:List Value},VRs φ as l->(∀ a∈as,one a=true)->∀ u∈l,u.oneCell'=true
 | [],l,h,_,u,hu=>by rw [show l=[] from h] at hu; simp at hu
 | a :: as,l,h,h1,u,hu=>by
  obtain⟨v,vs,rfl,k1,k2⟩:=h
  rcases List.mem_cons.1 hu with rfl | hu
  ·exact one_cell (h1 a (List.mem_cons_self ..)) k1
  ·exact k2.oneCell (fun x hx=>h1 x (List.mem_cons_of_mem _ hx)) u hu
theorem OB_flat {φ:Phi} {rows:List (List AV)} {esz:Nat} {xs:List Value} {cells:Array Value} (hv:VRs φ rows.flatten xs) (hl:∀ r∈rows,r.length=esz) (h1:∀ a∈rows.flatten,one a=true)
  (hc:∀ (j:Nat) (v:Value),xs[j]?=some v->cells[j]?=some v) :
  ∀ (i:Nat) (row:List AV),rows[i]?=some row->row.length=esz/\∀ (f:Nat) (a:AV),row[f]?=some a->one a=true/\∃ v,cells[0+i * esz+f]?=some v/\VR φ a v:=by
 intro i row hr
 have hrl:=hl row (List.mem_of_getElem? hr)
 refine⟨hrl,fun f a ha=>?_⟩
 have hf:f<esz:=by rw [<- hrl]; exact (List.getElem?_eq_some_iff.1 ha).1
 have hg:rows.flatten[i * esz+f]?=some a:=by rw [flatten_get esz rows hl i f row hr hf]; exact ha
 obtain⟨v,hv',hR⟩:=hv.get _ _ hg
 exact⟨h1 a (List.mem_of_getElem? hg),v,by rw [Nat.zero_add]; exact hc _ _ hv',hR⟩
theorem Phi.put_self {φ:Phi} {o:Nat} {p:Pl}:(φ.put o p) o=some p:=if_pos rfl
def killO (H:Hp):Option Nat->Hp
 | some y=>H.set y none
 | none=>H
theorem HR.moved {φ:Phi} {H:Hp} {w w':World} (h:HR E φ H w) (x:Option Nat) {rows:List (List AV)} {esz ety b:Nat} {xs:List Value} {cells:Array Value}
  (hb:Below E.B0 w w') (hB:E.B0<=b) (hcell:w'.heap[b]?=some (.cells cells ety (0,0)))
  (hblk:∀ k,k<w.heap.size->k≠b->w'.heap[k]?=w.heap[k]?)
  (hfree:(w.heap.size<=b)\/∃ y ob p,x=some y/\H[y]?=some (some ob)/\φ y=some p/\ob.ro=false/\p.b=b)
  (hv:VRs φ rows.flatten xs) (hl:∀ r∈rows,r.length=esz) (h1:∀ a∈rows.flatten,one a=true) (hc:∀ (j:Nat) (v:Value),xs[j]?=some v->cells[j]?=some v) :
  PLe φ (φ.put H.length ⟨b,0,esz,cells.size,false⟩) /\
  HR E (φ.put H.length ⟨b,0,esz,cells.size,false⟩) ((killO H x)++[some ⟨rows,esz,ety,false⟩]) w':=by
 have hle:=Phi.put_le (p:=⟨b,0,esz,cells.size,false⟩) h.none_at
 refine⟨hle,?_⟩
 have hlen:(killO H x).length=H.length:=by cases x<;>simp [killO]
 have hk:HR E φ (killO H x) w:=by
  cases x
  ·exact h
  ·exact h.kill _
 have hsub:∀ (o':Nat) (ob':Ob),(killO H x)[o']?=some (some ob')->H[o']?=some (some ob')/\x≠some o':=by
  intro o' ob' ho'
  cases x with
  | none=>exact⟨ho',by simp⟩
  | some y =>
   simp only [killO] at ho'
   rw [List.getElem?_set] at ho'
   split at ho'
   ·split at ho'<;>simp at ho'
   ·rename_i hne
    exact⟨ho',fun e=>hne (by simpa using e)⟩
 have hne:∀ (o':Nat) (ob':Ob) (p':Pl),(killO H x)[o']?=some (some ob')->φ o'=some p'->p'.b≠b:=by
  intro o' ob' p' ho' hp'
  obtain⟨h1,h2⟩:=hsub o' ob' ho'
  rcases hfree with hf | ⟨y,ob,p,rfl,hy,hpy,hro,rfl⟩
  ·have:=h.blk o' p' hp'
   omega
  ·exact fun e=>h.inj y o' ob ob' hy h1 p p' hpy hp' hro (fun e=>h2 (by rw [e])) e.symm
 have hkeep:HR E φ (killO H x) w':=hk.keep hb (fun o' ob' p' ho' hp'=>hblk p'.b (h.blk o' p' hp') (hne o' ob' p' ho' hp'))
 have hlt:b<w'.heap.size:=by
  rcases Nat.lt_or_ge b w'.heap.size with e | e
  ·exact e
  ·rw [Array.getElem?_eq_none e] at hcell; cases hcell
 have:=hkeep.add ⟨rows,esz,ety,false⟩ ⟨b,0,esz,cells.size,false⟩ rfl (fun _ o' ob' p' ho' hp'=>hne o' ob' p' ho' hp') (fun o' ob' p' ho' hp' _=>hne o' ob' p' ho' hp')
  ⟨rfl,rfl,cells,ety,(0,0),hcell,fun _=>⟨rfl,rfl,rfl,rfl,hB⟩,by
   rw [hlen]
   exact OB_flat (VRs.mono hle _ _ hv) hl h1 hc⟩ hlt
 rw [hlen] at this
 exact this
theorem setRow_below {w:World} {g:Nat} {cs:Array Value} {B:Nat} (hB:B<=g):Below B w (w.setRow g cs) :=
 ⟨rfl,rfl,rfl,by simp [World.setRow],fun k hk=>setRow_other w g k cs (by omega)⟩
theorem run_app0 {t ty e:TypeId} {i:TypeInfo} (ht:P.underlying t=some (.slice e)) (hi:P.info? e=some i) (w:World) (A:Option Addr) (n cap:Nat) (hn:n<=cap) (x:Value) (hx:x=.slice none 0 0\/∃ a c,x=.slice (some a) 0 c) :
  (Builtin.append_ #[t,t] ty #[.slice A n cap,x]).run P w=.ok (.slice A n cap) w:=by
 rcases hx with rfl | ⟨a,c,rfl⟩
 ·cases A<;>simp [Builtin.append_,run_underlying ht,sizeOf,typeInfo,hi,Builtin.lenOf,Builtin.firstCells,hn,storeCells]
 ·have hf:=run_firstCells_some (P:=P) w i.size 0 a 0 c [] (by simp) (fun j v hv=>by simp at hv)
  cases A<;>simp [Builtin.append_,run_underlying ht,sizeOf,typeInfo,hi,Builtin.lenOf,hf,hn,storeCells]
theorem k_app {t0 e ty:TypeId} {x y:Operand} {x' y':Od} {i:TypeInfo} {z:Value} (ho:o.op=.call { callee:=.builtin .append,args:=#[x,y],argTypes:=#[t0,t0] }) (hT0:P.underlying t0=some (.slice e))
  (hi:P.info? e=some i) (hz:i.zero=some z) (hzs:z.cells.size=i.size) (hs0:0<i.size) (hb0:0<i.bytes) (hx:cOd x=some x') (hy:cOd y=some y'):OpOK P E o (.app e i.size i.bytes x' y'):=by
 intro t H v H' hs φ nn a w hT hH
 have h1:=hT.ev hx
 have h2:=hT.ev hy
 have hexec:∀ u w',(Builtin.append_ #[t0,t0] o.type #[a.eval x,a.eval y]).run P w=.ok u w'->(execOp a.eval o).run P w=.ok (.value u) w':=by
  intro u w' h
  simp [execOp,ho,resolve,invoke,builtin,h]
 simp only [stepA] at hs
 split at hs
 ·rename_i e2
  rw [e2] at h2
  have h2':a.eval y=.slice none 0 0:=h2
  split at hs
  ·rename_i e1
   rw [e1] at h1
   have h1':a.eval x=.slice none 0 0:=h1
   cases hs
   refine pure_ok (u:=.slice none 0 0) (hexec _ _ ?_) rfl hH
   rw [h1',h2']
   exact run_app0 hT0 hi w none 0 0 (Nat.le_refl _) _ (.inl rfl)
  ·rename_i e1
   rw [e1] at h1
   obtain⟨ad,h1'⟩:=h1
   cases hs
   refine pure_ok (u:=.slice (some ad) 0 0) (hexec _ _ ?_) ⟨ad,rfl⟩ hH
   rw [h1',h2']
   exact run_app0 hT0 hi w (some ad) 0 0 (Nat.le_refl _) _ (.inl rfl)
  ·rename_i oo k n e1
   rw [e1] at h1
   cases hs
   have h1c:=h1
   obtain⟨p,ad,c,hp,h1',hmc,hc⟩:=h1
   refine pure_ok (u:=a.eval x) (hexec _ _ ?_) h1c hH
   rw [h1',h2']
   exact run_app0 hT0 hi w (some ad) n c hmc _ (.inl rfl)
  ·cases hs
 ·rename_i e2
  rw [e2] at h2
  obtain⟨ad2,h2'⟩:=h2
  split at hs
  ·rename_i e1
   rw [e1] at h1
   have h1':a.eval x=.slice none 0 0:=h1
   cases hs
   refine pure_ok (u:=.slice none 0 0) (hexec _ _ ?_) rfl hH
   rw [h1',h2']
   exact run_app0 hT0 hi w none 0 0 (Nat.le_refl _) _ (.inr ⟨_,_,rfl⟩)
  ·rename_i e1
   rw [e1] at h1
   obtain⟨ad,h1'⟩:=h1
   cases hs
   refine pure_ok (u:=.slice (some ad) 0 0) (hexec _ _ ?_) ⟨ad,rfl⟩ hH
   rw [h1',h2']
   exact run_app0 hT0 hi w (some ad) 0 0 (Nat.le_refl _) _ (.inr ⟨_,_,rfl⟩)
  ·rename_i oo k n e1
   rw [e1] at h1
   cases hs
   have h1c:=h1
   obtain⟨p,ad,c,hp,h1',hmc,hc⟩:=h1
   refine pure_ok (u:=a.eval x) (hexec _ _ ?_) h1c hH
   rw [h1',h2']
   exact run_app0 hT0 hi w (some ad) n c hmc _ (.inr ⟨_,_,rfl⟩)
  ·cases hs
 ·rename_i o2 i2 m e2
  rw [e2] at h2
  obtain⟨p2,a2,c2,hp2,h2',hmc2,hc2⟩:=h2
  simp only [Option.bind_eq_some_iff] at hs
  obtain⟨ob2,hob2,hs⟩:=hs
  split at hs
  case isFalse=>cases hs
  rename_i hcond
  obtain⟨hes2,hmb,hlen2⟩:=hcond
  have hob2':=Hp.at_some hob2
  have hpe2:p2.esz=i.size:=by rw [(hH.obj _ _ hob2' p2 hp2).esz,hes2]
  obtain⟨news,n1,n2,n3,n4,n5⟩:=hH.rowsCells hob2' hp2 i2 m hlen2
  rw [hpe2] at n2 n3 n5
  have hnews:∀ (j:Nat) (u:Value),news[j]?=some u->w.cell? (a2.add j)=some u:=by
   intro j u hu
   rcases hc2 with hc2 | ⟨rfl,_⟩
   ·have:news.length=0:=by rw [n2,show m=0 by omega,Nat.zero_mul]
    have:news=[]:=List.length_eq_zero_iff.1 this
    rw [this] at hu
    simp at hu
   ·rw [hpe2]
    exact n3 j u hu
  have hnone:=n1.oneCell n4
  split at hs
  ·rename_i e1
   rw [e1] at h1
   have h1':a.eval x=.slice none 0 0:=h1
   by_cases hm:m=0
   ·subst hm
    simp only [if_true,Option.some.injEq,Prod.mk.injEq] at hs
    obtain⟨rfl,rfl⟩:=hs
    refine pure_ok (u:=.slice none 0 0) (hexec _ _ ?_) rfl hH
    rw [h1',h2']
    exact run_app0 hT0 hi w none 0 0 (Nat.le_refl _) _ (.inr ⟨_,_,rfl⟩)
   ·rw [if_neg hm] at hs
    cases hs
    have hm63:(m:Int)<=9223372036854775807:=by
     have:m<=m * i.bytes:=Nat.le_mul_of_pos_right m hb0
     omega
    have hr:=run_append_nil (P:=P) w t0 o.type e i z hT0 hi hz a2 m c2 news n2 hnews (by omega) hm63 (by omega)
    have hcap:=grownCap_ge w m 0 e
    have hcsz:(news.toArray++Builtin.zeroCells z.cells (grownCap w m 0 e-m)).size=grownCap w m 0 e * i.size:=by
     rw [Array.size_append,List.size_toArray,size_zeroCells,hzs,n2,<- Nat.add_mul,Nat.add_sub_cancel' hcap]
    have hbel:Below E.B0 w (w.drew.alloc (.cells (news.toArray++Builtin.zeroCells z.cells (grownCap w m 0 e-m)) e)):=(Below.refl E.B0 w).drew.alloc hH.base _
    obtain⟨g1,g2⟩:=hH.moved (w':=w.drew.alloc (.cells (news.toArray++Builtin.zeroCells z.cells (grownCap w m 0 e-m)) e)) none (rows:=(ob2.rows.drop i2).take m) (esz:=i.size) (ety:=e) (b:=w.heap.size) (xs:=news) (cells:=news.toArray++Builtin.zeroCells z.cells (grownCap w m 0 e-m)) hbel hH.base (heap_alloc_new w.drew _)
     (fun k hk _=>heap_alloc_old w.drew _ k hk) (.inl (Nat.le_refl _)) n1 n5 n4 (fun j v hv=>by
      have hj:=(List.getElem?_eq_some_iff.1 hv).1
      rw [Array.getElem?_append_left (by simpa using hj)]
      simpa using hv)
    refine⟨_,_,_,.inl (hexec _ _ (by rw [h1',h2']; exact hr)),⟨_,_,_,Phi.put_self,rfl,hcap,.inr ⟨by simp,.inr (by simp only [Nat.zero_add]; exact hcsz.symm)⟩⟩,g1,g2,hbel⟩
  ·rename_i e1
   rw [e1] at h1
   obtain⟨ad,h1'⟩:=h1
   by_cases hm:m=0
   ·subst hm
    simp only [if_true,Option.some.injEq,Prod.mk.injEq] at hs
    obtain⟨rfl,rfl⟩:=hs
    refine pure_ok (u:=.slice (some ad) 0 0) (hexec _ _ ?_) ⟨ad,rfl⟩ hH
    rw [h1',h2']
    exact run_app0 hT0 hi w (some ad) 0 0 (Nat.le_refl _) _ (.inr ⟨_,_,rfl⟩)
   ·rw [if_neg hm] at hs
    cases hs
    have h63:0+m<=maxLen:=by
     have:m<=m * i.bytes:=Nat.le_mul_of_pos_right m hb0
     simp only [maxLen]
     omega
    obtain⟨v',w',hr,hown,hgr⟩:=run_append_arg_grows (P:=P) (w:=w) t0 o.type e i z i.size i.bytes hT0 hi hz rfl rfl hzs hs0 ad 0 0 [] (by simp) (fun j u hu=>by simp at hu) a2 m c2 news n2 hnews (by omega) h63 (by rw [Nat.zero_add]; exact hmb)
    rcases hown.2 with ⟨_,h0⟩ | ⟨g,cap,cur,rfl,hbg,hgc,hnc,_,hcs,htake⟩
    ·omega
    ·have hbel:Below E.B0 w w':=(Below.refl E.B0 w).grown hgr hH.base (fun k hk=>by cases hk)
     obtain⟨g1,g2⟩:=hH.moved (w':=w') none (rows:=(ob2.rows.drop i2).take m) (esz:=i.size) (ety:=e) (b:=g) (xs:=news) (cells:=cur) hbel (Nat.le_trans hH.base hbg) hgc
      (fun k hk _=>hgr.block k hk (by simp)) (.inl hbg) n1 n5 n4 (fun j u hu=>by
       rw [List.nil_append] at htake
       rw [<- htake] at hu
       rw [List.getElem?_take] at hu
       split at hu
       ·simpa using hu
       ·cases hu)
     refine⟨_,_,_,.inl (hexec _ _ (by rw [h1',h2']; exact hr)),⟨_,_,_,Phi.put_self,by rw [Nat.zero_add],by omega,.inr ⟨by simp,.inr (by simp only [Nat.zero_add]; exact hcs.symm)⟩⟩,g1,g2,hbel⟩
  ·rename_i oo n e1
   rw [e1] at h1
   obtain⟨p,ad,c,hp,h1',hmc,hc⟩:=h1
   simp only [Option.bind_eq_some_iff] at hs
   obtain⟨ob,hob,hs⟩:=hs
   split at hs
   case isFalse=>cases hs
   rename_i hcond
   obtain⟨hro,hes,hety,hbytes,hlen⟩:=hcond
   cases hs
   have hob':=Hp.at_some hob
   obtain⟨q1,q2,cells,ee,fr,hblk,hrw,hrows⟩:=hH.obj _ _ hob' p hp
   obtain⟨rfl,rfl,hsz,hbase,hB⟩:=hrw hro
   have hpe:p.esz=i.size:=by rw [q2,hes]
   have hpro:p.ro=false:=by rw [q1,hro]
   obtain⟨olds,l1,l2,l3,l4,l5⟩:=hH.rowsCells hob' hp 0 n (by omega)
   rw [hpe] at l2 l3 l5
   rw [List.drop_zero] at l1 l4 l5
   simp only [hbase,Nat.zero_add,Nat.zero_mul] at l3
   have hv:VRs φ (ob.rows.take n++(ob2.rows.drop i2).take m).flatten (olds++news):=by rw [List.flatten_append]; exact l1.append n1
   have hl:∀ r∈ob.rows.take n++(ob2.rows.drop i2).take m,r.length=i.size:=fun r hr=>(List.mem_append.1 hr).elim (l5 r) (n5 r)
   have hone:∀ a∈(ob.rows.take n++(ob2.rows.drop i2).take m).flatten,one a=true:=by
    rw [List.flatten_append]
    exact fun a ha=>(List.mem_append.1 ha).elim (l4 a) (n4 a)
   have holen:(olds++news).length=(n+m) * i.size:=by rw [List.length_append,l2,n2,Nat.add_mul]
   have hgetc:∀ (j:Nat) (u:Value),olds[j]?=some u->cells[j]?=some u:=by
    intro j u hu
    have:=l3 j u hu
    rw [Addr_add] at this
    simpa [World.cell?,hblk] using this
   rcases Nat.lt_or_ge c (n+m) with hg | hroom
   ·have holds:∀ (j:Nat) (u:Value),olds[j]?=some u->w.cell? (ad.add j)=some u:=by
     intro j u hu
     rcases hc with hc | ⟨rfl,_⟩
     ·have:olds.length=0:=by rw [l2,show n=0 by omega,Nat.zero_mul]
      have:olds=[]:=List.length_eq_zero_iff.1 this
      rw [this] at hu
      simp at hu
     ·have:=l3 j u hu
      simpa [hbase] using this
    have h63:n+m<=maxLen:=by
     have:n+m<=(n+m) * i.bytes:=Nat.le_mul_of_pos_right _ hb0
     simp only [maxLen]
     omega
    obtain⟨v',w',hr,hown,hgr⟩:=run_append_arg_grows (P:=P) (w:=w) t0 o.type e i z i.size i.bytes hT0 hi hz rfl rfl hzs hs0 ad n c olds l2 holds a2 m c2 news n2 hnews hg h63 hbytes
    have hpos:0<n+m:=by omega
    rcases hown.2 with ⟨_,h0⟩ | ⟨g,cap,cur,rfl,hbg,hgc,hnc,_,hcs,htake⟩
    ·omega
    ·have hbel:Below E.B0 w w':=(Below.refl E.B0 w).grown hgr hH.base (fun k hk=>by cases hk)
     obtain⟨g1,g2⟩:=hH.moved (w':=w') (some oo) (rows:=ob.rows.take n++(ob2.rows.drop i2).take m) (esz:=i.size) (ety:=e) (b:=g) (xs:=olds++news) (cells:=cur) hbel (Nat.le_trans hH.base hbg) hgc
      (fun k hk _=>hgr.block k hk (by simp)) (.inl hbg) hv hl hone (fun j u hu=>by
       rw [<- htake] at hu
       rw [List.getElem?_take] at hu
       split at hu
       ·simpa using hu
       ·cases hu)
     exact⟨_,_,_,.inl (hexec _ _ (by rw [h1',h2']; exact hr)),⟨_,_,_,Phi.put_self,rfl,hnc,.inr ⟨by simp,.inr (by simp only [Nat.zero_add]; exact hcs.symm)⟩⟩,g1,g2,hbel⟩
   ·by_cases hm:m=0
    ·subst hm
     have hr:=run_app0 (ty:=o.type) hT0 hi w (some ad) n c hmc (.slice (some a2) 0 c2) (.inr ⟨_,_,rfl⟩)
     have hbel:Below E.B0 w w:=Below.refl _ _
     obtain⟨g1,g2⟩:=hH.moved (w':=w) (some oo) (rows:=ob.rows.take n++(ob2.rows.drop i2).take 0) (esz:=i.size) (ety:=ob.ety) (b:=p.b) (xs:=olds++news) (cells:=cells) hbel hB hblk
      (fun k hk _=>rfl) (.inr ⟨oo,ob,p,rfl,hob',hp,hro,rfl⟩) hv hl hone (fun j u hu=>by
       have:news=[]:=List.length_eq_zero_iff.1 (by rw [n2,Nat.zero_mul])
       rw [this,List.append_nil] at hu
       exact hgetc j u hu)
     refine⟨_,_,_,.inl (hexec _ _ (by rw [h1',h2']; exact hr)),⟨_,_,_,Phi.put_self,rfl,hmc,?_⟩,g1,by rw [<- hety]; exact g2,hbel⟩
     rcases hc with hc | ⟨rfl,hc⟩
     ·exact .inl hc
     ·rcases hc with hc | hc
      ·rw [hpro] at hc; cases hc
      ·exact .inr ⟨by simp [hbase],.inr (by rw [<- hsz,<- hc,hpe])⟩
    ·rcases hc with hc | ⟨rfl,hc⟩
     ·omega
     ·rcases hc with hc | hc
      ·rw [hpro] at hc; cases hc
      ·have ead:(⟨p.b,p.base+0 * p.esz,none⟩:Addr)=⟨p.b,0,none⟩:=by simp [hbase]
       rw [Nat.zero_add,hpe] at hc
       have hnl:n * i.size+news.length<=cells.size:=by
        rw [n2,<- Nat.add_mul,<- hsz,<- hc]
        exact Nat.mul_le_mul_right _ hroom
       have hr:=run_append_room (P:=P) w t0 o.type e i hT0 hi p.b n c cells (hety ▸ hblk) a2 m c2 news n2 hnews hnone hroom hnl
       have hbel:Below E.B0 w (w.setRow p.b (cells.toList.take (n * i.size)++news++cells.toList.drop (n * i.size+news.length)).toArray):=setRow_below hB
       have hcsz:(cells.toList.take (n * i.size)++news++cells.toList.drop (n * i.size+news.length)).toArray.size=cells.size:=by
        simp only [List.size_toArray,List.length_append,List.length_take,List.length_drop,Array.length_toList]
        omega
       obtain⟨g1,g2⟩:=hH.moved (some oo) (rows:=ob.rows.take n++(ob2.rows.drop i2).take m) (esz:=i.size) (ety:=e) (b:=p.b) (xs:=olds++news) hbel hB (setRow_heap w p.b cells _ e (0,0) (hety ▸ hblk))
        (fun k hk hne=>setRow_other w p.b k _ hne) (.inr ⟨oo,ob,p,rfl,hob',hp,hro,rfl⟩) hv hl hone (fun j u hu=>by
         have hj:=(List.getElem?_eq_some_iff.1 hu).1
         rw [holen] at hj
         have htl:(cells.toList.take (n * i.size)).length=n * i.size:=by rw [List.length_take,Array.length_toList]; omega
         simp only [List.getElem?_toArray]
         rw [List.getElem?_append_left (by rw [List.length_append,htl,n2,<- Nat.add_mul]; exact hj)]
         rcases Nat.lt_or_ge j olds.length with hjo | hjo
         ·rw [List.getElem?_append_left hjo] at hu
          rw [List.getElem?_append_left (by omega),List.getElem?_take,if_pos (by omega)]
          simpa using hgetc j u hu
         ·rw [List.getElem?_append_right hjo] at hu
          rw [List.getElem?_append_right (by omega),htl,<- l2]
          exact hu)
       refine⟨_,_,_,.inl (hexec _ _ (by rw [h1',h2',ead]; exact hr)),⟨_,_,_,Phi.put_self,rfl,hroom,.inr ⟨by simp,.inr ?_⟩⟩,g1,g2,hbel⟩
       show (0+c) * i.size=_
       rw [hcsz,Nat.zero_add,hc,hsz]
  ·cases hs
 ·cases hs
theorem u8s_VRs {φ:Phi}:∀ {rows:List (List AV)} {ns:List Int} {l:List Value},u8s rows=some ns->VRs φ rows.flatten l->l=ns.map (Value.int .u8)
 | [],ns,l,h,hv=>by
  simp only [u8s,Option.some.injEq] at h
  subst h
  exact hv
 | r :: rows,ns,l,h,hv=>by
  unfold u8s at h
  split at h
  ·rename_i e; cases e
  ·rename_i z rs e
   cases e
   simp only [Option.map_eq_some_iff] at h
   obtain⟨ns',h1,rfl⟩:=h
   obtain⟨v,vs,rfl,h2,h3⟩:=hv
   rw [show v=_ from h2,u8s_VRs h1 h3]
   rfl
  ·cases h
theorem k_cvs {S T e:TypeId} {x:Operand} {x':Od} (ho:o.op=.convert S T x) (hS:P.underlying S=some (.slice e)) (he:P.underlying e=some (.int .u8)) (hTy:P.underlying T=some .string) (hx:cOd x=some x'):OpOK P E o (.cvs x'):=by
 intro t H v H' hs φ nn a w hT hH
 have h1:=hT.ev hx
 simp only [stepA] at hs
 split at hs
 ·rename_i oo i n e1
  rw [e1] at h1
  obtain⟨p,ad,c,hp,h1',hmc,hc⟩:=h1
  simp only [Option.bind_eq_some_iff] at hs
  obtain⟨ob,hob,hs⟩:=hs
  split at hs
  ·rename_i hcond
   simp only [Option.map_eq_some_iff] at hs
   obtain⟨ns,hns,hs⟩:=hs
   cases hs
   have hob':=Hp.at_some hob
   have hpe:p.esz=1:=by rw [(hH.obj _ _ hob' p hp).esz,hcond.1]
   obtain⟨l,l1,l2,l3,_,_⟩:=hH.rowsCells hob' hp i n hcond.2
   have hl:=u8s_VRs hns l1
   have hcells:∀ (j:Nat) (u:Value),l[j]?=some u->w.cell? (ad.add j)=some u:=by
    intro j u hu
    rcases hc with hc | ⟨rfl,_⟩
    ·have:l.length=0:=by rw [l2,show n=0 by omega,Nat.zero_mul]
     have:l=[]:=List.length_eq_zero_iff.1 this
     rw [this] at hu
     simp at hu
    ·exact l3 j u hu
   have hrun:=run_loadCells_list (P:=P) (w:=w) ad l hcells
   rw [l2,hpe,Nat.mul_one,hl] at hrun
   have hb:=run_bytesToString (P:=P) w ad n c ns hrun
   refine pure_ok (u:=.string (strOf ns)) ?_ rfl hH
   simp only [execOp,ho,h1']
   simp [run_convert_bytes_string w S T e (some ad) n c hS he hTy,hb,strOf]
  ·cases hs
 ·cases hs
end Go.Proofs.YtepeokaplbbpoaaGreat.B

namespace Go.Proofs.YtepeokaplbbpoaaGreat.B
open Go.RowKit
set_option linter.unusedVariables false
set_option linter.unusedSimpArgs false
variable {P:Program} {E:Env} {o:Oper}
theorem k_cap {T e':TypeId} {x:Operand} {x':Od} (ho:o.op=.call { callee:=.builtin .cap,args:=#[x],argTypes:=#[T] }) (hu:P.underlying T=some (.slice e')) (hx:cOd x=some x'):OpOK P E o (.cap x'):=by
 intro t H v H' hs φ n a w hT hH
 have h1:=hT.ev hx
 simp only [stepA] at hs
 split at hs
 ·rename_i e
  rw [e] at h1
  have h1':a.eval x=.slice none 0 0:=h1
  cases hs
  exact pure_ok (u:=.int .i64 0) (by simp [execOp,ho,resolve,invoke,builtin,Builtin.cap_,run_underlying hu,h1',goInt]) rfl hH
 ·cases hs
theorem HR.clrN {φ:Phi} {c:AV} {v:Value} (h1:one c=true) (hv:VR φ c v):∀ (n k:Nat) {H:Hp} {w:World} (h:HR E φ H w) {o:Nat} {ob:Ob} (ho:H[o]?=some (some ob)) (hrw:ob.ro=false) {p:Pl} (hp:φ o=some p) (he:ob.esz=1)
  {i:Nat} (hi:i+k+n<=ob.rows.length),
  ∃ w',(storeCells ⟨p.b,p.base+i * p.esz,none⟩ (List.replicate n v) k).run P w=.ok () w'/\Below E.B0 w w'/\HR E φ (H.set o (some { ob with rows:=clrR ob.rows (i+k) n c })) w'
 | 0,k,H,w,h,o,ob,ho,hrw,p,hp,he,i,hi=>by
  refine⟨w,rfl,Below.refl _ _,?_⟩
  have e2:H.set o (some ob)=H:=by
   apply List.ext_getElem?
   intro j
   rw [List.getElem?_set]
   split
   ·rename_i e; subst e; rw [ho]; simp [(List.getElem?_eq_some_iff.1 ho).1]
   ·rfl
  rw [clrR,show ({ ob with rows:=ob.rows }:Ob)=ob from rfl,e2]
  exact h
 | n+1,k,H,w,h,o,ob,ho,hrw,p,hp,he,i,hi=>by
  have hlt:i+k<ob.rows.length:=by omega
  have hr:ob.rows[i+k]?=some ob.rows[i+k]:=List.getElem?_eq_getElem hlt
  have hpe:p.esz=1:=by rw [(h.obj o ob ho p hp).esz,he]
  have hrl:(ob.rows[i+k]).length=1:=by
   obtain⟨_,_,cells,e,fr,_,_,hc⟩:=h.obj o ob ho p hp
   rw [(hc _ _ hr).1,he]
  obtain⟨⟨u,hu⟩,hfz,hbel,hH⟩:=h.set1 ho hrw hp hr (f:=0) (by omega) h1 hv
  have hol:o<H.length:=(List.getElem?_eq_some_iff.1 ho).1
  have hset:(ob.rows[i+k]).set 0 c=[c]:=by
   match hh:ob.rows[i+k],hrl with
   | [_],_=>rfl
  rw [hset] at hH
  obtain⟨w',hrun,hb',hH'⟩:=HR.clrN h1 hv n (k+1) hH (o:=o) (ob:={ ob with rows:=ob.rows.set (i+k) [c] }) (by rw [List.getElem?_set,if_pos rfl,if_pos hol]) hrw hp he (i:=i) (by simp; omega)
  refine⟨w',?_,hbel.trans hb',?_⟩
  ·have hone:=one_cell h1 hv
   rw [List.replicate_succ,storeCells,Addr_add]
   have e1:p.base+i * p.esz+k=p.base+(i+k) * p.esz+0:=by rw [hpe]; omega
   rw [e1]
   have hs:(store ⟨p.b,p.base+(i+k) * p.esz+0,none⟩ v:Sem Unit).run P w=.ok () (w.setCell ⟨p.b,p.base+(i+k) * p.esz+0,none⟩ v):=by
    cases v<;>simp [Value.oneCell'] at hone<;>simp only [store,Sem.run]<;>simp_all
   rw [Sem.run_bind,hs]
   exact hrun
  ·have e1:(H.set o (some { ob with rows:=ob.rows.set (i+k) [c] })).set o (some { ob with rows:=clrR (ob.rows.set (i+k) [c]) (i+(k+1)) n c })=H.set o (some { ob with rows:=clrR ob.rows (i+k) (n+1) c }):=by
    rw [List.set_set]
    rfl
   rw [<- e1]
   exact hH'
theorem zero_one (c:Value) (n:Nat):(Builtin.zeroCells #[c] n).toList=List.replicate n c:=by
 apply List.ext_getElem?
 intro j
 simp only [Builtin.zeroCells,Array.getElem?_toList,Array.getElem?_map,List.getElem?_replicate]
 by_cases h:j<n
 ·rw [if_pos h,Array.getElem?_range,if_pos (by simpa using h)]
  have:j % 1=0:=Nat.mod_one j
  simp [this]
 ·rw [if_neg h,Array.getElem?_range,if_neg (by simpa using h)]
  rfl
theorem k_clr {T e:TypeId} {x:Operand} {x':Od} {i:TypeInfo} {z c:Value} {z':AV} (ho:o.op=.call { callee:=.builtin .clear,args:=#[x],argTypes:=#[T] }) (hu:P.underlying T=some (.slice e)) (hi:P.info? e=some i) (hz:i.zero=some z)
  (hc:z.cells=⟨[c]⟩) (hz':cVal c=some z') (hx:cOd x=some x'):OpOK P E o (.clr z' x'):=by
 intro t H v H' hs φ n a w hT hH
 have h1:=hT.ev hx
 simp only [stepA] at hs
 split at hs
 ·rename_i e
  rw [e] at h1
  have h1':a.eval x=.slice none 0 0:=h1
  cases hs
  exact pure_ok (u:=.tuple #[]) (by simp [execOp,ho,resolve,invoke,builtin,Builtin.clear_,run_underlying hu,h1']) ⟨[],rfl,rfl⟩ hH
 ·rename_i e
  rw [e] at h1
  obtain⟨ad,h1'⟩:=h1
  cases hs
  exact pure_ok (u:=.tuple #[]) (by simp [execOp,ho,resolve,invoke,builtin,Builtin.clear_,run_underlying hu,h1']) ⟨[],rfl,rfl⟩ hH
 ·rename_i oo j m e1
  rw [e1] at h1
  obtain⟨p,ad,cp,hp,h1',hmc,hcp⟩:=h1
  simp only [Option.bind_eq_some_iff] at hs
  obtain⟨ob,hob,hs⟩:=hs
  split at hs
  ·rename_i hcond
   obtain⟨hro,hes,hlen,hone⟩:=hcond
   cases hs
   have hob':=Hp.at_some hob
   rcases Nat.eq_zero_or_pos m with h0 | h0
   ·subst h0
    have e2:H.set oo (some { ob with rows:=clrR ob.rows j 0 z' })=H:=by
     apply List.ext_getElem?
     intro k
     rw [List.getElem?_set]
     split
     ·rename_i e; subst e; rw [hob']; simp [(List.getElem?_eq_some_iff.1 hob').1,clrR]
     ·rfl
    rw [e2]
    exact pure_ok (u:=.tuple #[]) (by simp [execOp,ho,resolve,invoke,builtin,Builtin.clear_,run_underlying hu,h1']) ⟨[],rfl,rfl⟩ hH
   ·rcases hcp with hcp | ⟨rfl,_⟩
    ·omega
    obtain⟨w',hrun,hb,hH'⟩:=HR.clrN (P:=P) hone (cVal_sound hz' φ) m 0 hH hob' hro hp hes (i:=j) (by omega)
    refine⟨φ,.tuple #[],w',.inl ?_,⟨[],rfl,rfl⟩,PLe.refl _,hH',hb⟩
    have hm:m≠0:=by omega
    obtain⟨m',rfl⟩:∃ m',m=m'+1:=⟨m-1,by omega⟩
    have hzc:=zero_one c (m'+1)
    rw [show (#[c]:Array Value)=z.cells from hc.symm] at hzc
    simp [execOp,ho,resolve,invoke,builtin,Builtin.clear_,run_underlying hu,h1',zeroValue,typeInfo,hi,hz,hzc,hrun]
  ·cases hs
 ·cases hs
theorem k_appz {t0 t1 e:TypeId} {q:IntKind} {x y:Operand} {x' y':Od} {i:TypeInfo} {z:Value} {zs:List AV} (ho:o.op=.call { callee:=.builtin .append,args:=#[x,y],argTypes:=#[t0,t1] }) (hT0:P.underlying t0=some (.slice e))
  (hT1:P.underlying t1=some (.int q)) (hi:P.info? e=some i) (hz:i.zero=some z) (hzs:z.cells.toList.mapM cVal=some zs) (hsz:zs.length=i.size) (hs0:0<i.size) (hb0:0<i.bytes) (hx:cOd x=some x') (hy:cOd y=some y'):OpOK P E o (.appz e i.size i.bytes zs x' y'):=by
 intro t H v H' hs φ n a w hT hH
 have h1:=hT.ev hx
 have h2:=hT.ev hy
 simp only [stepA] at hs
 split at hs
 ·rename_i m e1 e2
  rw [e1] at h1
  rw [e2] at h2
  have h1':a.eval x=.slice none 0 0:=h1
  have h2':a.eval y=.int .i64 m:=h2
  split at hs
  ·rename_i hc
   obtain⟨hm0,hmb⟩:=hc
   cases hs
   obtain⟨k,rfl⟩:=Int.eq_ofNat_of_zero_le (Int.le_of_lt hm0)
   have hkb:k * i.bytes<=140737488355328:=by
    have:((k * i.bytes:Nat):Int)<=140737488355328:=by simpa using hmb
    omega
   have hk:k<=140737488355328:=Nat.le_trans (Nat.le_mul_of_pos_right k hb0) hkb
   obtain⟨c1,c2⟩:=cVals_ok φ _ _ hzs
   have hzl:z.cells.size=i.size:=by
    have:=c1.length
    rw [Array.length_toList] at this
    omega
   have hr:=Lib.run_append_nil_zeros (P:=P) w t0 t1 o.type e i z .i64 q hT0 hT1 hi hz k (by omega) hs0 (by omega) (by omega)
   have hcap:=grownCap_ge w k 0 e
   have hmade:VRs φ (List.replicate k zs).flatten (Builtin.zeroCells z.cells k).toList:=by
    have:=made_VR c1 k
    rw [hsz,<- hzl] at this
    exact this
   have hcsz:(Builtin.zeroCells z.cells k++Builtin.zeroCells z.cells (grownCap w k 0 e-k)).size=grownCap w k 0 e * i.size:=by
    rw [Array.size_append,size_zeroCells,size_zeroCells,hzl,<- Nat.add_mul,Nat.add_sub_cancel' hcap]
   have hbel:Below E.B0 w (w.drew.alloc (.cells (Builtin.zeroCells z.cells k++Builtin.zeroCells z.cells (grownCap w k 0 e-k)) e)):=(Below.refl E.B0 w).drew.alloc hH.base _
   obtain⟨g1,g2⟩:=hH.moved (w':=w.drew.alloc (.cells (Builtin.zeroCells z.cells k++Builtin.zeroCells z.cells (grownCap w k 0 e-k)) e)) none (rows:=List.replicate k zs) (esz:=i.size) (ety:=e) (b:=w.heap.size) (xs:=(Builtin.zeroCells z.cells k).toList) (cells:=Builtin.zeroCells z.cells k++Builtin.zeroCells z.cells (grownCap w k 0 e-k)) hbel hH.base (heap_alloc_new w.drew _)
    (fun k hk _=>heap_alloc_old w.drew _ k hk) (.inl (Nat.le_refl _)) hmade (fun r hr=>by rw [(List.mem_replicate.1 hr).2,hsz]) (fun a ha=>by
     obtain⟨r,hr,ha⟩:=List.mem_flatten.1 ha
     rw [(List.mem_replicate.1 hr).2] at ha
     exact c2 a ha) (fun j v hv=>by
     have hj:=(List.getElem?_eq_some_iff.1 hv).1
     rw [Array.getElem?_append_left (by simpa using hj)]
     simpa using hv)
   refine⟨_,.slice (some ⟨w.heap.size,0,none⟩) k (grownCap w k 0 e),_,.inl ?_,⟨_,⟨w.heap.size,0,none⟩,grownCap w k 0 e,Phi.put_self,by rw [Int.toNat_natCast],by rw [Int.toNat_natCast]; exact hcap,.inr ⟨by simp,.inr (by simp only [Nat.zero_add]; exact hcsz.symm)⟩⟩,g1,g2,hbel⟩
   simp only [execOp,ho,resolve,invoke,builtin,Sem.run_bind,Sem.run_pure,Result.andThen_ok,List.map_toArray,List.map_cons,List.map_nil,h1',h2',hr,Int.toNat_natCast]
  ·cases hs
 ·cases hs
end Go.Proofs.YtepeokaplbbpoaaGreat.B

namespace Go.Proofs.YtepeokaplbbpoaaGreat.B
open Go.RowKit
set_option linter.unusedVariables false
set_option linter.unusedSimpArgs false
structure RO where
 d:Option Nat
 op:AOp
 g:Option (Nat × Bool)
 after:List Nat
inductive Plan where
 | fin
 | st (d:Option Nat) (op:AOp) (g:Option (Nat × Bool)) (again:List (Option Nat × AOp × Option (Nat × Bool))) (p:Plan)
 | both (a b:Plan)
 | bad
inductive CC where
 | skip
 | plan (p:Plan)
 | seq (a b:CC)
 | cond (c:Od) (a b:CC)
 | block (id:Nat) (c:CC)
 | loop (c:CC)
 | exit (id:Nat)
 | ret
abbrev Tm:=Nat->AV
abbrev CallP:=Nat->List AV->Hp->(AV->Hp->Prop)->Prop
def AOp.ods:AOp->List Od
 | .mv x | .box _ _ x | .ld x | .lda _ x | .nck x | .not x | .neg x | .cv _ x | .cvs x | .mk _ _ _ _ x | .fa _ x | .fd _ _ x | .ext _ x | .len x | .lns x | .cap x | .clr _ x=>[x]
 | .bad=>[]
 | .pick c a b=>[c,a,b]
 | .alloc _ _=>[]
 | .build _ ps=>ps.map (·.2.2)
 | .lit _ _ _ _ ps=>ps.map (·.2.2)
 | .st _ x y | .bin _ x y | .eqb _ x y | .eqn _ _ x y | .eqs _ _ x y | .ia _ x y | .ix x y | .mx x y | .mn x y | .app _ _ _ x y | .appz _ _ _ _ x y=>[x,y]
 | .cut _ x l h=>x :: (l.toList++h.toList)
 | .cuts x l h=>x :: (l.toList++h.toList)
 | .fn _ xs=>xs
 | .call _ xs=>xs
 | .calv x xs=>x :: xs
def AOp.quiet:AOp->Bool
 | .alloc _ _ | .box _ _ _ | .lit _ _ _ _ _ | .st _ _ _ | .mk _ _ _ _ _ | .app _ _ _ _ _ | .call _ _ | .calv _ _ | .bad | .clr _ _ | .appz _ _ _ _ _ _=>false
 | _=>true
def AOp.mem:AOp->Bool
 | .ld _ | .lda _ _ | .cut _ _ _ _ | .ia _ _ _ | .cvs _=>true
 | _=>false
def optK (o:Option (AV × Hp)) (K:AV->Hp->Prop):Prop :=
 match o with
 | some (v,H)=>K v H
 | none=>False
def stepK (C:CallP) (t:Tm) (H:Hp) (op:AOp) (K:AV->Hp->Prop):Prop :=
 match op with
 | .call f xs=>C f (xs.map (·.ev t)) H K
 | .calv x xs=>match x.ev t with
  | .fn f cs=>C f (xs.map (·.ev t)++cs) H K
  | _=>False
 | op=>optK (stepA t H op) K
def updO (t:Tm) (d:Option Nat) (v:AV):Tm :=
 match d with
 | some d=>upd t d v
 | none=>t
def want (t:Tm):Option (Nat × Bool)->Option Bool
 | none=>some true
 | some (d,b)=>match t d with
  | .bool q=>some (q==b)
  | .un=>some false
  | _=>none
def roK (C:CallP) (t:Tm) (H:Hp) (r:RO) (K:Tm->Hp->Prop):Prop :=
 match want t r.g with
 | some true=>stepK C t H r.op (fun v H'=>K (updO t r.d v) H')
 | some false=>K (updO t r.d .un) H
 | none=>False
def opsK (C:CallP):List RO->Tm->Hp->(Tm->Hp->Prop)->Prop
 | [],t,H,K=>K t H
 | r :: l,t,H,K=>roK C t H r (fun t' H'=>opsK C l t' H' K)
def roA (t:Tm) (H:Hp) (r:RO):Option AV :=
 match want t r.g with
 | some true=>(stepA t H r.op).map (·.1)
 | some false=>some .un
 | none=>none
def RO.looks (r:RO):List Nat:=r.op.ods.filterMap (fun | .t d=>some d | .c _=>none)++(match r.g with | some (d,_)=>[d] | none=>[])
def before (l:List RO):Nat->Nat->List Nat
 | 0,_=>[]
 | n+1,i=>match l[i]? with
  | some r=>r.after++r.after.flatMap (before l n)
  | none=>[]
def waits (l:List RO) (j i:Nat):Bool:=(before l l.length j).contains i
def qt (l:List RO) (i:Nat) (r:RO):Bool :=
 r.op.quiet&&(List.range l.length).all fun k=>match l[k]?,r.d with
  | some q,some d=>!q.looks.contains d||waits l k i
  | _,_=>true
def nextQ (l:List RO) (D:List Nat):Option Nat :=
 (List.range l.length).find? fun i=>!D.contains i&&match l[i]? with
  | some r=>qt l i r&&r.after.all D.contains
  | none=>false
def readyL (l:List RO) (D:List Nat):List Nat :=
 (List.range l.length).filter fun i=>!D.contains i&&match l[i]? with
  | some r=>!qt l i r&&r.after.all D.contains
  | none=>false
def again (l:List RO) (D:List Nat) (i:Nat):List RO :=
 D.filterMap fun p=>match l[p]? with
  | some r=>if r.op.mem&&!waits l i p then some r else none
  | none=>none
def pend1 (t:Tm) (H:Hp) (r:RO):Prop:=∃ v,roA t H r=some v/\∀ d,r.d=some d->t d=v
def Rg (C:CallP):Nat->List RO->List Nat->Tm->Hp->(Tm->Hp->Prop)->Prop
 | 0,_,_,_,_,_=>False
 | n+1,l,D,t,H,K =>
  match nextQ l D with
  | some i=>match l[i]? with
   | some r=>match roA t H r with
    | some v=>Rg C n l (i :: D) (updO t r.d v) H K
    | none=>False
   | none=>False
  | none=>if (List.range l.length).all D.contains then K t H else ∀ i∈readyL l D,match l[i]? with
   | some r=>roK C t H r (fun t' H'=>(∀ q∈again l D i,pend1 t' H' q)/\Rg C n l (i :: D) t' H' K)
   | none=>False
def good (l:List RO):Bool :=
 (List.range l.length).all fun i=>match l[i]? with
  | some r=>r.after.all (·<i)&&(List.range l.length).all fun j=>match l[j]? with
   | some q=>match q.d with
    | some d=>(j==i||r.d != some d)&&(!r.looks.contains d||(j != i&&(waits l i j||waits l j i)))
    | none=>true
   | none=>true
  | none=>true
def RgP (C:CallP):Plan->Tm->Hp->(Tm->Hp->Prop)->Prop
 | .fin,t,H,K=>K t H
 | .st d op g ag p,t,H,K=>roK C t H ⟨d,op,g,[]⟩ (fun t' H'=>(∀ q∈ag,pend1 t' H' ⟨q.1,q.2.1,q.2.2,[]⟩)/\RgP C p t' H' K)
 | .both a b,t,H,K=>RgP C a t H K/\RgP C b t H K
 | .bad,_,_,_=>False
def seqPlan:List RO->Plan
 | []=>.fin
 | r :: l=>.st r.d r.op r.g [] (seqPlan l)
def alts (f:Nat->Plan):List Nat->Plan
 | []=>.bad
 | [i]=>f i
 | i :: is=>.both (f i) (alts f is)
def mkPlan:Nat->List RO->List Nat->Plan
 | 0,_,_=>.bad
 | n+1,l,D=>match nextQ l D with
  | some i=>match l[i]? with
   | some r=>.st r.d r.op r.g [] (mkPlan n l (i :: D))
   | none=>.bad
  | none=>if (List.range l.length).all D.contains then .fin else alts (fun i=>match l[i]? with
   | some r=>.st r.d r.op r.g ((again l D i).map fun q=>(q.d,q.op,q.g)) (mkPlan n l (i :: D))
   | none=>.bad) (readyL l D)
inductive Ex where
 | normal
 | exit (id:Nat)
 | ret
def thenX (K:Tm->Hp->Prop) (Q:Ex->Tm->Hp->Prop):Ex->Tm->Hp->Prop
 | .normal,t,H=>K t H
 | e,t,H=>Q e t H
def inB (id:Nat) (Q:Ex->Tm->Hp->Prop):Ex->Tm->Hp->Prop
 | .exit id',t,H=>if id'=id then Q .normal t H else Q (.exit id') t H
 | e,t,H=>Q e t H
def W (C:CallP):CC->(Ex->Tm->Hp->Prop)->Tm->Hp->Prop
 | .skip,Q,t,H=>Q .normal t H
 | .plan p,Q,t,H=>RgP C p t H (Q .normal)
 | .seq a b,Q,t,H=>W C a (thenX (W C b Q) Q) t H
 | .cond c a b,Q,t,H=>match c.ev t with
  | .bool true=>W C a Q t H
  | .bool false=>W C b Q t H
  | _=>False
 | .block id c,Q,t,H=>W C c (inB id Q) t H
 | .loop c,Q,t,H=>∃ (I:Tm->Hp->Prop) (μ:Tm->Hp->Nat),I t H/\∀ t H,I t H->W C c (thenX (fun t' H'=>I t' H'/\μ t' H'<μ t H) Q) t H
 | .exit id,Q,t,H=>Q (.exit id) t H
 | .ret,Q,t,H=>Q .ret t H
theorem opt_congr {t t':Tm} {x:Option Od} (h:∀ y∈x.toList,y.ev t=y.ev t') (d:Int):optI t d x=optI t' d x:=by
 cases x with
 | none=>rfl
 | some x=>simp only [optI]; rw [h x (by simp)]
theorem fill_congr {t t':Tm}:∀ (ps:List (Nat × Nat × Od)) (zs:List AV),(∀ y∈ps.map (·.2.2),y.ev t=y.ev t')->fillA t zs ps=fillA t' zs ps
 | [],zs,h=>rfl
 | (off,n,x) :: ps,zs,h=>by
  simp only [fillA]
  rw [h x (by simp)]
  split
  ·exact fill_congr ps _ (fun y hy=>h y (by simp only [List.map_cons,List.mem_cons]; exact .inr hy))
  ·rfl
theorem map_congr {t t':Tm} {xs:List Od} (h:∀ y∈xs,y.ev t=y.ev t'):xs.map (·.ev t)=xs.map (·.ev t'):=List.map_congr_left h
theorem stepA_congr {t t':Tm} {op:AOp} (h:∀ y∈op.ods,y.ev t=y.ev t') (H:Hp):stepA t H op=stepA t' H op:=by
 cases op<;>simp only [AOp.ods] at h<;>simp only [stepA]
 case build zs ps=>rw [fill_congr ps zs h]
 case lit ety esz n zs ps=>rw [fill_congr ps zs h]
 case fn f xs=>rw [map_congr h]
 case cut esz x l hh =>
  rw [h x (by simp)]
  have e1:∀ d,optI t d l=optI t' d l:=opt_congr (fun y hy=>h y (by simp [hy]))
  have e2:∀ d,optI t d hh=optI t' d hh:=opt_congr (fun y hy=>h y (by simp [hy]))
  simp only [e1,e2]
 case cuts x l hh =>
  rw [h x (by simp)]
  have e1:∀ d,optI t d l=optI t' d l:=opt_congr (fun y hy=>h y (by simp [hy]))
  have e2:∀ d,optI t d hh=optI t' d hh:=opt_congr (fun y hy=>h y (by simp [hy]))
  simp only [e1,e2]
 case pick c a b=>rw [h c (by simp),h a (by simp),h b (by simp)]
 all_goals
  first
  | rfl
  | (rename_i x y; rw [h x (by simp),h y (by simp)])
  | (rename_i x; rw [h x (by simp)])
theorem stepK_congr {C:CallP} {t t':Tm} {op:AOp} (h:∀ y∈op.ods,y.ev t=y.ev t') (H:Hp) (K:AV->Hp->Prop):stepK C t H op K=stepK C t' H op K:=by
 have key:=stepA_congr h H
 cases op<;>simp only [AOp.ods] at h<;>simp only [stepK]
 case call f xs=>rw [map_congr h]
 case calv x xs=>rw [h x (by simp),map_congr (fun y hy=>h y (List.mem_cons_of_mem _ hy))]
 all_goals rw [key]
theorem ods_congr {t t':Tm} {r:RO} (h:∀ d∈r.looks,t d=t' d):(∀ y∈r.op.ods,y.ev t=y.ev t')/\want t r.g=want t' r.g:=by
 refine⟨fun y hy=>?_,?_⟩
 ·cases y with
  | c v=>rfl
  | t d=>exact h d (List.mem_append_left _ (List.mem_filterMap.2 ⟨.t d,hy,rfl⟩))
 ·cases hg:r.g with
  | none=>rfl
  | some p =>
   obtain⟨d,b⟩:=p
   simp only [want]
   rw [h d (List.mem_append_right _ (by rw [hg]; simp))]
theorem roA_congr {t t':Tm} {r:RO} (h:∀ d∈r.looks,t d=t' d) (H:Hp):roA t H r=roA t' H r:=by
 obtain⟨h1,h2⟩:=ods_congr h
 unfold roA
 rw [h2,stepA_congr h1]
theorem quiet_same {t:Tm} {H H':Hp} {op:AOp} {v:AV} (hq:op.quiet=true) (h:stepA t H op=some (v,H')):H'=H:=by
 cases op<;>simp only [AOp.quiet,Bool.false_eq_true] at hq<;>simp only [stepA] at h
 case cut esz x lo hi =>
  split at h
  ·simp only [Option.bind_eq_some_iff] at h
   obtain⟨ob,_,h⟩:=h
   split at h
   ·simp only [Option.bind_eq_some_iff] at h
    obtain⟨_,_,_,_,h⟩:=h
    split at h<;>cases h<;>rfl
   ·cases h
  ·simp only [Option.bind_eq_some_iff] at h
   obtain⟨_,_,_,_,h⟩:=h
   split at h<;>cases h<;>rfl
  ·simp only [Option.bind_eq_some_iff] at h
   obtain⟨_,_,_,_,h⟩:=h
   split at h<;>cases h<;>rfl
  ·cases h
 case cvs x =>
  split at h
  ·simp only [Option.bind_eq_some_iff] at h
   obtain⟨ob,_,h⟩:=h
   split at h
   ·simp only [Option.map_eq_some_iff,Prod.mk.injEq] at h
    obtain⟨_,_,_,rfl⟩:=h
    rfl
   ·cases h
  ·cases h
 all_goals (repeat' split at h)
 all_goals
  first
  | (cases h<;>rfl)
  | (simp only [Option.map_eq_some_iff,Prod.mk.injEq] at h; obtain⟨_,_,_,rfl⟩:=h; rfl)
  | (simp only [Option.bind_eq_some_iff,Option.map_eq_some_iff] at h; grind)
  | skip
theorem stepK_mono {C:CallP} (hC:∀ f args H K K',(∀ v H',K v H'->K' v H')->C f args H K->C f args H K') {t:Tm} {H:Hp} {op:AOp} {K K':AV->Hp->Prop} (hk:∀ v H',K v H'->K' v H') (h:stepK C t H op K):stepK C t H op K':=by
 unfold stepK at h ⊢
 split at h
 ·exact hC _ _ _ _ _ hk h
 ·split at h
  ·exact hC _ _ _ _ _ hk h
  ·exact h.elim
 ·unfold optK at h ⊢
  split at h
  ·exact hk _ _ h
  ·exact h.elim
theorem roK_mono {C:CallP} (hC:∀ f args H K K',(∀ v H',K v H'->K' v H')->C f args H K->C f args H K') {t:Tm} {H:Hp} {r:RO} {K K':Tm->Hp->Prop} (hk:∀ v H',K v H'->K' v H') (h:roK C t H r K):roK C t H r K':=by
 unfold roK at h ⊢
 split at h
 ·exact stepK_mono hC (fun v H'=>hk _ _) h
 ·exact hk _ _ h
 ·exact h.elim
theorem roK_quiet {C:CallP} {t:Tm} {H:Hp} {r:RO} {K:Tm->Hp->Prop} (hq:r.op.quiet=true) (h:roK C t H r K):∃ v,roA t H r=some v/\K (updO t r.d v) H:=by
 unfold roK at h
 unfold roA
 split at h
 ·have hk:stepK C t H r.op (fun v H'=>K (updO t r.d v) H')=optK (stepA t H r.op) (fun v H'=>K (updO t r.d v) H'):=by
   generalize r.op=op at hq
   cases op<;>first | rfl | cases hq
  rw [hk] at h
  unfold optK at h
  split at h
  ·rename_i v H' hs
   obtain rfl:=quiet_same hq hs
   exact⟨v,by simp [hs],h⟩
  ·exact h.elim
 ·exact⟨.un,rfl,h⟩
 ·exact h.elim
theorem roK_after {C:CallP} {t:Tm} {H:Hp} {r:RO} {K:Tm->Hp->Prop} (l:List Nat):roK C t H ⟨r.d,r.op,r.g,l⟩ K=roK C t H r K:=rfl
theorem seqPlan_ok {C:CallP} (hC:∀ f args H K K',(∀ v H',K v H'->K' v H')->C f args H K->C f args H K'):∀ (l:List RO) (t:Tm) (H:Hp) (K:Tm->Hp->Prop),RgP C (seqPlan l) t H K->opsK C l t H K
 | [],t,H,K,h=>h
 | r :: l,t,H,K,h=>by
  simp only [seqPlan,RgP,roK_after] at h
  exact roK_mono hC (fun v H' h=>seqPlan_ok hC l _ _ K h.2) h
theorem alts_ok {C:CallP} {t:Tm} {H:Hp} {K:Tm->Hp->Prop} (f:Nat->Plan):∀ (is:List Nat),RgP C (alts f is) t H K->∀ i∈is,RgP C (f i) t H K
 | [],h,i,hi=>by simp at hi
 | [j],h,i,hi=>by
  rw [List.mem_singleton.1 hi]
  exact h
 | j :: k :: is,h,i,hi=>by
  simp only [alts,RgP] at h
  rcases List.mem_cons.1 hi with rfl | hi
  ·exact h.1
  ·exact alts_ok f (k :: is) h.2 i hi
theorem mkPlan_ok {C:CallP} (hC:∀ f args H K K',(∀ v H',K v H'->K' v H')->C f args H K->C f args H K'):∀ (n:Nat) (l:List RO) (D:List Nat) (t:Tm) (H:Hp) (K:Tm->Hp->Prop),RgP C (mkPlan n l D) t H K->Rg C n l D t H K
 | 0,l,D,t,H,K,h=>h.elim
 | n+1,l,D,t,H,K,h=>by
  simp only [mkPlan] at h
  simp only [Rg]
  split at h
  ·rename_i i hi
   split at h
   ·rename_i r hr
    simp only [RgP,roK_after] at h
    have hq:r.op.quiet=true:=by
     unfold nextQ at hi
     have h1:=List.find?_some hi
     simp only [hr,Bool.and_eq_true] at h1
     have h2:=h1.2.1
     simp only [qt,Bool.and_eq_true] at h2
     exact h2.1
    obtain⟨v,hv,hk⟩:=roK_quiet hq h
    simp only [hr,hv]
    exact mkPlan_ok hC n l (i :: D) _ _ K hk.2
   ·exact h.elim
  ·rename_i hi
   split at h
   ·rename_i hall
    rw [if_pos hall]
    exact h
   ·rename_i hall
    rw [if_neg hall]
    intro i hir
    have h1:=alts_ok _ _ h i hir
    split at h1
    ·rename_i r hr
     simp only [RgP,roK_after] at h1
     refine roK_mono hC (fun t' H' hk=>⟨fun q hq=>?_,mkPlan_ok hC n l (i :: D) _ _ K hk.2⟩) h1
     exact hk.1 (q.d,q.op,q.g) (List.mem_map.2 ⟨q,hq,rfl⟩)
    ·exact h1.elim
end Go.Proofs.YtepeokaplbbpoaaGreat.B

namespace Go.Proofs.YtepeokaplbbpoaaGreat.B
open Go.RowKit
set_option linter.unusedVariables false
set_option linter.unusedSimpArgs false
variable {P:Program} {E:Env}
def entered (P : Program) (f : Nat) : Prop := ∃ fn c, P.funcs[f]? = some fn /\ (fn.name == "runtime.NumGoroutine") = false /\ fn.body = some c
def AC (P:Program) (E:Env):CallP:=fun f args H R=>entered P f/\∀ (φ:Phi) (w:World) (vals:List Value),VRs φ args vals->HR E φ H w ->
 Calls P f vals.toArray w fun
  | .returned u,w'=>∃ φ' H' v,PLe φ φ'/\HR E φ' H' w'/\Below E.B0 w w'/\VR φ' v u/\R v H'
  | _,_=>False
def OpS (P:Program) (E:Env) (o:Oper) (ao:AOp):Prop:=∀ (t:Tm) (H:Hp) (K:AV->Hp->Prop),stepK (AC P E) t H ao K ->
 ∀ (φ:Phi) (n:Nat) (a:Act) (w:World) (next:Act->World->Prop) (Q:Exit->Act->World->Prop),TR φ t n a->HR E φ H w ->
  (∀ φ' u w' v H',PLe φ φ'->HR E φ' H' w'->Below E.B0 w w'->VR φ' v u->K v H'->next (a.put o.dst u) w')->o.wp P a w next Q
def AOp.isCall:AOp->Bool
 | .call _ _ | .calv _ _=>true
 | _=>false
theorem stepK_opt {C:CallP} {t:Tm} {H:Hp} {ao:AOp} {K:AV->Hp->Prop} (h:ao.isCall=false):stepK C t H ao K=optK (stepA t H ao) K:=by
 cases ao<;>first | rfl | cases h
theorem OpOK.opS {o:Oper} {ao:AOp} (h:OpOK P E o ao) (hn:ao.isCall=false):OpS P E o ao:=by
 intro t H K hk φ n a w next Q hT hH hnext
 rw [stepK_opt hn] at hk
 unfold optK at hk
 split at hk
 ·rename_i v H' hs
  obtain⟨φ',u,w',hd,hv,hp,hH',hb⟩:=h t H v H' hs φ n a w hT hH
  exact hd.wp (hnext φ' u w' v H' hp hH' hb hv hk)
 ·exact hk.elim
theorem ods_VRs {φ:Phi} {t:Tm} {n:Nat} {a:Act} (hT:TR φ t n a):∀ (l:List Operand) (l':List Od),l.mapM cOd=some l'->VRs φ (l'.map (·.ev t)) (l.map a.eval):=by
 intro l
 induction l with
 | nil=>intro l' h; simp at h; subst h; rfl
 | cons y l ih =>
  intro l' h
  simp only [List.mapM_cons,Option.bind_eq_bind,Option.pure_def,Option.bind_eq_some_iff,Option.some.injEq] at h
  obtain⟨y',hy,r,hr,rfl⟩:=h
  exact⟨_,_,rfl,hT.ev hy,ih r hr⟩
theorem call_wp {o:Oper} {f:Nat} {args:List AV} {vals:List Value} {H:Hp} {K:AV->Hp->Prop} {φ:Phi} {a:Act} {w:World} {next:Act->World->Prop} {Q:Exit->Act->World->Prop}
  (he:entered P f->(execOp a.eval o).run P w=.ok (.enter f vals.toArray) w) (hk:AC P E f args H K) (hv:VRs φ args vals) (hH:HR E φ H w)
  (hnext:∀ φ' u w' v H',PLe φ φ'->HR E φ' H' w'->Below E.B0 w w'->VR φ' v u->K v H'->next (a.put o.dst u) w'):o.wp P a w next Q:=by
 obtain⟨h1,h2⟩:=hk
 unfold Oper.wp
 rw [he h1]
 simp only [Oper.upon]
 refine Calls.mono (h2 φ w vals hv hH) (fun e w' hr=>?_)
 cases e with
 | returned u =>
  obtain⟨φ',H',v,p1,p2,p3,p4,p5⟩:=hr
  exact hnext φ' u w' v H' p1 p2 p3 p4 p5
 | panicked c=>exact hr.elim
 | outgrown=>exact hr.elim
theorem s_call {o:Oper} {f:Nat} {xs:Array Operand} {ts:Array TypeId} {xs':List Od} (ho:o.op=.call { callee:=.value (.func f),args:=xs,argTypes:=ts }) (hx:xs.toList.mapM cOd=some xs'):OpS P E o (.call f xs'):=by
 intro t H K hk φ n a w next Q hT hH hnext
 refine call_wp (vals:=xs.toList.map a.eval) (fun ⟨fn,c,h1,h2,h3⟩=>?_) hk (ods_VRs hT _ _ hx) hH hnext
 have h2' : ¬ fn.name = "runtime.NumGoroutine" := by simpa using h2
 have e:(xs.toList.map a.eval).toArray=xs.map a.eval:=by apply Array.ext'; simp
 rw [e]
 simp [execOp,ho,resolve,Deferred.ofValue,Act.eval,invoke,callFunc,h1,h2',h3]
theorem s_calv {o:Oper} {x:Operand} {xs:Array Operand} {ts:Array TypeId} {x':Od} {xs':List Od} (ho:o.op=.call { callee:=.value x,args:=xs,argTypes:=ts }) (hx0:cOd x=some x') (hx:xs.toList.mapM cOd=some xs'):OpS P E o (.calv x' xs'):=by
 intro t H K hk φ n a w next Q hT hH hnext
 have h0:=hT.ev hx0
 simp only [stepK] at hk
 split at hk
 ·rename_i f cs e
  rw [e] at h0
  obtain⟨l,h0',hl⟩:=h0
  refine call_wp (vals:=xs.toList.map a.eval++l) (fun ⟨fn,c,h1,h2,h3⟩=>?_) hk ((ods_VRs hT _ _ hx).append hl) hH hnext
  have h2' : ¬ fn.name = "runtime.NumGoroutine" := by simpa using h2
  have e:(xs.toList.map a.eval++l).toArray=xs.map a.eval++l.toArray:=by apply Array.ext'; simp
  rw [e]
  simp [execOp,ho,resolve,Deferred.ofValue,h0',invoke,callFunc,h1,h2',h3]
 ·exact hk.elim
structure RoOK (P:Program) (E:Env) (nt:Nat) (ops:Array Oper) (o:Oper) (r:RO):Prop where
 d:r.d=o.dst
 op:OpS P E o r.op
 g:(o.guard=none/\r.g=none)\/∃ g b og d,o.guard=some (g,b)/\ops[g]?=some og/\og.dst=some d/\r.g=some (d,b)
 dlt:∀ d,r.d=some d->d<nt
 after:∀ j,j∈r.after↔∃ e∈o.after,Region.binds .any e=true/\e.on=j
theorem wanted_of {φ:Phi} {t:Tm} {n:Nat} {a:Act} (hT:TR φ t n a) {nt:Nat} {ops:Array Oper} {o:Oper} {r:RO} (h:RoOK P E nt ops o r) {b:Bool} (hw:want t r.g=some b) :
  Region.wanted o (yielded ops a.tmps)=b:=by
 rcases h.g with ⟨h1,h2⟩ | ⟨g,b',og,d,h1,h2,h3,h4⟩
 ·rw [h2] at hw
  simp only [want,Option.some.injEq] at hw
  simp [Region.wanted,h1,<- hw]
 ·rw [h4] at hw
  have hv:=hT.vals d
  simp only [want] at hw
  split at hw
  ·rename_i q e
   rw [e] at hv
   have hv':a.tmps.getD d undef=.bool q:=hv
   cases hw
   have hg:a.tmps[d]?=some (.bool q):=by
    rw [Array.getD_eq_getD_getElem?] at hv'
    cases ht:a.tmps[d]? with
    | none=>rw [ht] at hv'; simp [undef] at hv'
    | some x=>rw [ht] at hv'; simp at hv'; rw [hv']
   simp [Region.wanted,h1,yielded,h2,h3,hg]
  ·rename_i e
   rw [e] at hv
   have hv':a.tmps.getD d undef=undef:=hv
   cases hw
   have hy:yielded ops a.tmps g=none:=by
    unfold yielded
    simp only [h2,h3,Option.bind_some]
    rw [Array.getD_eq_getD_getElem?] at hv'
    cases ht:a.tmps[d]? with
    | none=>rfl
    | some x=>rw [ht] at hv'; simp at hv'; rw [hv']; rfl
   simp [Region.wanted,h1,hy]
  ·cases hw
theorem exec1 {nt:Nat} {ops:Array Oper} {i:Nat} {o:Oper} {r:RO} (hi:ops[i]?=some o) (h:RoOK P E nt ops o r) {t tm:Tm} {H:Hp} {K:Tm->Hp->Prop} (hc:∀ d∈r.looks,t d=tm d)
  (hk:roK (AC P E) t H r K) {φ:Phi} {n:Nat} {a:Act} {w:World} {next:Act->World->Prop} {Q:Exit->Act->World->Prop} (hT:TR φ tm n a) (hH:HR E φ H w)
  (hnext:∀ φ' u w' v H',PLe φ φ'->HR E φ' H' w'->Below E.B0 w w'->VR φ' v u->K (updO t r.d v) H'->next (a.put r.d u) w'):wpOp P ops Q i next a w:=by
 obtain⟨c1,c2⟩:=ods_congr hc
 unfold wpOp
 simp only [hi]
 unfold roK at hk
 rw [c2] at hk
 split at hk
 ·rename_i hw
  rw [wanted_of hT h hw,if_pos rfl]
  rw [stepK_congr c1] at hk
  refine .inl (h.op tm H _ hk φ n a w _ _ hT hH (fun φ' u w' v H' p1 p2 p3 p4 p5=>?_))
  rw [<- h.d]
  exact hnext φ' u w' v H' p1 p2 p3 p4 p5
 ·rename_i hw
  rw [wanted_of hT h hw,if_neg (by simp),<- h.d]
  exact hnext φ undef w .un H (PLe.refl _) hH (Below.refl _ _) rfl hk
 ·exact hk.elim
theorem TR.putO {φ φ':Phi} {t:Tm} {n:Nat} {a:Act} (h:TR φ t n a) (hp:PLe φ φ') {d:Option Nat} (hd:∀ x,d=some x->x<n) {v:AV} {u:Value} (hv:VR φ' v u):TR φ' (updO t d v) n (a.put d u):=by
 cases d with
 | none=>exact h.mono hp
 | some d=>exact (h.mono hp).put (hd d rfl) hv
theorem ops_sound {nt:Nat} {ops:Array Oper} {n:Nat} (hn:nt<=n) {φ0:Phi} {w0:World} {Q:Exit->Act->World->Prop} {K:Tm->Hp->Prop}
  (hK:∀ φ t H a w,TR φ t n a->HR E φ H w->Below E.B0 w0 w->PLe φ0 φ->K t H->Q .normal a w) :
  ∀ (is:List Nat) (rs:List RO),(∀ p∈is.zip rs,∃ o,ops[p.1]?=some o/\RoOK P E nt ops o p.2)->is.length=rs.length->∀ (t:Tm) (H:Hp),opsK (AC P E) rs t H K ->
   ∀ φ a w,TR φ t n a->HR E φ H w->Below E.B0 w0 w->PLe φ0 φ->wpOps P ops Q is a w
 | [],[],_,_,t,H,hk,φ,a,w,hT,hH,hb,hp=>hK φ t H a w hT hH hb hp hk
 | [],_ :: _,_,hl,_,_,_,_,_,_,_,_,_,_=>by simp at hl
 | _ :: _,[],_,hl,_,_,_,_,_,_,_,_,_,_=>by simp at hl
 | i :: is,r :: rs,hr,hl,t,H,hk,φ,a,w,hT,hH,hb,hp=>by
  obtain⟨o,ho,hro⟩:=hr (i,r) (by simp)
  rw [wpOps_cons]
  simp only [opsK] at hk
  refine exec1 ho hro (fun _ _=>rfl) hk hT hH (fun φ' u w' v H' p1 p2 p3 p4 p5=>?_)
  exact ops_sound hn hK is rs (fun p hp=>hr p (by rw [List.zip_cons_cons]; exact List.mem_cons_of_mem _ hp)) (by simpa using hl) _ _ p5 φ' _ w' (hT.putO p1 (fun x hx=>Nat.lt_of_lt_of_le (hro.dlt x hx) hn) p4) p2 (hb.trans p3) (hp.trans p1)
end Go.Proofs.YtepeokaplbbpoaaGreat.B

namespace Go.Proofs.YtepeokaplbbpoaaGreat.B
open Go.RowKit
set_option linter.unusedVariables false
set_option linter.unusedSimpArgs false
variable {P:Program} {E:Env}
def cntF (l:List Bool):Nat:=(l.filter (!·)).length
theorem cntF_set:∀ (l:List Bool) (i:Nat),l[i]?=some false->cntF (l.set i true)+1=cntF l
 | [],i,h=>by simp at h
 | b :: l,0,h=>by
  have:b=false:=by simpa using h
  subst this
  simp [cntF]
 | b :: l,i+1,h=>by
  have ih:=cntF_set l i (by simpa using h)
  cases b<;>simp [cntF] at ih ⊢<;>omega
theorem cntF_pos (l:List Bool) (i:Nat) (h:l[i]?=some false):0<cntF l:=by have:=cntF_set l i h; omega
def pd (l:List RO) (D:List Nat) (Lc:List Bool) (d:Nat):Prop:=∃ p r,p∈D/\Lc[p]?=some false/\l[p]?=some r/\r.d=some d
structure TRm (φ:Phi) (t:Tm) (pd:Nat->Prop) (n:Nat) (a:Act):Prop where
 size:a.tmps.size=n
 vals:∀ d,¬pd d->VR φ (t d) (a.tmps.getD d undef)
 defers:a.defers=[]
open Classical in
noncomputable def mask (t:Tm) (pd:Nat->Prop):Tm:=fun d=>if pd d then .any else t d
theorem mask_eq {t:Tm} {pd:Nat->Prop} {d:Nat} (h:¬pd d):mask t pd d=t d:=by unfold mask; rw [if_neg h]
theorem TRm.mask {φ:Phi} {t:Tm} {pd:Nat->Prop} {n:Nat} {a:Act} (h:TRm φ t pd n a):TR φ (mask t pd) n a:=by
 refine⟨h.size,fun d=>?_,h.defers⟩
 unfold B.mask
 split
 ·trivial
 ·rename_i hd
  exact h.vals d hd
theorem put_getD (a:Act) (d:Option Nat) (u:Value) (x:Nat) (n:Nat) (hn:a.tmps.size=n) (hd:∀ y,d=some y->y<n):(a.put d u).tmps.getD x undef=if d=some x then u else a.tmps.getD x undef:=by
 cases d with
 | none=>simp [Act.put]
 | some d =>
  have:=hd d rfl
  simp only [Act.put,Array.getD_eq_getD_getElem?,Array.getElem?_setIfInBounds,Option.some.injEq]
  by_cases e:d=x
  ·subst e
   rw [if_pos rfl,if_pos rfl,if_pos (by omega)]
   rfl
  ·rw [if_neg e,if_neg e]
structure Sim (E:Env) (l:List RO) (n:Nat) (D:List Nat) (Lc:Array Bool) (t:Tm) (H:Hp) (φ:Phi) (a:Act) (w:World):Prop where
 size:Lc.size=l.length
 sub:∀ i:Nat,Lc[i]?=some true->i∈D
 lt:∀ i∈D,i<l.length
 pend:∀ i∈D,Lc[i]?=some false->∀ r,l[i]?=some r->qt l i r=true/\pend1 t H r
 clo:∀ (i:Nat) r,Lc[i]?=some true->l[i]?=some r->∀ j∈r.after,Lc[j]?=some true
 cloD:∀ i∈D,∀ r,l[i]?=some r->∀ j∈r.after,j∈D
 tr:TRm φ t (pd l D Lc.toList) n a
 hr:HR E φ H w
theorem before_mem (l:List RO) (S:Nat->Prop) (hS:∀ i r,S i->l[i]?=some r->∀ j∈r.after,S j):∀ (n i:Nat),(∀ r,l[i]?=some r->∀ j∈r.after,S j)->∀ j∈before l n i,S j
 | 0,i,h,j,hj=>by simp [before] at hj
 | n+1,i,h,j,hj=>by
  simp only [before] at hj
  split at hj
  ·rename_i r hr
   rcases List.mem_append.1 hj with hj | hj
   ·exact h r hr j hj
   ·obtain⟨k,hk,hj⟩:=List.mem_flatMap.1 hj
    exact before_mem l S hS n k (fun r' hr'=>hS k r' (h r hr k hk) hr') j hj
  ·simp at hj
theorem good_spec {l:List RO} (h:good l=true) {i:Nat} {r:RO} (hi:l[i]?=some r) :
  (∀ j∈r.after,j<i)/\∀ j q d,l[j]?=some q->q.d=some d->(j=i\/r.d≠some d)/\(d∈r.looks->j≠i/\(waits l i j=true\/waits l j i=true)):=by
 have hlt:i<l.length:=(List.getElem?_eq_some_iff.1 hi).1
 simp only [good,List.all_eq_true,List.mem_range] at h
 have h1:=h i hlt
 simp only [hi,Bool.and_eq_true,List.all_eq_true,decide_eq_true_eq,List.mem_range] at h1
 refine⟨h1.1,fun j q d hj hd=>?_⟩
 have h2:=h1.2 j (List.getElem?_eq_some_iff.1 hj).1
 simp only [hj,hd,Bool.and_eq_true,Bool.or_eq_true,beq_iff_eq,bne_iff_ne,ne_eq,Bool.not_eq_true',List.contains_eq_mem,decide_eq_false_iff_not] at h2
 refine⟨h2.1,fun hm=>?_⟩
 rcases h2.2 with h3 | h3
 ·exact absurd hm h3
 ·exact h3
variable {nt:Nat} {ops:Array Oper} {l:List RO} {n:Nat}
theorem qt_spec {i:Nat} {r:RO} (h:qt l i r=true):r.op.quiet=true/\∀ k q d,l[k]?=some q->r.d=some d->d∈q.looks->waits l k i=true:=by
 simp only [qt,Bool.and_eq_true,List.all_eq_true,List.mem_range] at h
 refine⟨h.1,fun k q d hk hd hm=>?_⟩
 have h2:=h.2 k (List.getElem?_eq_some_iff.1 hk).1
 simp only [hk,hd,Bool.or_eq_true,Bool.not_eq_true',List.contains_eq_mem,decide_eq_false_iff_not] at h2
 rcases h2 with h2 | h2
 ·exact absurd hm h2
 ·exact h2
theorem waits_mem (S:Nat->Prop) (hS:∀ i r,S i->l[i]?=some r->∀ j∈r.after,S j) {i:Nat} {r:RO} (hi:l[i]?=some r) (ha:∀ j∈r.after,S j) {p:Nat} (hw:waits l i p=true):S p:=by
 have hw':p∈before l l.length i:=by simpa [waits] using hw
 exact before_mem l S hS l.length i (fun r' hr' j hj=>by rw [hi] at hr'; cases hr'; exact ha j hj) p hw'
theorem looks_unmasked (hg:good l=true) {D:List Nat} {Lc:Array Bool} {t:Tm} {H:Hp} {φ:Phi} {a:Act} {w:World} (h:Sim E l n D Lc t H φ a w) {i:Nat} {r:RO} (hi:l[i]?=some r) (ha:∀ j∈r.after,Lc[j]?=some true) :
  ∀ d∈r.looks,t d=mask t (pd l D Lc.toList) d:=by
 intro d hd
 refine (mask_eq ?_).symm
 rintro ⟨p,q,hpD,hpL,hp,hq⟩
 rw [Array.getElem?_toList] at hpL
 have hw:=(qt_spec (h.pend p hpD hpL q hp).1).2 i r d hi hq hd
 have:=waits_mem (fun j=>Lc[j]?=some true) (fun i r hi hr=>h.clo i r hi hr) hi ha hw
 rw [hpL] at this
 cases this
theorem ready_spec (hl:l.length=ops.size) (hro:∀ (i:Nat) (o:Oper) (r:RO),ops[i]?=some o->l[i]?=some r->RoOK P E nt ops o r) {Lc:Array Bool} (hs:Lc.size=l.length) {i:Nat} (h:i∈Region.ready .any ops Lc) :
  Lc[i]?=some false/\∃ o r,ops[i]?=some o/\l[i]?=some r/\∀ j∈r.after,Lc[j]?=some true:=by
 obtain⟨h1,o,ho,h2⟩:=mem_ready.1 h
 have hlt:i<l.length:=by rw [hl]; exact (Array.getElem?_eq_some_iff.1 ho).1
 have hr:=List.getElem?_eq_getElem hlt
 refine⟨?_,o,l[i],ho,hr,fun j hj=>?_⟩
 ·rw [Array.getD_eq_getD_getElem?] at h1
  cases hx:Lc[i]? with
  | none=>rw [hx] at h1; simp at h1
  | some b=>rw [hx] at h1; simp at h1; rw [h1]
 ·obtain⟨e,he,hb,rfl⟩:=((hro i o _ ho hr).after j).1 hj
  have:=h2 e he hb
  rw [Array.getD_eq_getD_getElem?] at this
  cases hx:Lc[e.on]? with
  | none=>rw [hx] at this; simp at this
  | some b=>rw [hx] at this; simp at this; rw [this]
theorem set_get (Lc:Array Bool) (i j:Nat) (hi:Lc[i]?=some false):(Lc.setIfInBounds i true)[j]?=if i=j then some true else Lc[j]?:=by
 rw [Array.getElem?_setIfInBounds]
 by_cases e:i=j
 ·subst e
  rw [if_pos rfl,if_pos rfl,if_pos (Array.getElem?_eq_some_iff.1 hi).1]
 ·rw [if_neg e,if_neg e]
theorem all_done (hg:good l=true) (hl:l.length=ops.size) (hro:∀ (i:Nat) (o:Oper) (r:RO),ops[i]?=some o->l[i]?=some r->RoOK P E nt ops o r) {Lc:Array Bool} (hs:Lc.size=l.length) (h:Region.ready .any ops Lc=[]) :
  ∀ i,i<l.length->Lc[i]?=some true:=by
 intro i
 induction i using Nat.strongRecOn with
 | _ i ih =>
  intro hlt
  have hlt2:i<Lc.size:=by omega
  cases hb:Lc[i] with
  | true=>rw [Array.getElem?_eq_getElem hlt2,hb]
  | false =>
   exfalso
   have hr:=List.getElem?_eq_getElem hlt
   have hlo:i<ops.size:=by omega
   have ho:=Array.getElem?_eq_getElem hlo
   have:i∈Region.ready .any ops Lc:=by
    rw [mem_ready]
    refine⟨by rw [Array.getD_eq_getD_getElem?,Array.getElem?_eq_getElem hlt2,hb]; rfl,_,ho,fun e he hbi=>?_⟩
    have hj:e.on∈l[i].after:=((hro i _ _ ho hr).after e.on).2 ⟨e,he,hbi,rfl⟩
    have hji:=(good_spec hg hr).1 _ hj
    rw [Array.getD_eq_getD_getElem?,ih e.on hji (by omega)]
    rfl
   rw [h] at this
   cases this
theorem pend_step (hg:good l=true) (hl:l.length=ops.size) (hn:nt<=n) (hro:∀ (i:Nat) (o:Oper) (r:RO),ops[i]?=some o->l[i]?=some r->RoOK P E nt ops o r) {D:List Nat} {Lc:Array Bool} {t:Tm} {H:Hp} {φ:Phi} {a:Act} {w:World}
  (h:Sim E l n D Lc t H φ a w) {i:Nat} (hi:i∈Region.ready .any ops Lc) (hD:i∈D) {next:Act->World->Prop} {Q:Exit->Act->World->Prop}
  (hnext:∀ φ' a' w',PLe φ φ'->Below E.B0 w w'->Sim E l n D (Lc.setIfInBounds i true) t H φ' a' w'->next a' w'):wpOp P ops Q i next a w:=by
 obtain⟨hu,o,r,ho,hr,ha⟩:=ready_spec hl hro h.size hi
 obtain⟨hqt,v,hv,hvd⟩:=h.pend i hD hu r hr
 have hq:=(qt_spec hqt).1
 have hRO:=hro i o r ho hr
 have hc:=looks_unmasked hg h hr ha
 have hk:roK (AC P E) t H r (fun t' H'=>t'=updO t r.d v/\H'=H):=by
  unfold roA at hv
  unfold roK
  split at hv
  ·rename_i hw
   simp only [Option.map_eq_some_iff,Prod.exists,exists_and_right,exists_eq_right] at hv
   obtain⟨H',hs⟩:=hv
   have hnc:r.op.isCall=false:=by
    cases hop:r.op<;>first | rfl | (rw [hop] at hq; cases hq)
   rw [stepK_opt hnc,hs]
   exact⟨rfl,quiet_same hq hs⟩
  ·cases hv
   exact⟨rfl,rfl⟩
  ·cases hv
 refine exec1 ho hRO hc hk h.tr.mask h.hr (fun φ' u w' v' H' p1 p2 p3 p4 p5=>?_)
 obtain⟨p5,rfl⟩:=p5
 have hdn:∀ y,r.d=some y->y<n:=fun y hy=>Nat.lt_of_lt_of_le (hRO.dlt y hy) hn
 refine hnext φ' _ w' p1 p3 ⟨by simpa using h.size,fun j hj=>?_,h.lt,fun j hj hjf rj hrj=>?_,fun j rj hj hrj k hk=>?_,h.cloD,⟨?_,fun d hd=>?_,?_⟩,p2⟩
 ·rw [set_get _ _ _ hu] at hj
  split at hj
  ·rename_i e; rw [<- e]; exact hD
  ·exact h.sub j hj
 ·rw [set_get _ _ _ hu] at hjf
  split at hjf
  ·cases hjf
  ·exact h.pend j hj hjf rj hrj
 ·rw [set_get _ _ _ hu] at hj ⊢
  split
  ·rfl
  ·split at hj
   ·rename_i e
    subst e
    rw [hr] at hrj
    cases hrj
    exact ha k hk
   ·exact h.clo j rj hj hrj k hk
 ·cases hd:r.d<;>simp [Act.put,h.tr.size]
 ·rw [put_getD a r.d u d n h.tr.size hdn]
  by_cases e:r.d=some d
  ·rw [if_pos e]
   have e1:=congrFun p5 d
   rw [e] at e1
   simp only [updO,upd,if_true] at e1
   rw [hvd d e,<- e1]
   exact p4
  ·rw [if_neg e]
   refine VR.mono p1 _ _ (h.tr.vals d ?_)
   rintro ⟨p,q,q1,q2,q3,q4⟩
   refine hd ⟨p,q,q1,?_,q3,q4⟩
   rw [Array.getElem?_toList] at q2 ⊢
   rw [set_get _ _ _ hu]
   split
   ·rename_i e2
    subst e2
    rw [hr] at q3
    cases q3
    exact absurd q4 e
   ·exact q2
 ·cases hd:r.d<;>simp [Act.put,h.tr.defers]
theorem roA_nomem {t:Tm} {r:RO} (hq:r.op.quiet=true) (hm:r.op.mem=false) (H H':Hp):roA t H r=roA t H' r:=by
 have key:(stepA t H r.op).map (·.1)=(stepA t H' r.op).map (·.1):=by
  generalize r.op=op at hq hm
  cases op<;>simp only [AOp.quiet,AOp.mem,Bool.false_eq_true,Bool.true_eq_false] at hq hm<;>simp only [stepA]
  all_goals first | rfl | skip
  all_goals (repeat' split)<;>first | rfl | (simp only [Option.map_map]; rfl) | (simp [Option.map_bind]; done) | skip
  all_goals
   rename_i s _
   cases optI t 0 _ with
   | none=>rfl
   | some l =>
    cases optI t (s.size:Int) _ with
    | none=>rfl
    | some h =>
     simp only [Option.bind_some]
     split<;>rfl
 unfold roA
 rw [key]
theorem nextQ_some {D:List Nat} {i:Nat} (h:nextQ l D=some i):i ∉ D/\∃ r,l[i]?=some r/\qt l i r=true/\∀ j∈r.after,j∈D:=by
 unfold nextQ at h
 have h1:=List.find?_some h
 simp only [Bool.and_eq_true,Bool.not_eq_true',List.contains_eq_mem,decide_eq_false_iff_not] at h1
 obtain⟨h1,h2⟩:=h1
 refine⟨h1,?_⟩
 split at h2
 ·rename_i r hr
  simp only [Bool.and_eq_true,List.all_eq_true] at h2
  exact⟨r,hr,h2.1,fun j hj=>by simpa using h2.2 j hj⟩
 ·cases h2
theorem nextQ_none {D:List Nat} (h:nextQ l D=none) {i:Nat} {r:RO} (hi:l[i]?=some r) (hD:i ∉ D) (ha:∀ j∈r.after,j∈D):qt l i r=false/\i∈readyL l D:=by
 unfold nextQ at h
 have h1:=List.find?_eq_none.1 h i (List.mem_range.2 (List.getElem?_eq_some_iff.1 hi).1)
 have hall:r.after.all D.contains=true:=by
  rw [List.all_eq_true]
  intro j hj
  simpa using ha j hj
 have hq:qt l i r=false:=by
  cases hq:qt l i r with
  | false=>rfl
  | true=>exact absurd (by simp [hi,hD,hq]; exact ha) h1
 refine⟨hq,?_⟩
 unfold readyL
 rw [List.mem_filter,List.mem_range]
 refine⟨(List.getElem?_eq_some_iff.1 hi).1,?_⟩
 simp [hi,hD,hq]
 exact ha
theorem sim (hg:good l=true) (hl:l.length=ops.size) (hn:nt<=n) (hro:∀ (i:Nat) (o:Oper) (r:RO),ops[i]?=some o->l[i]?=some r->RoOK P E nt ops o r) {φ0:Phi} {w0:World} {Q:Exit->Act->World->Prop} {K:Tm->Hp->Prop}
  (hK:∀ φ t H a w,TR φ t n a->HR E φ H w->Below E.B0 w0 w->PLe φ0 φ->K t H->Q .normal a w) :
  ∀ (m:Nat) (D:List Nat) (t:Tm) (H:Hp),Rg (AC P E) m l D t H K->∀ (fuel:Nat) (Lc:Array Bool) (φ:Phi) (a:Act) (w:World),cntF Lc.toList<=fuel->Sim E l n D Lc t H φ a w->Below E.B0 w0 w->PLe φ0 φ ->
   wpAny P .any ops Q fuel Lc a w:=by
 intro m
 induction m with
 | zero=>intro D t H h; exact h.elim
 | succ m ih =>
  intro D t H h
  simp only [Rg] at h
  split at h
  ·rename_i i hnq
   split at h
   ·rename_i r hr
    split at h
    ·rename_i v hv
     obtain⟨hD,r',hr',hq,ha⟩:=nextQ_some hnq
     rw [hr] at hr'
     cases hr'
     intro fuel Lc φ a w hf hS hb hp
     have hLi:Lc[i]?=some false:=by
      have hlt:i<Lc.size:=by rw [hS.size]; exact (List.getElem?_eq_some_iff.1 hr).1
      cases hbv:Lc[i] with
      | false=>rw [Array.getElem?_eq_getElem hlt,hbv]
      | true=>exact absurd (hS.sub i (by rw [Array.getElem?_eq_getElem hlt,hbv])) hD
     have hnd:∀ p q,p∈D->l[p]?=some q->(∀ d,r.d=some d->d ∉ q.looks)/\(∀ d,r.d=some d->q.d≠some d):=by
      intro p q hpD hpq
      refine⟨fun d hd hm=>?_,fun d hd he=>?_⟩
      ·have hw:=(qt_spec hq).2 p q d hpq hd hm
       exact hD (waits_mem (fun j=>j∈D) (fun i r hi hr=>hS.cloD i hi r hr) hpq (hS.cloD p hpD q hpq) hw)
      ·rcases ((good_spec hg hpq).2 i r d hr hd).1 with e | e
       ·exact hD (e ▸ hpD)
       ·exact e he
     have hown:∀ d,r.d=some d->d ∉ r.looks:=by
      intro d hd hm
      exact (((good_spec hg hr).2 i r d hr hd).2 hm).1 rfl
     have hupd:∀ (q:RO),(∀ d,r.d=some d->d ∉ q.looks)->roA (updO t r.d v) H q=roA t H q:=by
      intro q hq
      refine roA_congr (fun d hd=>?_) H
      cases hrd:r.d with
      | none=>rfl
      | some d' =>
       simp only [updO,upd]
       rw [if_neg]
       rintro rfl
       exact hq d hrd hd
     refine ih (i :: D) _ H h fuel Lc φ a w hf ⟨hS.size,fun j hj=>List.mem_cons_of_mem _ (hS.sub j hj),fun j hj=>?_,fun j hj hjf rj hrj=>?_,hS.clo,fun j hj rj hrj k hk=>?_,⟨hS.tr.size,fun d hd=>?_,hS.tr.defers⟩,hS.hr⟩ hb hp
     ·rcases List.mem_cons.1 hj with rfl | hj
      ·exact (List.getElem?_eq_some_iff.1 hr).1
      ·exact hS.lt j hj
     ·rcases List.mem_cons.1 hj with rfl | hj
      ·rw [hr] at hrj
       cases hrj
       refine⟨hq,v,?_,fun d hd=>?_⟩
       ·rw [hupd r hown]; exact hv
       ·rw [hd]; simp [updO,upd]
      ·obtain⟨g1,u,g2,g3⟩:=hS.pend j hj hjf rj hrj
       obtain⟨n1,n2⟩:=hnd j rj hj hrj
       refine⟨g1,u,by rw [hupd rj n1]; exact g2,fun d hd=>?_⟩
       cases hrd:r.d with
       | none=>exact g3 d hd
       | some d' =>
        simp only [updO,upd]
        rw [if_neg]
        ·exact g3 d hd
        ·rintro rfl
         exact n2 d hrd hd
     ·rcases List.mem_cons.1 hj with rfl | hj
      ·rw [hr] at hrj
       cases hrj
       exact List.mem_cons_of_mem _ (ha k hk)
      ·exact List.mem_cons_of_mem _ (hS.cloD j hj rj hrj k hk)
     ·have hd1:¬pd l D Lc.toList d:=by
       rintro ⟨p,q,q1,q2,q3,q4⟩
       exact hd ⟨p,q,List.mem_cons_of_mem _ q1,q2,q3,q4⟩
      have hd2:r.d≠some d:=fun e=>hd ⟨i,r,List.mem_cons_self ..,by rw [Array.getElem?_toList]; exact hLi,hr,e⟩
      have:updO t r.d v d=t d:=by
       cases hrd:r.d with
       | none=>rfl
       | some d' =>
        simp only [updO,upd]
        rw [if_neg]
        rintro rfl
        exact hd2 hrd
      rw [this]
      exact hS.tr.vals d hd1
    ·exact h.elim
   ·exact h.elim
  ·rename_i hnq
   intro fuel
   induction fuel with
   | zero =>
    intro Lc φ a w hf hS hb hp
    have hall:∀ i,i<l.length->Lc[i]?=some true:=by
     intro i hi
     have hlt:i<Lc.size:=by rw [hS.size]; exact hi
     cases hbv:Lc[i] with
     | true=>rw [Array.getElem?_eq_getElem hlt,hbv]
     | false =>
      have:=cntF_pos Lc.toList i (by rw [Array.getElem?_toList,Array.getElem?_eq_getElem hlt,hbv])
      omega
    have hDall:(List.range l.length).all D.contains=true:=by
     rw [List.all_eq_true]
     intro i hi
     simpa using hS.sub i (hall i (List.mem_range.1 hi))
    rw [if_pos hDall] at h
    refine⟨?_,hK φ t H a w ⟨hS.tr.size,fun d=>hS.tr.vals d ?_,hS.tr.defers⟩ hS.hr hb hp h⟩
    ·apply List.eq_nil_iff_forall_not_mem.2
     intro i hi
     obtain⟨hu,_,r,_,hr,_⟩:=ready_spec hl hro hS.size hi
     rw [hall i (List.getElem?_eq_some_iff.1 hr).1] at hu
     cases hu
    ·rintro ⟨p,q,q1,q2,q3,q4⟩
     rw [Array.getElem?_toList,hall p (List.getElem?_eq_some_iff.1 q3).1] at q2
     cases q2
   | succ fuel ihf =>
    intro Lc φ a w hf hS hb hp
    refine⟨fun hre=>?_,fun i hi=>?_⟩
    ·have hall:=all_done hg hl hro hS.size hre
     have hDall:(List.range l.length).all D.contains=true:=by
      rw [List.all_eq_true]
      intro i hi
      simpa using hS.sub i (hall i (List.mem_range.1 hi))
     rw [if_pos hDall] at h
     refine hK φ t H a w ⟨hS.tr.size,fun d=>hS.tr.vals d ?_,hS.tr.defers⟩ hS.hr hb hp h
     rintro ⟨p,q,q1,q2,q3,q4⟩
     rw [Array.getElem?_toList,hall p (List.getElem?_eq_some_iff.1 q3).1] at q2
     cases q2
    ·obtain⟨hu,o,r,ho,hr,ha⟩:=ready_spec hl hro hS.size hi
     have hcnt:cntF (Lc.setIfInBounds i true).toList<=fuel:=by
      have:=cntF_set Lc.toList i (by rw [Array.getElem?_toList]; exact hu)
      rw [Array.toList_setIfInBounds]
      omega
     by_cases hD:i∈D
     ·exact pend_step hg hl hn hro hS hi hD (fun φ' a' w' p1 p2 p3=>ihf _ φ' a' w' hcnt p3 (hb.trans p2) (hp.trans p1))
     ·obtain⟨hq,hrl⟩:=nextQ_none hnq hr hD (fun j hj=>hS.sub j (ha j hj))
      have hnall:¬(List.range l.length).all D.contains=true:=by
       intro hh
       rw [List.all_eq_true] at hh
       exact hD (by simpa using hh i (List.mem_range.2 (List.getElem?_eq_some_iff.1 hr).1))
      rw [if_neg hnall] at h
      have hk:=h i hrl
      rw [hr] at hk
      simp only at hk
      have hRO:=hro i o r ho hr
      have hdn:∀ y,r.d=some y->y<n:=fun y hy=>Nat.lt_of_lt_of_le (hRO.dlt y hy) hn
      refine exec1 ho hRO (looks_unmasked hg hS hr ha) hk hS.tr.mask hS.hr (fun φ' u w' v H' p1 p2 p3 p4 p5=>?_)
      obtain⟨p5,p6⟩:=p5
      have hnd:∀ p q,p∈D->Lc[p]?=some false->l[p]?=some q->(∀ d,r.d=some d->d ∉ q.looks)/\(∀ d,r.d=some d->q.d≠some d):=by
       intro p q hpD hpL hpq
       refine⟨fun d hd hm=>?_,fun d hd he=>?_⟩
       ·rcases (((good_spec hg hpq).2 i r d hr hd).2 hm).2 with hw | hw
        ·exact hD (waits_mem (fun j=>j∈D) (fun i r hi hr=>hS.cloD i hi r hr) hpq (hS.cloD p hpD q hpq) hw)
        ·have:=waits_mem (fun j=>Lc[j]?=some true) (fun i r hi hr=>hS.clo i r hi hr) hr ha hw
         simp only [hpL] at this
         cases this
       ·rcases ((good_spec hg hpq).2 i r d hr hd).1 with e | e
        ·exact hD (e ▸ hpD)
        ·exact e he
      refine ih (i :: D) _ H' p6 fuel _ φ' _ w' hcnt ⟨by simpa using hS.size,fun j hj=>?_,fun j hj=>?_,fun j hj hjf rj hrj=>?_,fun j rj hj hrj k hk=>?_,fun j hj rj hrj k hk=>?_,⟨?_,fun d hd=>?_,?_⟩,p2⟩ (hb.trans p3) (hp.trans p1)
      ·rw [set_get _ _ _ hu] at hj
       split at hj
       ·rename_i e; rw [<- e]; exact List.mem_cons_self ..
       ·exact List.mem_cons_of_mem _ (hS.sub j hj)
      ·rcases List.mem_cons.1 hj with rfl | hj
       ·exact (List.getElem?_eq_some_iff.1 hr).1
       ·exact hS.lt j hj
      ·rw [set_get _ _ _ hu] at hjf
       split at hjf
       ·cases hjf
       ·rename_i hij
        rcases List.mem_cons.1 hj with e | hj
        ·exact absurd e.symm hij
        ·obtain⟨g1,u',g2,g3⟩:=hS.pend j hj hjf rj hrj
         obtain⟨n1,n2⟩:=hnd j rj hj hjf hrj
         refine⟨g1,?_⟩
         by_cases hmem:rj.op.mem=true
         ·refine p5 rj ?_
          unfold again
          refine List.mem_filterMap.2 ⟨j,hj,?_⟩
          have hw:waits l i j=false:=by
           cases hw:waits l i j with
           | false=>rfl
           | true =>
            have:=waits_mem (fun j=>Lc[j]?=some true) (fun i r hi hr=>hS.clo i r hi hr) hr ha hw
            simp only [hjf] at this
            cases this
          simp [hrj,hmem,hw]
         ·refine⟨u',?_,fun d hd=>?_⟩
          ·have e1:roA (updO t r.d v) H' rj=roA t H' rj:=by
            refine roA_congr (fun d hd=>?_) H'
            cases hrd:r.d with
            | none=>rfl
            | some d' =>
             simp only [updO,upd]
             rw [if_neg]
             rintro rfl
             exact n1 d hrd hd
           rw [e1,<- g2]
           exact roA_nomem (qt_spec g1).1 (by simpa using hmem) H' H
          ·cases hrd:r.d with
           | none=>exact g3 d hd
           | some d' =>
            simp only [updO,upd]
            rw [if_neg]
            ·exact g3 d hd
            ·rintro rfl
             exact n2 d hrd hd
      ·rw [set_get _ _ _ hu] at hj ⊢
       split
       ·rfl
       ·split at hj
        ·rename_i e
         subst e
         rw [hr] at hrj
         cases hrj
         exact ha k hk
        ·exact hS.clo j rj hj hrj k hk
      ·rcases List.mem_cons.1 hj with rfl | hj
       ·rw [hr] at hrj
        cases hrj
        exact List.mem_cons_of_mem _ (hS.sub k (ha k hk))
       ·exact List.mem_cons_of_mem _ (hS.cloD j hj rj hrj k hk)
      ·cases hd:r.d<;>simp [Act.put,hS.tr.size]
      ·rw [put_getD a r.d u d n hS.tr.size hdn]
       by_cases e:r.d=some d
       ·rw [if_pos e,e]
        simp only [updO,upd,if_true]
        exact p4
       ·rw [if_neg e]
        have:updO t r.d v d=t d:=by
         cases hrd:r.d with
         | none=>rfl
         | some d' =>
          simp only [updO,upd]
          rw [if_neg]
          rintro rfl
          exact e hrd
        rw [this]
        refine VR.mono p1 _ _ (hS.tr.vals d ?_)
        rintro ⟨p,q,q1,q2,q3,q4⟩
        refine hd ⟨p,q,List.mem_cons_of_mem _ q1,?_,q3,q4⟩
        rw [Array.getElem?_toList] at q2 ⊢
        rw [set_get _ _ _ hu]
        split
        ·rename_i e2
         subst e2
         exact absurd q1 hD
        ·exact q2
      ·cases hd:r.d<;>simp [Act.put,hS.tr.defers]
end Go.Proofs.YtepeokaplbbpoaaGreat.B

namespace Go.Proofs.YtepeokaplbbpoaaGreat.B
open Go.RowKit
set_option linter.unusedVariables false
set_option linter.unusedSimpArgs false
def cParts (place:Nat->Option (Nat × Nat)):List (Nat × Operand)->Option (List (Nat × Nat × Od))
 | []=>some []
 | (i,x) :: xs=>(place i).bind fun p=>(cOd x).bind fun y=>(cParts place xs).map fun ys=>(p.1,p.2,y) :: ys
theorem cParts_ok {place:Nat->Option (Nat × Nat)}:∀ {xs:List (Nat × Operand)} {ys:List (Nat × Nat × Od)},cParts place xs=some ys->PartsOK place xs ys
 | [],ys,h=>by
  simp only [cParts,Option.some.injEq] at h
  subst h
  trivial
 | (i,x) :: xs,ys,h=>by
  simp only [cParts,Option.bind_eq_some_iff,Option.map_eq_some_iff] at h
  obtain⟨⟨off,n⟩,h1,y,h2,zs,h3,rfl⟩:=h
  exact⟨h1,h2,cParts_ok h3⟩
def shape (P:Program) (f:Field):Nat :=
 match P.underlying f.type with
 | some (.int _)=>0
 | some .bool=>1
 | _=>2
def cEq (P:Program) (b:BinOp) (ne:Bool) (T:TypeId) (x y:Operand):Option AOp :=
 match P.underlying T with
 | some .bool=>(cOd x).bind fun x'=>(cOd y).map fun y'=>.eqb ne x' y'
 | some (.slice _)=>match y with
  | .const c=>(cOd x).bind fun x'=>(cOd (.const c)).map fun y'=>.eqn 0 ne x' y'
  | _=>none
 | some (.interface _)=>match y with
  | .const c=>(cOd x).bind fun x'=>(cOd (.const c)).map fun y'=>.eqn 1 ne x' y'
  | _=>none
 | some (.struct fs) =>
  if P.stoodInHeld T=false/\P.eqGuardType P.depth T=false/\flatF P (P.fieldsOf T).toList 0 ((P.fieldsOf T).toList.map (shape P))=true then
   (cOd x).bind fun x'=>(cOd y).map fun y'=>.eqs ne ((P.fieldsOf T).toList.map (shape P)) x' y' else none
 | _=>(cOd x).bind fun x'=>(cOd y).map fun y'=>.bin b x' y'
def cCall (P:Program) (c:Call):Option AOp :=
 match c.callee,c.args,c.argTypes with
 | .builtin .len,⟨[x]⟩,⟨[T]⟩=>match P.underlying T with
  | some .string=>(cOd x).map .lns
  | some (.slice _)=>(cOd x).map .len
  | _=>none
 | .builtin .cap,⟨[x]⟩,⟨[T]⟩=>match P.underlying T with
  | some (.slice _)=>(cOd x).map .cap
  | _=>none
 | .builtin .clear,⟨[x]⟩,⟨[T]⟩=>match P.underlying T with
  | some (.slice e)=>(P.info? e).bind fun i=>i.zero.bind fun z=>match z.cells with
   | ⟨[c]⟩=>(cVal c).bind fun z'=>(cOd x).map fun x'=>.clr z' x'
   | _=>none
  | _=>none
 | .builtin .max,⟨[x,y]⟩,_=>(cOd x).bind fun x'=>(cOd y).map fun y'=>.mx x' y'
 | .builtin .min,⟨[x,y]⟩,_=>(cOd x).bind fun x'=>(cOd y).map fun y'=>.mn x' y'
 | .builtin .append,⟨[x,y]⟩,⟨[T,T']⟩=>if T=T' then match P.underlying T with
   | some (.slice e)=>(P.info? e).bind fun i=>i.zero.bind fun z=>if z.cells.size=i.size/\0<i.size/\0<i.bytes then (cOd x).bind fun x'=>(cOd y).map fun y'=>.app e i.size i.bytes x' y' else none
   | _=>none else match P.underlying T,P.underlying T' with
   | some (.slice e),some (.int _)=>(P.info? e).bind fun i=>i.zero.bind fun z=>(z.cells.toList.mapM cVal).bind fun zs=>if zs.length=i.size/\0<i.size/\0<i.bytes then (cOd x).bind fun x'=>(cOd y).map fun y'=>.appz e i.size i.bytes zs x' y' else none
   | _,_=>none
 | .value (.func f),⟨xs⟩,_=>(xs.mapM cOd).map fun xs'=>.call f xs'
 | .value x,⟨xs⟩,_=>(cOd x).bind fun x'=>(xs.mapM cOd).map fun xs'=>.calv x' xs'
 | _,_,_=>none
def cOp (P:Program) (o:Oper):Option AOp :=
 match o.op with
 | .move x=>(cOd x).map .mv
 | .assign x=>(cOd x).map .mv
 | .pick c a b=>(cOd c).bind fun c'=>(cOd a).bind fun a'=>(cOd b).map fun b'=>.pick c' a' b'
 | .alloc T=>(P.info? T).bind fun i=>i.zero.bind fun z=>(z.cells.toList.mapM cVal).map fun zs=>.alloc T zs
 | .box T x=>(P.info? T).bind fun i=>(cOd x).map fun x'=>.box T i.size x'
 | .build T xs=>match P.underlying T with
  | some (.struct fs)=>(P.info? T).bind fun i=>i.zero.bind fun z=>(fs.toList.mapM (fun f=>(P.info? f.type).map fun i=>(f.offset,i.size))).bind fun places =>
    (z.cells.toList.mapM cVal).bind fun zs=>(cParts (places.toArray[·]?) xs.toList).map fun ys=>.build zs ys
  | _=>none
 | .buildSlice T len xs=>match P.underlying T with
  | some (.slice e)=>(P.info? e).bind fun i=>i.zero.bind fun z=>if len * i.size<=16777216 then
    (((Array.range (len * i.size)).map (z.cells[· % z.cells.size]!)).toList.mapM cVal).bind fun zs=>(cParts (fun k=>some (k * i.size,i.size)) xs.toList).map fun ys=>.lit e i.size len zs ys else none
  | _=>none
 | .load T x=>match P.underlying T with
  | some d=>if aggB d=true then (P.info? T).bind fun i=>(cOd x).map fun x'=>.lda i.size x' else (cOd x).map .ld
  | none=>none
 | .store T x y=>(P.info? T).bind fun i=>(cOd x).bind fun x'=>(cOd y).map fun y'=>.st i.size x' y'
 | .nilCheck x=>(cOd x).map .nck
 | .binOp .eql T x y _=>cEq P .eql false T x y
 | .binOp .neq T x y _=>cEq P .neq true T x y
 | .binOp b _ x y _=>(cOd x).bind fun x'=>(cOd y).map fun y'=>.bin b x' y'
 | .unOp .not _ x=>(cOd x).map .not
 | .unOp .neg _ x=>(cOd x).map .neg
 | .convert S T x=>match P.underlying S,P.underlying T with
  | some (.int _),some (.int k)=>(cOd x).map fun x'=>.cv k x'
  | some (.slice e),some .string=>match P.underlying e with
   | some (.int .u8)=>(cOd x).map .cvs
   | _=>none
  | _,_=>none
 | .makeFunc (.func f) ⟨[]⟩ xs=>(xs.toList.mapM cOd).map fun xs'=>.fn f xs'
 | .makeSlice T x y=>match P.underlying T with
  | some (.slice e)=>(P.info? e).bind fun i=>i.zero.bind fun z=>(z.cells.toList.mapM cVal).bind fun zs =>
    if zs.length=i.size/\0<i.bytes then match x,y with
     | .tmp a,.tmp b=>if a=b then some (.mk e i.size i.bytes zs (.t a)) else none
     | .const (.int .i64 a),.const (.int .i64 b)=>if a=b then some (.mk e i.size i.bytes zs (.c (.int .i64 a))) else none
     | _,_=>none
    else none
  | _=>none
 | .slice T x lo hi none=>match P.underlying T with
  | some .string=>(cOd x).bind fun x'=>(cOO lo).bind fun l=>(cOO hi).map fun h=>.cuts x' l h
  | some (.slice e)=>(P.info? e).bind fun i=>(cOd x).bind fun x'=>(cOO lo).bind fun l=>(cOO hi).map fun h=>.cut i.size x' l h
  | _=>none
 | .fieldAddr T x k=>match P.underlying T with
  | some (.struct fs)=>(fs[k]?).bind fun f=>(P.info? f.type).bind fun i=>if i.size≠0 then (cOd x).map fun x'=>.fa f.offset x' else none
  | _=>none
 | .field T x k=>match P.underlying T with
  | some (.struct fs)=>(fs[k]?).bind fun f=>match P.underlying f.type with
   | some d=>if aggB d=false then (cOd x).map fun x'=>.fd f.offset 0 x' else none
   | none=>none
  | _=>none
 | .indexAddr T x y=>match P.underlying T with
  | some (.slice e)=>(P.info? e).bind fun i=>(cOd x).bind fun x'=>(cOd y).map fun y'=>.ia i.size x' y'
  | _=>none
 | .index T x y=>match P.underlying T with
  | some .string=>(cOd x).bind fun x'=>(cOd y).map fun y'=>.ix x' y'
  | _=>none
 | .extract x i=>(cOd x).map fun x'=>.ext i x'
 | .call c=>cCall P c
 | _=>none
variable {P:Program} {E:Env}
theorem cEq_ok {o:Oper} {b:BinOp} {ne:Bool} {T T2:TypeId} {x y:Operand} {ao:AOp} (ho:o.op=.binOp b T x y T2) (hb:b=if ne then .neq else .eql) (h:cEq P b ne T x y=some ao):OpS P E o ao:=by
 unfold cEq at h
 split at h
 ·rename_i hT0
  simp only [Option.bind_eq_some_iff,Option.map_eq_some_iff] at h
  obtain⟨x',hx,y',hy,rfl⟩:=h
  exact (k_eqb ho hb hT0 hx hy).opS rfl
 ·rename_i e hT0
  split at h
  ·simp only [Option.bind_eq_some_iff,Option.map_eq_some_iff] at h
   obtain⟨x',hx,y',hy,rfl⟩:=h
   exact (k_eqn ho hb hT0 (.inl ⟨rfl,_,rfl⟩) hx hy).opS rfl
  ·cases h
 ·rename_i e hT0
  split at h
  ·simp only [Option.bind_eq_some_iff,Option.map_eq_some_iff] at h
   obtain⟨x',hx,y',hy,rfl⟩:=h
   exact (k_eqn ho hb hT0 (.inr ⟨rfl,_,rfl⟩) hx hy).opS rfl
  ·cases h
 ·rename_i fs hT0
  split at h
  ·rename_i hc
   simp only [Option.bind_eq_some_iff,Option.map_eq_some_iff] at h
   obtain⟨x',hx,y',hy,rfl⟩:=h
   have hT1:P.underlying T=some (.struct (P.fieldsOf T)):=by rw [hT0]; simp [Program.fieldsOf,hT0]
   exact (k_eqs ho hb hT1 hc.1 hc.2.1 hc.2.2 hx hy).opS rfl
  ·cases h
 ·simp only [Option.bind_eq_some_iff,Option.map_eq_some_iff] at h
  obtain⟨x',hx,y',hy,rfl⟩:=h
  exact (k_bin ho hx hy).opS rfl
theorem cCall_ok {o:Oper} {c:Call} {ao:AOp} (ho:o.op=.call c) (h:cCall P c=some ao):OpS P E o ao:=by
 obtain⟨callee,args,argTypes⟩:=c
 unfold cCall at h
 simp only at h
 split at h
 ·rename_i x T
  split at h
  ·rename_i hT0
   simp only [Option.map_eq_some_iff] at h
   obtain⟨x',hx,rfl⟩:=h
   exact (k_lns ho hT0 hx).opS rfl
  ·rename_i e hT0
   simp only [Option.map_eq_some_iff] at h
   obtain⟨x',hx,rfl⟩:=h
   exact (k_len ho hT0 hx).opS rfl
  ·cases h
 ·rename_i x T
  split at h
  ·rename_i e hT0
   simp only [Option.map_eq_some_iff] at h
   obtain⟨x',hx,rfl⟩:=h
   exact (k_cap ho hT0 hx).opS rfl
  ·cases h
 ·rename_i x T
  split at h
  ·rename_i e hT0
   simp only [Option.bind_eq_some_iff] at h
   obtain⟨i,hi,z,hz,h⟩:=h
   split at h
   ·rename_i c hc
    simp only [Option.bind_eq_some_iff,Option.map_eq_some_iff] at h
    obtain⟨z',hz',x',hx,rfl⟩:=h
    exact (k_clr ho hT0 hi hz hc hz' hx).opS rfl
   ·cases h
  ·cases h
 ·simp only [Option.bind_eq_some_iff,Option.map_eq_some_iff] at h
  obtain⟨x',hx,y',hy,rfl⟩:=h
  exact (k_mx ho hx hy).opS rfl
 ·simp only [Option.bind_eq_some_iff,Option.map_eq_some_iff] at h
  obtain⟨x',hx,y',hy,rfl⟩:=h
  exact (k_mn ho hx hy).opS rfl
 ·split at h
  ·rename_i eT
   subst eT
   split at h
   ·rename_i e hT0
    simp only [Option.bind_eq_some_iff] at h
    obtain⟨i,hi,z,hz,h⟩:=h
    split at h
    ·rename_i hc
     simp only [Option.bind_eq_some_iff,Option.map_eq_some_iff] at h
     obtain⟨x',hx,y',hy,rfl⟩:=h
     exact (k_app (ty:=0) ho hT0 hi hz hc.1 hc.2.1 hc.2.2 hx hy).opS rfl
    ·cases h
   ·cases h
  ·split at h
   ·rename_i e q hT0 hT1
    simp only [Option.bind_eq_some_iff] at h
    obtain⟨i,hi,z,hz,zs,hzs,h⟩:=h
    split at h
    ·rename_i hc
     simp only [Option.bind_eq_some_iff,Option.map_eq_some_iff] at h
     obtain⟨x',hx,y',hy,rfl⟩:=h
     exact (k_appz ho hT0 hT1 hi hz hzs hc.1 hc.2.1 hc.2.2 hx hy).opS rfl
    ·cases h
   ·cases h
 ·simp only [Option.map_eq_some_iff] at h
  obtain⟨xs',hx,rfl⟩:=h
  exact s_call ho hx
 ·simp only [Option.bind_eq_some_iff,Option.map_eq_some_iff] at h
  obtain⟨x',hx0,xs',hx,rfl⟩:=h
  exact s_calv ho hx0 hx
 ·cases h
theorem bad_ok {o:Oper}:OpS P E o .bad:=by
 intro t H K h
 simp [stepK,stepA,optK] at h
def cOpB (P:Program) (o:Oper):AOp:=(cOp P o).getD .bad
theorem cOp_ok {o:Oper} {ao:AOp} (h:cOp P o=some ao):OpS P E o ao:=by
 unfold cOp at h
 split at h
 ·rename_i x ho
  simp only [Option.map_eq_some_iff] at h
  obtain⟨x',hx,rfl⟩:=h
  exact (k_mv (.inl ho) hx).opS rfl
 ·rename_i x ho
  simp only [Option.map_eq_some_iff] at h
  obtain⟨x',hx,rfl⟩:=h
  exact (k_mv (.inr ho) hx).opS rfl
 ·rename_i c a b ho
  simp only [Option.bind_eq_some_iff,Option.map_eq_some_iff] at h
  obtain⟨c',hc,a',ha,b',hb,rfl⟩:=h
  exact (k_pick ho hc ha hb).opS rfl
 ·rename_i T ho
  simp only [Option.bind_eq_some_iff,Option.map_eq_some_iff] at h
  obtain⟨i,hi,z,hz,zs,hzs,rfl⟩:=h
  exact (k_alloc ho hi hz hzs).opS rfl
 ·rename_i T x ho
  simp only [Option.bind_eq_some_iff,Option.map_eq_some_iff] at h
  obtain⟨i,hi,x',hx,rfl⟩:=h
  exact (k_box ho hx).opS rfl
 ·rename_i T xs ho
  split at h
  ·rename_i fs hT0
   simp only [Option.bind_eq_some_iff,Option.map_eq_some_iff] at h
   obtain⟨i,hi,z,hz,places,hpl,zs,hzs,ys,hys,rfl⟩:=h
   exact (k_build ho hi hz hT0 hpl hzs (cParts_ok hys)).opS rfl
  ·cases h
 ·rename_i T len xs ho
  split at h
  ·rename_i e hT0
   simp only [Option.bind_eq_some_iff] at h
   obtain⟨i,hi,z,hz,h⟩:=h
   split at h
   ·rename_i hs
    simp only [Option.bind_eq_some_iff,Option.map_eq_some_iff] at h
    obtain⟨zs,hzs,ys,hys,rfl⟩:=h
    exact (k_lit ho hT0 hi hz hs hzs (cParts_ok hys)).opS rfl
   ·cases h
  ·cases h
 ·rename_i T x ho
  split at h
  ·rename_i d hT0
   split at h
   ·rename_i hd
    simp only [Option.bind_eq_some_iff,Option.map_eq_some_iff] at h
    obtain⟨i,hi,x',hx,rfl⟩:=h
    exact (k_lda ho hT0 hd hi hx).opS rfl
   ·rename_i hd
    simp only [Option.map_eq_some_iff] at h
    obtain⟨x',hx,rfl⟩:=h
    exact (k_ld ho hT0 (by simpa using hd) hx).opS rfl
  ·cases h
 ·rename_i T x y ho
  simp only [Option.bind_eq_some_iff,Option.map_eq_some_iff] at h
  obtain⟨i,hi,x',hx,y',hy,rfl⟩:=h
  exact (k_st ho hi hx hy).opS rfl
 ·rename_i x ho
  simp only [Option.map_eq_some_iff] at h
  obtain⟨x',hx,rfl⟩:=h
  exact (k_nck ho hx).opS rfl
 ·rename_i T x y T2 ho
  exact cEq_ok ho rfl h
 ·rename_i T x y T2 ho
  exact cEq_ok ho rfl h
 ·rename_i b T x y T2 _ _ ho
  simp only [Option.bind_eq_some_iff,Option.map_eq_some_iff] at h
  obtain⟨x',hx,y',hy,rfl⟩:=h
  exact (k_bin ho hx hy).opS rfl
 ·rename_i T x ho
  simp only [Option.map_eq_some_iff] at h
  obtain⟨x',hx,rfl⟩:=h
  exact (k_not ho hx).opS rfl
 ·rename_i T x ho
  simp only [Option.map_eq_some_iff] at h
  obtain⟨x',hx,rfl⟩:=h
  exact (k_neg ho hx).opS rfl
 ·rename_i S T x ho
  split at h
  ·rename_i k0 k hS hT0
   simp only [Option.map_eq_some_iff] at h
   obtain⟨x',hx,rfl⟩:=h
   exact (k_cv ho hS hT0 hx).opS rfl
  ·rename_i e hS hT0
   split at h
   ·rename_i he
    simp only [Option.map_eq_some_iff] at h
    obtain⟨x',hx,rfl⟩:=h
    exact (k_cvs ho hS he hT0 hx).opS rfl
   ·cases h
  ·cases h
 ·rename_i f xs ho
  simp only [Option.map_eq_some_iff] at h
  obtain⟨xs',hx,rfl⟩:=h
  exact (k_fn ho hx).opS rfl
 ·rename_i T x y ho
  split at h
  ·rename_i e hT0
   simp only [Option.bind_eq_some_iff] at h
   obtain⟨i,hi,z,hz,zs,hzs,h⟩:=h
   split at h
   ·rename_i hc
    split at h
    ·split at h
     ·rename_i a b eab
      subst eab
      cases h
      exact (k_mk ho rfl hT0 hi hz hzs hc.1 hc.2 rfl).opS rfl
     ·cases h
    ·split at h
     ·rename_i a b eab
      subst eab
      cases h
      exact (k_mk ho rfl hT0 hi hz hzs hc.1 hc.2 rfl).opS rfl
     ·cases h
    ·cases h
   ·cases h
  ·cases h
 ·rename_i T x lo hi ho
  split at h
  ·rename_i hT0
   simp only [Option.bind_eq_some_iff,Option.map_eq_some_iff] at h
   obtain⟨x',hx,l,hl,hh,hhi,rfl⟩:=h
   exact (k_cuts ho hT0 hx hl hhi).opS rfl
  ·rename_i e hT0
   simp only [Option.bind_eq_some_iff,Option.map_eq_some_iff] at h
   obtain⟨i,hi0,x',hx,l,hl,hh,hhi,rfl⟩:=h
   exact (k_cut ho hT0 hi0 hx hl hhi).opS rfl
  ·cases h
 ·rename_i T x k ho
  split at h
  ·rename_i fs hT0
   simp only [Option.bind_eq_some_iff] at h
   obtain⟨f,hf,i,hi,h⟩:=h
   split at h
   ·rename_i hz
    simp only [Option.map_eq_some_iff] at h
    obtain⟨x',hx,rfl⟩:=h
    exact (k_fa ho hT0 hf hi hz hx).opS rfl
   ·cases h
  ·cases h
 ·rename_i T x k ho
  split at h
  ·rename_i fs hT0
   simp only [Option.bind_eq_some_iff] at h
   obtain⟨f,hf,h⟩:=h
   split at h
   ·rename_i d hd
    split at h
    ·rename_i hagg
     simp only [Option.map_eq_some_iff] at h
     obtain⟨x',hx,rfl⟩:=h
     exact (k_fd ho hT0 hf hd hagg hx).opS rfl
    ·cases h
   ·cases h
  ·cases h
 ·rename_i T x y ho
  split at h
  ·rename_i e hT0
   simp only [Option.bind_eq_some_iff,Option.map_eq_some_iff] at h
   obtain⟨i,hi,x',hx,y',hy,rfl⟩:=h
   exact (k_ia ho hT0 hi hx hy).opS rfl
  ·cases h
 ·rename_i T x y ho
  split at h
  ·rename_i hT0
   simp only [Option.bind_eq_some_iff,Option.map_eq_some_iff] at h
   obtain⟨x',hx,y',hy,rfl⟩:=h
   exact (k_ix ho hT0 hx hy).opS rfl
  ·cases h
 ·rename_i x i ho
  simp only [Option.map_eq_some_iff] at h
  obtain⟨x',hx,rfl⟩:=h
  exact (k_ext ho hx).opS rfl
 ·rename_i c ho
  exact cCall_ok ho h
 ·cases h
end Go.Proofs.YtepeokaplbbpoaaGreat.B

namespace Go.Proofs.YtepeokaplbbpoaaGreat.B
open Go.RowKit
set_option linter.unusedVariables false
set_option linter.unusedSimpArgs false
def cGuard (ops:Array Oper):Option (Nat × Bool)->Option (Option (Nat × Bool))
 | none=>some none
 | some (g,b)=>(ops[g]?).bind fun o=>o.dst.map fun d=>some (d,b)
def dOk (nt:Nat):Option Nat->Bool
 | some d=>decide (d<nt)
 | none=>true
def cRO (P:Program) (nt:Nat) (ops:Array Oper) (o:Oper):Option RO :=
 some (cOpB P o) |>.bind fun op=>(cGuard ops o.guard).bind fun g =>
  if dOk nt o.dst=true then some { d:=o.dst,op,g,after:=(o.after.toList.filter (Region.binds .any)).map (·.on) } else none
def cROs (P:Program) (nt:Nat) (ops:Array Oper):List Oper->Option (List RO)
 | []=>some []
 | o :: os=>(cRO P nt ops o).bind fun r=>(cROs P nt ops os).map fun rs=>r :: rs
def comp (P:Program) (nt:Nat):Code->Option CC
 | .skip=>some .skip
 | .region _ ops false=>(cROs P nt ops ops.toList).map fun l=>.plan (seqPlan l)
 | .region _ ops true=>(cROs P nt ops ops.toList).bind fun l=>if good l=true then some (.plan (mkPlan (2 * l.length+1) l [])) else none
 | .seq a b=>(comp P nt a).bind fun a'=>(comp P nt b).map fun b'=>.seq a' b'
 | .cond c a b=>(cOd c).bind fun c'=>(comp P nt a).bind fun a'=>(comp P nt b).map fun b'=>.cond c' a' b'
 | .block id c=>(comp P nt c).map fun c'=>.block id c'
 | .loop c=>(comp P nt c).map .loop
 | .exit id=>some (.exit id)
 | .ret=>some .ret
 | _=>none
inductive RV where
 | t (d:Nat)
 | c (d:Nat)
 | ca (d n:Nat)
structure CF where
 nt:Nat
 body:CC
 res:List RV
def cRV (P:Program):ResultVar->Option RV
 | .tmp d=>some (.t d)
 | .cell a T=>match P.underlying T with
  | some d=>if aggB d=true then (P.info? T).map fun i=>.ca a i.size else some (.c a)
  | none=>none
def cRVs (P:Program):List ResultVar->Option (List RV)
 | []=>some []
 | r :: rs=>(cRV P r).bind fun x=>(cRVs P rs).map fun xs=>x :: xs
def compF (P:Program) (f:Nat):Option CF :=
 (P.funcs[f]?).bind fun fn => fn.body.bind fun c => if (fn.name == "runtime.NumGoroutine") = false then
  (comp P fn.ntmps c).bind fun body=>(cRVs P fn.results.toList).map fun res=>{ nt:=fn.ntmps,body,res } else none
def rvA (t:Tm) (H:Hp):RV->Option AV
 | .t d=>some (t d)
 | .c d=>(stepA t H (.ld (.t d))).map (·.1)
 | .ca d n=>(stepA t H (.lda n (.t d))).map (·.1)
def rvsA (t:Tm) (H:Hp):List RV->Option (List AV)
 | []=>some []
 | r :: rs=>(rvA t H r).bind fun v=>(rvsA t H rs).map fun vs=>v :: vs
def resA (t:Tm) (H:Hp) (rs:List RV):Option AV :=
 match rs with
 | [r]=>rvA t H r
 | rs=>(rvsA t H rs).map .tu
def endX (res:List RV) (R:AV->Hp->Prop):Ex->Tm->Hp->Prop
 | .exit _,_,_=>False
 | _,t,H=>match resA t H res with
  | some v=>R v H
  | none=>False
def initT (args:List AV):Tm:=fun d=>args.getD d .un
variable {P:Program} {E:Env}
theorem cRO_ok {nt:Nat} {ops:Array Oper} {o:Oper} {r:RO} (h:cRO P nt ops o=some r):RoOK P E nt ops o r:=by
 unfold cRO at h
 simp only [Option.bind_eq_some_iff] at h
 obtain⟨op,hop,g,hg,h⟩:=h
 have hopS:OpS P E o op:=by
  cases hop
  unfold cOpB
  cases hc:cOp P o with
  | none=>exact bad_ok
  | some op=>exact cOp_ok hc
 split at h
 ·rename_i hd
  cases h
  refine⟨rfl,hopS,?_,fun d hdd=>?_,fun j=>?_⟩
  ·unfold cGuard at hg
   split at hg
   ·rename_i e
    cases hg
    exact .inl ⟨e,rfl⟩
   ·rename_i g0 b e
    simp only [Option.bind_eq_some_iff,Option.map_eq_some_iff] at hg
    obtain⟨og,hog,d,hd,rfl⟩:=hg
    exact .inr ⟨g0,b,og,d,e,hog,hd,rfl⟩
  ·simp only at hdd
   rw [hdd] at hd
   simpa [dOk] using hd
  ·simp only [List.mem_map,List.mem_filter,Array.mem_toList_iff]
   constructor
   ·rintro ⟨e,⟨h1,h2⟩,h3⟩
    exact⟨e,h1,h2,h3⟩
   ·rintro ⟨e,h1,h2,h3⟩
    exact⟨e,⟨h1,h2⟩,h3⟩
 ·cases h
theorem cROs_ok {nt:Nat} {ops:Array Oper}:∀ {os:List Oper} {l:List RO},cROs P nt ops os=some l->l.length=os.length/\∀ (i:Nat) (o:Oper) (r:RO),os[i]?=some o->l[i]?=some r->RoOK P E nt ops o r
 | [],l,h=>by
  simp only [cROs,Option.some.injEq] at h
  subst h
  exact⟨rfl,fun i o r h=>by simp at h⟩
 | o :: os,l,h=>by
  simp only [cROs,Option.bind_eq_some_iff,Option.map_eq_some_iff] at h
  obtain⟨r,hr,rs,hrs,rfl⟩:=h
  obtain⟨h1,h2⟩:=cROs_ok hrs
  refine⟨by simp [h1],fun i o' r' ho' hr'=>?_⟩
  cases i with
  | zero =>
   have e1:o=o':=by simpa using ho'
   have e2:r=r':=by simpa using hr'
   subst e1 e2
   exact cRO_ok hr
  | succ i=>exact h2 i o' r' (by simpa using ho') (by simpa using hr')
theorem AC_le (f:Nat) (args:List AV) (H:Hp) (K K':AV->Hp->Prop) (hk:∀ v H',K v H'->K' v H') (h:AC P E f args H K):AC P E f args H K' :=
 ⟨h.1,fun φ w vals hv hH=>Calls.mono (h.2 φ w vals hv hH) (fun e w' he=>by
  cases e with
  | returned u =>
   obtain⟨φ',H',v,p1,p2,p3,p4,p5⟩:=he
   exact⟨φ',H',v,p1,p2,p3,p4,hk _ _ p5⟩
  | panicked c=>exact he
  | outgrown=>exact he)⟩
def exOf:Ex->Exit
 | .normal=>.normal
 | .exit id=>.exit id
 | .ret=>.ret
structure Rel (E:Env) (n:Nat) (φ0:Phi) (w0:World) (t:Tm) (H:Hp) (φ:Phi) (a:Act) (w:World):Prop where
 tr:TR φ t n a
 hr:HR E φ H w
 below:Below E.B0 w0 w
 le:PLe φ0 φ
def After (E:Env) (n:Nat) (φ0:Phi) (w0:World) (Q:Ex->Tm->Hp->Prop) (QQ:Exit->Act->World->Prop):Prop :=
 ∀ e t H φ a w,Rel E n φ0 w0 t H φ a w->Q e t H->QQ (exOf e) a w
theorem W_sound (hm:P.follows .mixedOrders=true) {nt n:Nat} (hn:nt<=n) {φ0:Phi} {w0:World}:∀ (code:Code) (c:CC),comp P nt code=some c->∀ (Q:Ex->Tm->Hp->Prop) (t:Tm) (H:Hp),W (AC P E) c Q t H ->
  ∀ (φ:Phi) (a:Act) (w:World),Rel E n φ0 w0 t H φ a w->∀ (QQ:Exit->Act->World->Prop),After E n φ0 w0 Q QQ->code.wp P QQ a w:=by
 intro code
 induction code with
 | skip =>
  intro c hc Q t H h φ a w hr QQ hq
  cases hc
  exact wp_skip (hq .normal t H φ a w hr h)
 | region id ops draw =>
  intro c hc Q t H h φ a w hr QQ hq
  cases draw with
  | false =>
   simp only [comp,Option.map_eq_some_iff] at hc
   obtain⟨l,hl,rfl⟩:=hc
   obtain⟨h1,h2⟩:=cROs_ok (E:=E) hl
   refine wp_region (ops_sound (K:=Q .normal) hn (fun φ t H a w p1 p2 p3 p4 p5=>hq .normal t H φ a w ⟨p1,p2,p3,p4⟩ p5) _ l (fun p hp=>?_) (by simp [h1]) t H (seqPlan_ok AC_le l t H _ h) φ a w hr.tr hr.hr hr.below hr.le)
   obtain⟨k,hk⟩:=List.getElem?_of_mem hp
   obtain⟨i,r⟩:=p
   rw [List.getElem?_zip_eq_some] at hk
   obtain⟨k1,k2⟩:=hk
   have e:k=i/\k<ops.size:=by
    rw [List.getElem?_eq_some_iff] at k1
    obtain⟨q1,q2⟩:=k1
    simp at q1 q2
    exact⟨q2,q1⟩
   obtain⟨rfl,hlt⟩:=e
   exact⟨ops[k],by simp [hlt],h2 k _ r (by simp [hlt]) k2⟩
  | true =>
   simp only [comp,Option.bind_eq_some_iff] at hc
   obtain⟨l,hl,hc⟩:=hc
   split at hc
   ·rename_i hg
    cases hc
    obtain⟨h1,h2⟩:=cROs_ok (E:=E) hl
    have h1':l.length=ops.size:=by simpa using h1
    refine wp_region_any hm (sim hg h1' hn (fun i o r ho hr'=>h2 i o r (by simpa using ho) hr') (K:=Q .normal) (fun φ t H a w p1 p2 p3 p4 p5=>hq .normal t H φ a w ⟨p1,p2,p3,p4⟩ p5) _ [] t H (mkPlan_ok AC_le _ l [] t H _ h) ops.size _ φ a _ ?_ ⟨by simp [h1'],fun i hi=>?_,by simp,by simp,fun i r hi=>?_,by simp,⟨hr.tr.size,fun d _=>hr.tr.vals d,hr.tr.defers⟩,hr.hr.drew⟩ (hr.below.trans ⟨rfl,rfl,rfl,Nat.le_refl _,fun _ _=>rfl⟩) hr.le)
    ·have:∀ k,cntF (List.replicate k false)=k:=by
      intro k
      induction k with
      | zero=>rfl
      | succ k ih=>simp [List.replicate_succ,cntF] at ih ⊢
     simp [this]
    ·simp [Array.getElem?_replicate] at hi
    ·simp [Array.getElem?_replicate] at hi
   ·cases hc
 | seq x y ihx ihy =>
  intro c hc Q t H h φ a w hr QQ hq
  simp only [comp,Option.bind_eq_some_iff,Option.map_eq_some_iff] at hc
  obtain⟨a',ha,b',hb,rfl⟩:=hc
  refine wp_seq (ihx a' ha _ t H h φ a w hr _ (fun e t1 H1 φ1 a1 w1 hr1 h1=>?_))
  cases e with
  | normal=>exact ihy b' hb Q t1 H1 h1 φ1 a1 w1 hr1 QQ hq
  | exit id=>exact hq (.exit id) t1 H1 φ1 a1 w1 hr1 h1
  | ret=>exact hq .ret t1 H1 φ1 a1 w1 hr1 h1
 | cond x y z ihy ihz =>
  intro c hc Q t H h φ a w hr QQ hq
  simp only [comp,Option.bind_eq_some_iff,Option.map_eq_some_iff] at hc
  obtain⟨c',hc',a',ha,b',hb,rfl⟩:=hc
  have hv:=hr.tr.ev hc'
  simp only [W] at h
  split at h
  ·rename_i e
   rw [e] at hv
   exact wp_cond_true hv (ihy a' ha Q t H h φ a w hr QQ hq)
  ·rename_i e
   rw [e] at hv
   exact wp_cond_false hv (ihz b' hb Q t H h φ a w hr QQ hq)
  ·exact h.elim
 | block id x ih =>
  intro c hc Q t H h φ a w hr QQ hq
  simp only [comp,Option.map_eq_some_iff] at hc
  obtain⟨c',hc',rfl⟩:=hc
  refine wp_block (ih c' hc' _ t H h φ a w hr _ (fun e t1 H1 φ1 a1 w1 hr1 h1=>?_))
  cases e with
  | normal=>exact hq .normal t1 H1 φ1 a1 w1 hr1 h1
  | exit id' =>
   simp only [inB] at h1
   simp only [exOf,Exit.inBlock]
   split
   ·rename_i e
    rw [if_pos e] at h1
    exact hq .normal t1 H1 φ1 a1 w1 hr1 h1
   ·rename_i e
    rw [if_neg e] at h1
    exact hq (.exit id') t1 H1 φ1 a1 w1 hr1 h1
  | ret=>exact hq .ret t1 H1 φ1 a1 w1 hr1 h1
 | loop x ih =>
  intro c hc Q t H h φ a w hr QQ hq
  simp only [comp,Option.map_eq_some_iff] at hc
  obtain⟨c',hc',rfl⟩:=hc
  obtain⟨I,μ,h0,hround⟩:=h
  intro b k cs
  have key:∀ m t H φ a w,μ t H=m->I t H->Rel E n φ0 w0 t H φ a w ->
    ∃ e a' w',QQ e a' w'/\Arrives P (lone (b.at a (.code x :: .inLoop x :: k)) cs w) b k cs e a' w':=by
   intro m
   induction m using Nat.strongRecOn with
   | _ m ihm =>
    intro t H φ a w hμ hI hr
    have hwp:=ih c' hc' _ t H (hround t H hI) φ a w hr (fun e a1 w1=>match e with
     | .normal=>∃ t1 H1 φ1,Rel E n φ0 w0 t1 H1 φ1 a1 w1/\I t1 H1/\μ t1 H1<μ t H
     | e=>QQ e a1 w1) (fun e t1 H1 φ1 a1 w1 hr1 h1=>by
      cases e with
      | normal=>exact⟨t1,H1,φ1,hr1,h1⟩
      | exit id=>exact hq (.exit id) t1 H1 φ1 a1 w1 hr1 h1
      | ret=>exact hq .ret t1 H1 φ1 a1 w1 hr1 h1)
    obtain⟨e,a₁,w₁,hqq,harr⟩:=hwp b (.inLoop x :: k) cs
    cases e with
    | normal =>
     obtain⟨t1,H1,φ1,hr1,hI1,hlt⟩:=hqq
     obtain⟨e₂,a₂,w₂,hq₂,harr₂⟩:=ihm (μ t1 H1) (hμ ▸ hlt) t1 H1 φ1 a₁ w₁ rfl hI1 hr1
     exact⟨e₂,a₂,w₂,hq₂,.of_steps (Steps.trans harr (.one step_inLoop)) harr₂⟩
    | exit id=>exact⟨_,a₁,w₁,hqq,.pass (x:=.inLoop x) rfl (fun _ _=>.inl (by simp)) harr⟩
    | goto l=>exact⟨_,a₁,w₁,hqq,.pass (x:=.inLoop x) rfl (fun _ _=>.inl (by simp)) harr⟩
    | ret=>exact⟨_,a₁,w₁,hqq,.pass (x:=.inLoop x) rfl (fun _ _=>.inl (by simp)) harr⟩
    | panic ch=>exact⟨_,a₁,w₁,hqq,.pass (x:=.inLoop x) rfl (fun _ _=>.inl (by simp)) harr⟩
    | outgrown=>exact⟨_,a₁,w₁,hqq,.pass (x:=.inLoop x) rfl (fun _ _=>.inl (by simp)) harr⟩
  obtain⟨e,a',w',hqq,harr⟩:=key _ t H φ a w rfl h0 hr
  exact⟨e,a',w',hqq,.of_steps (.one step_loop) harr⟩
 | exit id =>
  intro c hc Q t H h φ a w hr QQ hq
  cases hc
  exact wp_exit (hq (.exit id) t H φ a w hr h)
 | ret =>
  intro c hc Q t H h φ a w hr QQ hq
  cases hc
  exact wp_ret (hq .ret t H φ a w hr h)
 | _=>intro c hc; cases hc
end Go.Proofs.YtepeokaplbbpoaaGreat.B

namespace Go.Proofs.YtepeokaplbbpoaaGreat.B
open Go.RowKit
set_option linter.unusedVariables false
set_option linter.unusedSimpArgs false
variable {P:Program} {E:Env}
def rvSem (a:Act):ResultVar->Sem Value
 | .tmp t=>pure (a.tmps.getD t undef)
 | .cell b t=>do loadVar t (<- asAddr (a.tmps.getD b undef))
theorem results_eq (fn:Func) (a:Act):results fn a.tmps=(do
 let vs <- fn.results.mapM (rvSem a)
 pure (if h:vs.size=1 then vs[0] else .tuple vs)):=rfl
theorem rv_ok {r:ResultVar} {x:RV} (hc:cRV P r=some x) {t:Tm} {H:Hp} {v:AV} (hv:rvA t H x=some v) {φ:Phi} {n:Nat} {a:Act} {w:World} (hT:TR φ t n a) (hH:HR E φ H w) :
  ∃ u,VR φ v u/\(rvSem a r).run P w=.ok u w:=by
 cases r with
 | tmp d =>
  cases hc
  simp only [rvA,Option.some.injEq] at hv
  subst hv
  exact⟨_,hT.vals d,by simp [rvSem]⟩
 | cell b T =>
  have h1:=hT.vals b
  simp only [cRV] at hc
  split at hc
  ·rename_i d hT0
   split at hc
   ·rename_i hd
    simp only [Option.map_eq_some_iff] at hc
    obtain⟨i,hi,rfl⟩:=hc
    simp only [rvA,stepA,Od.ev,Option.map_eq_some_iff,Prod.exists,exists_and_right,exists_eq_right] at hv
    obtain⟨H',hs⟩:=hv
    split at hs
    ·rename_i oo j f e
     rw [e] at h1
     obtain⟨p,hp,h1'⟩:=h1
     simp only [Option.bind_eq_some_iff] at hs
     obtain⟨ob,hob,r,hr,hs⟩:=hs
     split at hs
     ·rename_i hle
      cases hs
      obtain⟨l,hl,hl2,hl3⟩:=hH.cells (Hp.at_some hob) hp hr f i.size hle
      have hrun:=run_loadCells_list (P:=P) (w:=w) _ l hl3
      rw [hl2] at hrun
      refine⟨.agg l.toArray,⟨l,rfl,hl⟩,?_⟩
      simp [rvSem,h1',asAddr,loadVar,run_isAgg hT0,hd,run_sizeOf hi,hrun]
     ·cases hs
    ·cases hs
   ·rename_i hd
    cases hc
    simp only [rvA,stepA,Od.ev,Option.map_eq_some_iff,Prod.exists,exists_and_right,exists_eq_right] at hv
    obtain⟨H',hs⟩:=hv
    split at hs
    ·rename_i oo j f e
     rw [e] at h1
     obtain⟨p,hp,h1'⟩:=h1
     simp only [Option.bind_eq_some_iff,Option.map_eq_some_iff] at hs
     obtain⟨ob,hob,r,hr,v',hv',hs⟩:=hs
     cases hs
     obtain⟨u,hu,hR,_⟩:=hH.cell (Hp.at_some hob) hp hr hv'
     exact⟨u,hR,by simp [rvSem,h1',asAddr,loadVar,run_isAgg hT0,hd,hu]⟩
    ·cases hs
  ·cases hc
theorem rvs_ok {t:Tm} {H:Hp} {φ:Phi} {n:Nat} {a:Act} {w:World} (hT:TR φ t n a) (hH:HR E φ H w):∀ (rs:List ResultVar) (xs:List RV) (vs:List AV),cRVs P rs=some xs->rvsA t H xs=some vs ->
  ∃ us,VRs φ vs us/\(rs.mapM (rvSem a)).run P w=.ok us w
 | [],xs,vs,hc,hv=>by
  cases hc
  cases hv
  exact⟨[],rfl,by simp⟩
 | r :: rs,xs,vs,hc,hv=>by
  simp only [cRVs,Option.bind_eq_some_iff,Option.map_eq_some_iff] at hc
  obtain⟨x,hx,xs',hxs,rfl⟩:=hc
  simp only [rvsA,Option.bind_eq_some_iff,Option.map_eq_some_iff] at hv
  obtain⟨v,hv,vs',hvs,rfl⟩:=hv
  obtain⟨u,h1,h2⟩:=rv_ok (P:=P) hx hv hT hH
  obtain⟨us,h3,h4⟩:=rvs_ok hT hH rs xs' vs' hxs hvs
  exact⟨u :: us,⟨u,us,rfl,h1,h3⟩,by rw [List.mapM_cons,Sem.run_bind,h2,Result.andThen_ok,Sem.run_bind,h4]; rfl⟩
theorem res_ok {fn:Func} {xs:List RV} (hc:cRVs P fn.results.toList=some xs) {t:Tm} {H:Hp} {v:AV} (hv:resA t H xs=some v) {φ:Phi} {n:Nat} {a:Act} {w:World} (hT:TR φ t n a) (hH:HR E φ H w) :
  ∃ u,VR φ v u/\(results fn a.tmps).run P w=.ok u w:=by
 have hlen:∀ (rs:List ResultVar) (xs:List RV),cRVs P rs=some xs->rs.length=xs.length:=by
  intro rs
  induction rs with
  | nil=>intro xs h; cases h; rfl
  | cons r rs ih =>
   intro xs h
   simp only [cRVs,Option.bind_eq_some_iff,Option.map_eq_some_iff] at h
   obtain⟨x,hx,xs',hxs,rfl⟩:=h
   simp [ih xs' hxs]
 have hrun:∀ (vs:List AV),rvsA t H xs=some vs->∃ us,VRs φ vs us/\(fn.results.mapM (rvSem a)).run P w=.ok us.toArray w:=by
  intro vs hvs
  obtain⟨us,h1,h2⟩:=rvs_ok (P:=P) hT hH _ xs vs hc hvs
  refine⟨us,h1,?_⟩
  rw [Array.mapM_eq_mapM_toList]
  show (List.mapM (rvSem a) fn.results.toList >>= (pure ∘ List.toArray)).run P w=_
  rw [Sem.run_bind,h2]
  rfl
 unfold resA at hv
 split at hv
 ·rename_i r
  obtain⟨us,h1,h2⟩:=hrun [v] (by simp [rvsA,hv])
  obtain⟨u,us',rfl,h3,h4⟩:=h1
  rw [show us'=[] from h4] at h2
  refine⟨u,h3,?_⟩
  rw [results_eq,Sem.run_bind,h2]
  rfl
 ·rename_i hne
  simp only [Option.map_eq_some_iff] at hv
  obtain⟨vs,hvs,rfl⟩:=hv
  obtain⟨us,h1,h2⟩:=hrun vs hvs
  refine⟨.tuple us.toArray,⟨us,rfl,h1⟩,?_⟩
  have h1len:=h1.length
  have hl2:∀ (xs:List RV) (vs:List AV),rvsA t H xs=some vs->vs.length=xs.length:=by
   intro xs
   induction xs with
   | nil=>intro vs h; cases h; rfl
   | cons x xs ih =>
    intro vs h
    simp only [rvsA,Option.bind_eq_some_iff,Option.map_eq_some_iff] at h
    obtain⟨v,hv,vs',hvs,rfl⟩:=h
    simp [ih vs' hvs]
  have h3:=hl2 _ _ hvs
  have hn1:¬us.toArray.size=1:=by
   intro e
   rw [List.size_toArray,h1len,h3] at e
   obtain⟨x,rfl⟩:=List.length_eq_one_iff.1 e
   exact hne x rfl
  rw [results_eq,Sem.run_bind,h2,Result.andThen_ok,dif_neg hn1]
  rfl
theorem AC_intro (hm:P.follows .mixedOrders=true) {f:Nat} {cf:CF} (hc:compF P f=some cf) {args:List AV} {H:Hp} {R:AV->Hp->Prop} (h:W (AC P E) cf.body (endX cf.res R) (initT args) H):AC P E f args H R:=by
 unfold compF at hc
 simp only [Option.bind_eq_some_iff] at hc
 obtain⟨fn,hf,c,hb,hc⟩:=hc
 split at hc
 ·rename_i hn
  simp only [Option.bind_eq_some_iff,Option.map_eq_some_iff] at hc
  obtain⟨body,hbody,res,hres,rfl⟩:=hc
  refine⟨⟨fn,c,hf,hn,hb⟩,fun φ w vals hv hH=>?_⟩
  refine calls_of_wp hf hb ?_
  refine W_sound hm (nt:=fn.ntmps) (n:=(vals.toArray++Array.replicate (fn.ntmps-vals.toArray.size) undef).size) (by simp; omega) (φ0:=φ) (w0:=w) c body hbody _ _ H h φ _ w ⟨⟨rfl,fun d=>?_,rfl⟩,hH,Below.refl _ _,PLe.refl _⟩ _ (fun e t H' φ' a w' hr hq=>?_)
  ·show VR φ (args.getD d .un) _
   rw [Array.getD_eq_getD_getElem?]
   rcases Nat.lt_or_ge d args.length with hd | hd
   ·obtain⟨u,hu,hR⟩:=hv.get d args[d] (by simp [hd])
    have hdv:d<vals.length:=by rw [hv.length]; exact hd
    rw [Array.getElem?_append_left (by simpa using hdv)]
    simp only [List.getElem?_toArray,hu,Option.getD_some]
    rw [List.getD_eq_getElem?_getD,List.getElem?_eq_getElem hd]
    exact hR
   ·have hdv:vals.length<=d:=by rw [hv.length]; exact hd
    rw [Array.getElem?_append_right (by simpa using hdv),List.getD_eq_getElem?_getD,List.getElem?_eq_none hd]
    simp only [Option.getD_none,Array.getElem?_replicate]
    split<;>rfl
  ·have key:(match resA t H' res with | some v=>R v H' | none=>False)->bodyPost P fn (fun
     | .returned u,w'=>∃ φ' H' v,PLe φ φ'/\HR E φ' H' w'/\Below E.B0 w w'/\VR φ' v u/\R v H'
     | _,_=>False) .ret a w':=by
    intro hq
    split at hq
    ·rename_i v hv
     obtain⟨u,hu,hrun⟩:=res_ok (P:=P) hres hv hr.tr hr.hr
     exact⟨hr.tr.defers,u,hrun,φ',H',v,hr.le,hr.hr,hr.below,hu,hq⟩
    ·exact hq.elim
   cases e with
   | normal=>exact key hq
   | exit id=>exact hq.elim
   | ret=>exact key hq
 ·cases hc
theorem AC.mono {f:Nat} {args:List AV} {H:Hp} {R R':AV->Hp->Prop} (h:AC P E f args H R) (hr:∀ v H',R v H'->R' v H'):AC P E f args H R':=AC_le f args H R R' hr h
end Go.Proofs.YtepeokaplbbpoaaGreat.B

namespace Go.Proofs.YtepeokaplbbpoaaGreat.B
open Go.RowKit
set_option linter.unusedVariables false
set_option linter.unusedSimpArgs false
variable {P:Program} {E:Env} {C:CallP}
def HLe (H H':Hp):Prop:=H.length<=H'.length/\∀ o ob,H.at o=some ob->H'.at o=some ob
theorem HLe.refl (H:Hp):HLe H H:=⟨Nat.le_refl _,fun _ _ h=>h⟩
theorem HLe.trans {a b c:Hp} (h:HLe a b) (k:HLe b c):HLe a c:=⟨Nat.le_trans h.1 k.1,fun o ob hh=>k.2 o ob (h.2 o ob hh)⟩
theorem Hp.at_lt {H:Hp} {o:Nat} {ob:Ob} (h:H.at o=some ob):o<H.length:=(List.getElem?_eq_some_iff.1 (Hp.at_some h)).1
theorem Hp.at_app {H:Hp} {o:Nat} (l:Hp) (h:o<H.length):Hp.at (H++l) o=H.at o:=by simp only [Hp.at]; rw [List.getElem?_append_left h]
theorem Hp.at_app_ge {H l:Hp} (k:Nat):Hp.at (H++l) (H.length+k)=l.at k:=by simp only [Hp.at]; rw [List.getElem?_append_right (by omega)]; congr 1; simp
theorem Hp.at_app_0 {H l:Hp}:Hp.at (H++l) H.length=l.at 0:=Hp.at_app_ge (H:=H) (l:=l) 0
theorem Hp.at_0 {x:Option Ob} {l:Hp}:Hp.at (x :: l) 0=x:=by simp [Hp.at]
theorem Hp.at_s {x:Option Ob} {l:Hp} {k:Nat}:Hp.at (x :: l) (k+1)=Hp.at l k:=by simp [Hp.at]
theorem Hp.set_app {H l:Hp} {x:Option Ob} (k:Nat):List.set (H++l) (H.length+k) x=H++List.set l k x:=by rw [List.set_append_right _ _ (by omega)]; congr 2; omega
theorem Hp.set_app_0 {H l:Hp} {x:Option Ob}:List.set (H++l) H.length x=H++List.set l 0 x:=Hp.set_app (H:=H) (l:=l) 0
theorem HLe.app {H H':Hp} (h:HLe H H') (l:Hp):HLe H (H'++l):=⟨by rw [List.length_append]; have:=h.1; omega,fun o ob hh=>by
 have:=h.2 o ob hh
 rw [Hp.at_app l (Hp.at_lt this)]
 exact this⟩
theorem HLe.self (H:Hp) (l:Hp):HLe H (H++l):=(HLe.refl H).app l
theorem Hp.at_set_ne {H:Hp} {o o':Nat} {x:Option Ob} (h:o'≠o):Hp.at (List.set H o' x) o=H.at o:=by simp only [Hp.at]; rw [List.getElem?_set_ne h]
theorem HLe.set {H H':Hp} (h:HLe H H') {o:Nat} (ho:H.length<=o) (x:Option Ob):HLe H (List.set H' o x):=⟨by rw [List.length_set]; exact h.1,fun o' ob hh=>by
 rw [Hp.at_set_ne (by have:=Hp.at_lt hh; omega)]
 exact h.2 o' ob hh⟩
mutual
def AV.plain:AV->Bool
 | .int _ _ | .bool _ | .str _ | .nilp | .nils | .sz | .nilf | .nili | .un=>true
 | .ag cs=>AV.plains cs
 | .tu cs=>AV.plains cs
 | _=>false
def AV.plains:List AV->Bool
 | []=>true
 | v :: vs=>v.plain&&AV.plains vs
end
mutual
theorem VR.plain {φ φ':Phi}:∀ (a:AV) (v:Value),a.plain=true->VR φ' a v->VR φ a v
 | .int _ _,_,_,h=>h
 | .bool _,_,_,h=>h
 | .str _,_,_,h=>h
 | .nilp,_,_,h=>h
 | .nils,_,_,h=>h
 | .sz,_,_,h=>h
 | .nilf,_,_,h=>h
 | .nili,_,_,h=>h
 | .un,_,_,h=>h
 | .any,_,hp,_=>by simp [AV.plain] at hp
 | .sl _ _ _,_,hp,_=>by simp [AV.plain] at hp
 | .pt _ _ _,_,hp,_=>by simp [AV.plain] at hp
 | .fn _ _,_,hp,_=>by simp [AV.plain] at hp
 | .er _,_,hp,_=>by simp [AV.plain] at hp
 | .ag cs,v,hp,h=>by
  obtain⟨l,h1,h2⟩:=h
  exact⟨l,h1,VRs.plain cs l (by simpa [AV.plain] using hp) h2⟩
 | .tu cs,v,hp,h=>by
  obtain⟨l,h1,h2⟩:=h
  exact⟨l,h1,VRs.plain cs l (by simpa [AV.plain] using hp) h2⟩
theorem VRs.plain {φ φ':Phi}:∀ (as:List AV) (l:List Value),AV.plains as=true->VRs φ' as l->VRs φ as l
 | [],_,_,h=>h
 | a :: as,l,hp,h=>by
  obtain⟨v,vs,h1,h2,h3⟩:=h
  simp only [AV.plains,Bool.and_eq_true] at hp
  exact⟨v,vs,h1,VR.plain a v hp.1 h2,VRs.plain as vs hp.2 h3⟩
end
mutual
/-- What was told of in old words is told of in old words. -/
theorem VR.back {φ φ':Phi} (hp:PLe φ φ'):∀ (a:AV) (u v:Value),VR φ a u->VR φ' a v->VR φ a v
 | .int _ _,_,_,_,h=>h
 | .bool _,_,_,_,h=>h
 | .str _,_,_,_,h=>h
 | .nilp,_,_,_,h=>h
 | .nils,_,_,_,h=>h
 | .sz,_,_,_,h=>h
 | .nilf,_,_,_,h=>h
 | .nili,_,_,_,h=>h
 | .un,_,_,_,h=>h
 | .any,_,_,_,_=>trivial
 | .er _,_,_,_,h=>h
 | .sl o i n,u,v,h0,h=>by
  obtain⟨p0,_,_,e0,_⟩:=h0
  obtain⟨p,a,c,e,h⟩:=h
  have:=hp o p0 e0
  rw [this] at e
  cases e
  exact⟨p0,a,c,e0,h⟩
 | .pt o i f,u,v,h0,h=>by
  obtain⟨p0,e0,_⟩:=h0
  obtain⟨p,e,h⟩:=h
  have:=hp o p0 e0
  rw [this] at e
  cases e
  exact⟨p0,e0,h⟩
 | .ag cs,u,v,h0,h=>by
  obtain⟨l0,_,h0⟩:=h0
  obtain⟨l,h1,h2⟩:=h
  exact⟨l,h1,VRs.back hp cs l0 l h0 h2⟩
 | .tu cs,u,v,h0,h=>by
  obtain⟨l0,_,h0⟩:=h0
  obtain⟨l,h1,h2⟩:=h
  exact⟨l,h1,VRs.back hp cs l0 l h0 h2⟩
 | .fn f cs,u,v,h0,h=>by
  obtain⟨l0,_,h0⟩:=h0
  obtain⟨l,h1,h2⟩:=h
  exact⟨l,h1,VRs.back hp cs l0 l h0 h2⟩
theorem VRs.back {φ φ':Phi} (hp:PLe φ φ'):∀ (as:List AV) (l0 l:List Value),VRs φ as l0->VRs φ' as l->VRs φ as l
 | [],_,_,_,h=>h
 | a :: as,l0,l,h0,h=>by
  obtain⟨u,us,_,h1,h2⟩:=h0
  obtain⟨v,vs,e,h3,h4⟩:=h
  exact⟨v,vs,e,VR.back hp a u v h1 h3,VRs.back hp as us vs h2 h4⟩
end
theorem HR.back {φ φ':Phi} {H H':Hp} {w w':World} (h:HR E φ H w) (hp:PLe φ φ') (h':HR E φ' H' w') (hb:Below E.B0 w w') (hle:HLe H H'):HR E φ H w' where
 obj:=fun o ob ho p hpo=>by
  have hat:H.at o=some ob:=by simp [Hp.at,ho]
  obtain⟨a1,a2,cells,e,fr,hbl,h1,hc⟩:=h'.obj o ob (Hp.at_some (hle.2 o ob hat)) p (hp o p hpo)
  obtain⟨_,_,cells0,_,_,_,_,hc0⟩:=h.obj o ob ho p hpo
  refine⟨a1,a2,cells,e,fr,hbl,h1,fun i row hr=>⟨(hc i row hr).1,fun f a ha=>?_⟩⟩
  obtain⟨k1,v,hv,hR⟩:=(hc i row hr).2 f a ha
  obtain⟨_,v0,_,hR0⟩:=(hc0 i row hr).2 f a ha
  exact⟨k1,v,hv,VR.back hp a v0 v hR0 hR⟩
 inj:=h.inj
 dom:=h.dom
 blk:=fun o p hpo=>Nat.lt_of_lt_of_le (h.blk o p hpo) hb.size
 base:=Nat.le_trans h.base hb.size
 glob:=E.st w w' hb h.glob
theorem AC.gc {f:Nat} {args:List AV} {H:Hp} {R:AV->Hp->Prop} (h:AC P E f args H (fun v H'=>HLe H H'/\v.plain=true/\R v H)):AC P E f args H R :=
 ⟨h.1,fun φ w vals hv hH=>Calls.mono (h.2 φ w vals hv hH) (fun e w' he=>by
  cases e with
  | returned u =>
   obtain⟨φ',H',v,p1,p2,p3,p4,p5,p6,p7⟩:=he
   exact⟨φ,H,v,PLe.refl _,hH.back p1 p2 p3 p5,p3,VR.plain v u p6 p4,p7⟩
  | panicked c=>exact he
  | outgrown=>exact he)⟩
def CLe (C C':CallP):Prop:=∀ f args H K,C f args H K->C' f args H K
def CMono (C:CallP):Prop:=∀ f args H K K',(∀ v H',K v H'->K' v H')->C f args H K->C f args H K'
theorem stepK_C {C':CallP} (h:CLe C C') {t:Tm} {H:Hp} {op:AOp} {K:AV->Hp->Prop} (hk:stepK C t H op K):stepK C' t H op K:=by
 unfold stepK at hk ⊢
 split at hk
 ·exact h _ _ _ _ hk
 ·split at hk
  ·exact h _ _ _ _ hk
  ·exact hk
 ·exact hk
theorem roK_C {C':CallP} (h:CLe C C') (hm:CMono C') {t:Tm} {H:Hp} {r:RO} {K K':Tm->Hp->Prop} (hK:∀ t H,K t H->K' t H) (hk:roK C t H r K):roK C' t H r K':=by
 refine roK_mono hm hK ?_
 unfold roK at hk ⊢
 split at hk
 ·exact stepK_C h hk
 ·exact hk
 ·exact hk
theorem RgP_C {C':CallP} (h:CLe C C') (hm:CMono C'):∀ (p:Plan) (t:Tm) (H:Hp) (K:Tm->Hp->Prop),RgP C p t H K->RgP C' p t H K
 | .fin,t,H,K,hk=>hk
 | .st d op g ag p,t,H,K,hk=>roK_C h hm (fun t H hk=>⟨hk.1,RgP_C h hm p t H K hk.2⟩) hk
 | .both a b,t,H,K,hk=>⟨RgP_C h hm a t H K hk.1,RgP_C h hm b t H K hk.2⟩
 | .bad,t,H,K,hk=>hk.elim
theorem RgP_mono (hm:CMono C):∀ (p:Plan) (t:Tm) (H:Hp) (K K':Tm->Hp->Prop),(∀ t H,K t H->K' t H)->RgP C p t H K->RgP C p t H K'
 | .fin,t,H,K,K',hK,hk=>hK _ _ hk
 | .st d op g ag p,t,H,K,K',hK,hk=>roK_mono hm (fun t H hk=>⟨hk.1,RgP_mono hm p t H K K' hK hk.2⟩) hk
 | .both a b,t,H,K,K',hK,hk=>⟨RgP_mono hm a t H K K' hK hk.1,RgP_mono hm b t H K K' hK hk.2⟩
 | .bad,t,H,K,K',hK,hk=>hk.elim
theorem W_mono (hm:CMono C):∀ (c:CC) (Q Q':Ex->Tm->Hp->Prop) (t:Tm) (H:Hp),(∀ e t H,Q e t H->Q' e t H)->W C c Q t H->W C c Q' t H:=by
 intro c
 induction c with
 | skip=>intro Q Q' t H hq h; exact hq _ _ _ h
 | plan p=>intro Q Q' t H hq h; exact RgP_mono hm p t H _ _ (hq .normal) h
 | seq a b iha ihb =>
  intro Q Q' t H hq h
  refine iha _ _ t H (fun e t H hh=>?_) h
  cases e with
  | normal=>exact ihb _ _ t H hq hh
  | exit id=>exact hq _ _ _ hh
  | ret=>exact hq _ _ _ hh
 | cond x a b iha ihb =>
  intro Q Q' t H hq h
  simp only [W] at h ⊢
  split at h
  ·exact iha _ _ t H hq h
  ·exact ihb _ _ t H hq h
  ·exact h
 | block id c ih =>
  intro Q Q' t H hq h
  refine ih _ _ t H (fun e t H hh=>?_) h
  cases e with
  | normal=>exact hq _ _ _ hh
  | exit id' =>
   simp only [inB] at hh ⊢
   split at hh
   ·rename_i e; rw [if_pos e]; exact hq _ _ _ hh
   ·rename_i e; rw [if_neg e]; exact hq _ _ _ hh
  | ret=>exact hq _ _ _ hh
 | loop c ih =>
  intro Q Q' t H hq h
  obtain⟨I,μ,h0,hr⟩:=h
  refine⟨I,μ,h0,fun t H hI=>ih _ _ t H (fun e t H hh=>?_) (hr t H hI)⟩
  cases e with
  | normal=>exact hh
  | exit id=>exact hq _ _ _ hh
  | ret=>exact hq _ _ _ hh
 | exit id=>intro Q Q' t H hq h; exact hq _ _ _ h
 | ret=>intro Q Q' t H hq h; exact hq _ _ _ h
theorem W_C {C':CallP} (h:CLe C C') (hm:CMono C'):∀ (c:CC) (Q:Ex->Tm->Hp->Prop) (t:Tm) (H:Hp),W C c Q t H->W C' c Q t H:=by
 intro c
 induction c with
 | skip=>intro Q t H h; exact h
 | plan p=>intro Q t H hh; exact RgP_C h hm p t H _ hh
 | seq a b iha ihb =>
  intro Q t H hh
  refine W_mono hm a _ _ t H (fun e t H hh=>?_) (iha _ t H hh)
  cases e with
  | normal=>exact ihb _ t H hh
  | exit id=>exact hh
  | ret=>exact hh
 | cond x a b iha ihb =>
  intro Q t H hh
  simp only [W] at hh ⊢
  split at hh
  ·exact iha _ t H hh
  ·exact ihb _ t H hh
  ·exact hh
 | block id c ih=>intro Q t H hh; exact ih _ t H hh
 | loop c ih =>
  intro Q t H hh
  obtain⟨I,μ,h0,hr⟩:=hh
  exact⟨I,μ,h0,fun t H hI=>ih _ t H (hr t H hI)⟩
 | exit id=>intro Q t H hh; exact hh
 | ret=>intro Q t H hh; exact hh
theorem AC_mono:CMono (AC P E):=fun f args H K K' hk h=>AC.mono h hk
theorem AC_by (hm:P.follows .mixedOrders=true) (hC:CLe C (AC P E)) {f:Nat} {cf:CF} (hc:compF P f=some cf) {args:List AV} {H:Hp} {R:AV->Hp->Prop} (h:W C cf.body (endX cf.res R) (initT args) H):AC P E f args H R :=
 AC_intro hm hc (W_C hC AC_mono _ _ _ _ h)
theorem least {p:Nat->Prop} (h:∃ k,p k):∃ k,p k/\∀ m,p m->k<=m:=by
 obtain⟨k,hk⟩:=h
 induction k using Nat.strongRecOn with
 | _ k ih =>
  rcases Classical.em (∃ m,m<k/\p m) with ⟨m,hm,hp⟩ | hn
  ·exact ih m hm hp
  ·exact⟨k,hk,fun m hp=>Nat.le_of_not_lt (fun hlt=>hn ⟨m,hlt,hp⟩)⟩
theorem W_for {id:Nat} {c:CC} {Q:Ex->Tm->Hp->Prop} {t:Tm} {H:Hp} (I:Nat->Tm->Hp->Prop) (k:Nat) (h0:I k t H) (hm:CMono C)
  (hs:∀ k t H,I k t H->W C c (thenX (fun t' H'=>∃ k',k'<k/\I k' t' H') (inB id Q)) t H):W C (.block id (.loop c)) Q t H:=by
 classical
 refine⟨fun t H=>∃ k,I k t H,fun t H=>if h:∃ k,I k t H then Classical.choose (least h) else 0,⟨k,h0⟩,fun t H hI=>?_⟩
 have hc:=Classical.choose_spec (least hI)
 refine W_mono hm c _ _ t H (fun e t' H' hh=>?_) (hs _ t H hc.1)
 cases e with
 | normal =>
  obtain⟨k',hlt,hI'⟩:=hh
  have hI2:∃ k,I k t' H':=⟨k',hI'⟩
  refine⟨hI2,?_⟩
  show (if h:∃ k,I k t' H' then Classical.choose (least h) else 0)<(if h:∃ k,I k t H then Classical.choose (least h) else 0)
  rw [dif_pos hI,dif_pos hI2]
  exact Nat.lt_of_le_of_lt ((Classical.choose_spec (least hI2)).2 _ hI') hlt
 | exit id=>exact hh
 | ret=>exact hh
end Go.Proofs.YtepeokaplbbpoaaGreat.B

namespace Go.Proofs.YtepeokaplbbpoaaGreat.B
open Go.RowKit
set_option linter.unusedVariables false
set_option linter.unusedSimpArgs false
def binC (b:BinOp):AV->AV->Prop
 | .int k x,.int k' y=>k=k'/\match b with
  | .quo=>y≠0
  | .rem=>y≠0
  | .shr=>y=1
  | .add | .sub | .mul | .xor | .eql | .neq | .lss | .leq | .gtr | .geq=>True
  | _=>False
 | .str x,.str y=>match b with
  | .add=>x.size+y.size<=9223372036854775807
  | .eql | .neq | .lss | .leq | .gtr | .geq=>True
  | _=>False
 | _,_=>False
def sless (x y:ByteArray):Bool:=Op.bytesLess x.toList y.toList
theorem toList_beq (x y:ByteArray):(x.toList==y.toList)=decide (x=y):=by
 rw [ByteArray.toList_eq,ByteArray.toList_eq]
 obtain⟨⟨x⟩⟩:=x
 obtain⟨⟨y⟩⟩:=y
 by_cases h:x=y
 ·subst h; simp
 ·simp [h]
theorem bLess_irrefl:∀ x:List UInt8,Op.bytesLess x x=false
 | []=>rfl
 | a :: x=>by simp [Op.bytesLess,bLess_irrefl x]
theorem bLess_total:∀ x y:List UInt8,Op.bytesLess x y=true\/x=y\/Op.bytesLess y x=true
 | [],[]=>.inr (.inl rfl)
 | [],_ :: _=>.inl rfl
 | _ :: _,[]=>.inr (.inr rfl)
 | a :: x,b :: y=>by
  rcases Nat.lt_trichotomy a.toNat b.toNat with h | h | h
  ·exact .inl (by simp [Op.bytesLess,UInt8.lt_iff_toNat_lt,h])
  ·have e:a=b:=UInt8.toNat_inj.1 h
   subst e
   rcases bLess_total x y with h | h | h
   ·exact .inl (by simp [Op.bytesLess,h])
   ·exact .inr (.inl (by rw [h]))
   ·exact .inr (.inr (by simp [Op.bytesLess,h]))
  ·exact .inr (.inr (by simp [Op.bytesLess,UInt8.lt_iff_toNat_lt,h]))
theorem bLess_trans:∀ x y z:List UInt8,Op.bytesLess x y=true->Op.bytesLess y z=true->Op.bytesLess x z=true
 | _,[],_,h,_=>by cases ‹List UInt8›<;>simp [Op.bytesLess] at h
 | _,_ :: _,[],_,h=>by simp [Op.bytesLess] at h
 | [],_ :: _,_ :: _,_,_=>rfl
 | a :: x,b :: y,c :: z,h1,h2=>by
  simp only [Op.bytesLess,Bool.or_eq_true,decide_eq_true_eq,Bool.and_eq_true,beq_iff_eq,UInt8.lt_iff_toNat_lt] at h1 h2 ⊢
  rcases h1 with h1 | ⟨rfl,h1⟩<;>rcases h2 with h2 | ⟨rfl,h2⟩
  ·exact .inl (by omega)
  ·exact .inl h1
  ·exact .inl h2
  ·exact .inr ⟨rfl,bLess_trans x y z h1 h2⟩
theorem toList_inj {x y:ByteArray} (h:x.toList=y.toList):x=y:=by
 have:=toList_beq x y
 rw [h] at this
 simp at this
 exact this
theorem sless_irrefl (x:ByteArray):sless x x=false:=bLess_irrefl _
theorem sless_trans {x y z:ByteArray} (h:sless x y=true) (k:sless y z=true):sless x z=true:=bLess_trans _ _ _ h k
theorem sless_total (x y:ByteArray):sless x y=true\/x=y\/sless y x=true:=(bLess_total x.toList y.toList).imp id (Or.imp toList_inj id)
theorem sless_asymm {x y:ByteArray} (h:sless x y=true):sless y x=false:=by
 cases k:sless y x with
 | false=>rfl
 | true =>
  have:=sless_trans h k
  rw [sless_irrefl] at this
  cases this
theorem sless_gt (x y:ByteArray):(!(sless x y||decide (x=y)))=sless y x:=by
 rcases sless_total x y with h | h | h
 ·rw [h,sless_asymm h]; rfl
 ·subst h; simp [sless_irrefl]
 ·rw [h,sless_asymm h]
  have:x≠y:=fun e=>by subst e; rw [sless_irrefl] at h; cases h
  simp [this]
theorem sless_le (x y:ByteArray):(sless x y||decide (x=y))=!sless y x:=by rw [<- sless_gt x y,Bool.not_not]
def binV (b:BinOp):AV->AV->AV
 | .int k x,.int k' y=>match b with
  | .add=>.int k (k.wrap (x+y))
  | .sub=>.int k (k.wrap (x-y))
  | .mul=>.int k (k.wrap (x * y))
  | .quo=>.int k (k.wrap (x.tdiv y))
  | .rem=>.int k (x.tmod y)
  | .shr=>.int k (x.fdiv 2)
  | .xor=>.int k (k.wrap ((BitVec.ofInt k.bits x ^^^ BitVec.ofInt k.bits y).toNat))
  | .eql=>.bool (decide (x=y))
  | .neq=>.bool (!decide (x=y))
  | .lss=>.bool (decide (x<y))
  | .leq=>.bool (decide (x<=y))
  | .gtr=>.bool (decide (y<x))
  | .geq=>.bool (decide (y<=x))
  | _=>.un
 | .str x,.str y=>match b with
  | .add=>.str (x++y)
  | .eql=>.bool (decide (x=y))
  | .neq=>.bool (!decide (x=y))
  | .lss=>.bool (sless x y)
  | .leq=>.bool (sless x y||decide (x=y))
  | .gtr=>.bool (!(sless x y||decide (x=y)))
  | .geq=>.bool (!sless x y)
  | _=>.un
 | _,_=>.un
theorem bin_eq {b:BinOp} {x y:AV} (h:binC b x y):binA b x y=some (binV b x y):=by
 unfold binC at h
 split at h
 ·obtain⟨rfl,h⟩:=h
  cases b<;>simp only at h<;>simp [binA,binI,binV,h]<;>first | rfl | skip
  all_goals (try exact beq_eq_decide _ _)
  all_goals (try (rw [bne,beq_eq_decide]))
 ·cases b<;>simp only at h<;>simp [binA,binS,binV,h,toList_beq,sless]
 ·exact h.elim
def ixC:AV->AV->Prop
 | .str s,.int _ j=>0<=j/\j<s.size
 | _,_=>False
def ixV:AV->AV->AV
 | .str s,.int _ j=>.int .u8 (bt s j)
 | _,_=>.un
def boolC:AV->Prop
 | .bool _=>True
 | _=>False
def pickV:AV->AV->AV->AV
 | .bool q,a,b=>if q=true then a else b
 | _,_,_=>.un
def strC:AV->Prop
 | .str _=>True
 | _=>False
def lnsV:AV->AV
 | .str s=>.int .i64 s.size
 | _=>.un
def slC:AV->Prop
 | .sl _ _ _=>True
 | .nils=>True
 | .sz=>True
 | _=>False
def lenV:AV->AV
 | .sl _ _ n=>.int .i64 n
 | .nils=>.int .i64 0
 | .sz=>.int .i64 0
 | _=>.un
def notV:AV->AV
 | .bool q=>.bool (!q)
 | _=>.un
def extC (i:Nat):AV->Prop
 | .tu vs=>i<vs.length
 | _=>False
def extV (i:Nat):AV->AV
 | .tu vs=>vs.getD i .un
 | _=>.un
def ptC:AV->Prop
 | .pt _ _ _=>True
 | _=>False
def faV (off:Nat):AV->AV
 | .pt o i f=>.pt o i (f+off)
 | _=>.un
def iaC (H:Hp) (esz:Nat):AV->AV->Prop
 | .sl o i n,.int _ j=>(∃ ob,H.at o=some ob/\ob.esz=esz)/\0<=j/\j<n
 | _,_=>False
def iaV:AV->AV->AV
 | .sl o i n,.int _ j=>.pt o (i+j.toNat) 0
 | _,_=>.un
def cutsC (d:Int->Option Int) (e:Int->Option Int):AV->Prop
 | .str s=>∃ l h,d 0=some l/\e s.size=some h/\0<=l/\l<=h/\h<=s.size
 | _=>False
def cutsV (d:Int->Option Int) (e:Int->Option Int):AV->AV
 | .str s=>.str (s.extract ((d 0).getD 0).toNat ((e s.size).getD 0).toNat)
 | _=>.un
def stepC (t:Tm) (H:Hp) (op:AOp):Prop :=
 match op with
 | .mv _ | .alloc _ _ | .fn _ _=>True
 | .bin b x y=>binC b (x.ev t) (y.ev t)
 | .ix x y=>ixC (x.ev t) (y.ev t)
 | .pick c _ _=>boolC (c.ev t)
 | .lns x=>strC (x.ev t)
 | .len x=>slC (x.ev t)
 | .not x=>boolC (x.ev t)
 | .ext i x=>extC i (x.ev t)
 | .fa _ x=>ptC (x.ev t)
 | .ia esz x y=>iaC H esz (x.ev t) (y.ev t)
 | .cuts x lo hi=>cutsC (fun d=>optI t d lo) (fun d=>optI t d hi) (x.ev t)
 | op=>(stepA t H op).isSome=true
def oV (o:Option (AV × Hp)):AV :=
 match o with
 | some (v,_)=>v
 | none=>.un
def oH (o:Option (AV × Hp)) (H:Hp):Hp :=
 match o with
 | some (_,H)=>H
 | none=>H
def stepV (t:Tm) (H:Hp) (op:AOp):AV :=
 match op with
 | .mv x=>x.ev t
 | .bin b x y=>binV b (x.ev t) (y.ev t)
 | .ix x y=>ixV (x.ev t) (y.ev t)
 | .pick c a b=>pickV (c.ev t) (a.ev t) (b.ev t)
 | .lns x=>lnsV (x.ev t)
 | .len x=>lenV (x.ev t)
 | .not x=>notV (x.ev t)
 | .ext i x=>extV i (x.ev t)
 | .fa off x=>faV off (x.ev t)
 | .ia esz x y=>iaV (x.ev t) (y.ev t)
 | .cuts x lo hi=>cutsV (fun d=>optI t d lo) (fun d=>optI t d hi) (x.ev t)
 | .alloc _ zs=>.pt H.length 0 0
 | .fn f xs=>.fn f (xs.map (·.ev t))
 | op=>oV (stepA t H op)
def stepH (t:Tm) (H:Hp) (op:AOp):Hp :=
 match op with
 | .mv _ | .bin _ _ _ | .ix _ _ | .pick _ _ _ | .lns _ | .len _ | .not _ | .ext _ _ | .fa _ _ | .fn _ _ | .ia _ _ _ | .cuts _ _ _=>H
 | .alloc ety zs=>H++[some ⟨[zs],zs.length,ety,false⟩]
 | op=>oH (stepA t H op) H
theorem isSome_eq {o:Option (AV × Hp)} {H:Hp} (h:o.isSome=true):o=some (oV o,oH o H):=by
 cases o with
 | none=>cases h
 | some p=>obtain⟨v,H'⟩:=p; rfl
theorem step_eq {t:Tm} {H:Hp} {op:AOp} (h:stepC t H op):stepA t H op=some (stepV t H op,stepH t H op):=by
 cases op<;>simp only [stepC] at h<;>simp only [stepV,stepH]<;>try exact isSome_eq h
 case mv x=>rfl
 case alloc e zs=>rfl
 case fn f xs=>rfl
 case bin b x y=>simp only [stepA,bin_eq h,Option.map_some]
 case ix x y =>
  simp only [stepA]
  generalize x.ev t=a at h
  generalize y.ev t=b at h
  cases a<;>cases b<;>simp only [ixC] at h
  exact if_pos h
 case pick c a b =>
  simp only [stepA]
  generalize c.ev t=v at h
  cases v<;>simp only [boolC] at h
  rfl
 case lns x =>
  simp only [stepA]
  generalize x.ev t=v at h
  cases v<;>simp only [strC] at h
  rfl
 case len x =>
  simp only [stepA]
  generalize x.ev t=v at h
  cases v<;>simp only [slC] at h<;>rfl
 case not x =>
  simp only [stepA]
  generalize x.ev t=v at h
  cases v<;>simp only [boolC] at h
  rfl
 case ext i x =>
  simp only [stepA]
  generalize x.ev t=v at h
  cases v<;>simp only [extC] at h
  simp [extV,List.getD_eq_getElem?_getD,h]
 case ia esz x y =>
  simp only [stepA]
  generalize x.ev t=a at h
  generalize y.ev t=b at h
  cases a<;>cases b<;>simp only [iaC] at h
  obtain⟨⟨ob,h1,h2⟩,h3,h4⟩:=h
  simp only [h1,Option.bind_some]
  rw [if_pos ⟨h2,h3,h4⟩]
  rfl
 case cuts x lo hi =>
  simp only [stepA]
  generalize x.ev t=a at h
  cases a<;>simp only [cutsC] at h
  obtain⟨l,hh,h1,h2,h3⟩:=h
  simp only [h1,h2,Option.bind_some]
  rw [if_pos h3]
  simp only [cutsV,h1,h2,Option.getD_some]
 case fa off x =>
  simp only [stepA]
  generalize x.ev t=v at h
  cases v<;>simp only [ptC] at h
  rfl
theorem bin_conv {b:BinOp} {x y:AV} (h:(binA b x y).isSome=true):binC b x y:=by
 unfold binA at h
 unfold binC
 split at h
 ·split at h
  ·rename_i e
   refine⟨e,?_⟩
   cases b<;>simp only [binI,Option.isSome_none,Bool.false_eq_true] at h<;>first | trivial | skip
   all_goals
    first
     | (
      split at h
      ·cases h
      ·assumption)
     | (
      split at h
      ·assumption
      ·cases h)
  ·cases h
 ·cases b<;>simp only [binS,Option.isSome_none,Bool.false_eq_true] at h<;>first | trivial | skip
  split at h
  ·assumption
  ·cases h
 ·cases h
theorem step_conv {t:Tm} {H:Hp} {op:AOp} (h:(stepA t H op).isSome=true):stepC t H op:=by
 cases op<;>simp only [stepC]<;>try exact h
 case bin b x y =>
  simp only [stepA,Option.isSome_map] at h
  exact bin_conv h
 case ix x y =>
  simp only [stepA] at h
  generalize x.ev t=a at h
  generalize y.ev t=b at h
  cases a<;>cases b<;>simp only [Option.isSome_none,Bool.false_eq_true] at h
  simp only [ixC]
  split at h
  ·assumption
  ·cases h
 case ia esz x y =>
  simp only [stepA] at h
  generalize x.ev t=a at h
  generalize y.ev t=b at h
  cases a<;>cases b<;>simp only [Option.isSome_none,Bool.false_eq_true] at h
  rename_i o i n k j
  simp only [iaC]
  cases h1:H.at o with
  | none=>rw [h1] at h; cases h
  | some ob =>
   rw [h1] at h
   simp only [Option.bind_some] at h
   split at h
   ·rename_i hc
    exact⟨⟨ob,rfl,hc.1⟩,hc.2⟩
   ·cases h
 case cuts x lo hi =>
  simp only [stepA] at h
  generalize x.ev t=a at h
  cases a<;>simp only [Option.isSome_none,Bool.false_eq_true] at h
  rename_i s
  simp only [cutsC]
  cases h1:optI t 0 lo with
  | none=>rw [h1] at h; cases h
  | some l =>
   cases h2:optI t s.size hi with
   | none=>rw [h1,h2] at h; cases h
   | some hh =>
    rw [h1,h2] at h
    simp only [Option.bind_some] at h
    split at h
    ·rename_i hc
     exact⟨l,hh,rfl,rfl,hc⟩
    ·cases h
 case ext i x =>
  simp only [stepA] at h
  generalize x.ev t=v at h
  cases v<;>simp only [Option.isSome_none,Bool.false_eq_true] at h
  rename_i vs
  rw [Option.isSome_map] at h
  simp only [extC]
  rcases Nat.lt_or_ge i vs.length with hl | hl
  ·exact hl
  ·rw [List.getElem?_eq_none hl] at h; cases h
 all_goals
  simp only [stepA] at h
  generalize Od.ev t _=v at h ⊢
  cases v<;>simp only [Option.isSome_none,Bool.false_eq_true] at h<;>trivial
def gG (x:AV) (g:Nat) (b:Bool) (C:CallP) (d:Option Nat) (op:AOp) (p:Plan) (t:Tm) (H:Hp) (K:Tm->Hp->Prop):Prop :=
 match x with
 | .bool q=>(q=b->RgP C (.st d op none [] p) t H K)/\(q=!b->RgP C p (updO t d .un) H K)
 | .un=>RgP C p (updO t d .un) H K
 | _=>False
def cG (x:AV) (C:CallP) (a b:CC) (Q:Ex->Tm->Hp->Prop) (t:Tm) (H:Hp):Prop :=
 match x with
 | .bool q=>(q=true->W C a Q t H)/\(q=false->W C b Q t H)
 | _=>False
def againG (ag:List (Option Nat × AOp × Option (Nat × Bool))) (t:Tm) (H:Hp):Prop:=∀ q∈ag,pend1 t H ⟨q.1,q.2.1,q.2.2,[]⟩
def callG (C:CallP) (f:Nat) (args:List AV) (d:Option Nat) (ag:List (Option Nat × AOp × Option (Nat × Bool))) (p:Plan) (t:Tm) (H:Hp) (K:Tm->Hp->Prop):Prop :=
 C f args H (fun v H'=>againG ag (updO t d v) H'/\RgP C p (updO t d v) H' K)
def calvG (x:AV) (C:CallP) (args:List AV) (d:Option Nat) (ag:List (Option Nat × AOp × Option (Nat × Bool))) (p:Plan) (t:Tm) (H:Hp) (K:Tm->Hp->Prop):Prop :=
 match x with
 | .fn f cs=>callG C f (args++cs) d ag p t H K
 | _=>False
theorem againG_nil (t:Tm) (H:Hp):againG [] t H=True:=by simp [againG]
theorem againG_cons (q) (ag) (t:Tm) (H:Hp):againG (q :: ag) t H=(pend1 t H ⟨q.1,q.2.1,q.2.2,[]⟩/\againG ag t H):=by simp [againG]
theorem pend1_n (t:Tm) (H:Hp) (d:Nat) (op:AOp) (l:List Nat):pend1 t H ⟨some d,op,none,l⟩=(stepC t H op/\t d=stepV t H op):=by
 apply propext
 simp only [pend1,roA,want]
 constructor
 ·rintro ⟨v,hv,ht⟩
  have hs:(stepA t H op).isSome=true:=by
   cases h1:stepA t H op with
   | none=>rw [h1] at hv; cases hv
   | some p=>rfl
  have hc:=step_conv hs
  rw [step_eq hc] at hv
  simp only [Option.map_some,Option.some.injEq] at hv
  exact⟨hc,by rw [ht d rfl,<- hv]⟩
 ·rintro ⟨hc,ht⟩
  exact⟨stepV t H op,by rw [step_eq hc]; rfl,fun d' hd=>by cases hd; exact ht⟩
section
variable (C:CallP) (t:Tm) (H:Hp) (K:Tm->Hp->Prop) (Q:Ex->Tm->Hp->Prop)
theorem stepK_eq {op:AOp} (hn:op.isCall=false) (K:AV->Hp->Prop):stepK C t H op K=(stepC t H op/\K (stepV t H op) (stepH t H op)):=by
 rw [stepK_opt hn]
 apply propext
 constructor
 ·intro h
  have hs:(stepA t H op).isSome=true:=by
   cases h1:stepA t H op with
   | none=>rw [h1] at h; exact h.elim
   | some p=>rfl
  have hc:=step_conv hs
  rw [step_eq hc] at h
  exact⟨hc,h⟩
 ·rintro ⟨hc,h⟩
  rw [step_eq hc]
  exact h
theorem RgP_op {op:AOp} (hn:op.isCall=false) (d:Option Nat) (p:Plan):RgP C (.st d op none [] p) t H K=(stepC t H op/\RgP C p (updO t d (stepV t H op)) (stepH t H op) K):=by
 simp only [RgP]
 show stepK C t H op _=_
 rw [stepK_eq _ _ _ hn]
 simp
theorem RgP_ag {op:AOp} (hn:op.isCall=false) (d:Option Nat) (q) (ag) (p:Plan):RgP C (.st d op none (q :: ag) p) t H K=(stepC t H op/\againG (q :: ag) (updO t d (stepV t H op)) (stepH t H op)/\RgP C p (updO t d (stepV t H op)) (stepH t H op) K):=by
 simp only [RgP]
 show stepK C t H op _=_
 rw [stepK_eq _ _ _ hn]
 rfl
theorem RgP_g (d:Option Nat) (op:AOp) (g:Nat) (b:Bool) (p:Plan):RgP C (.st d op (some (g,b)) [] p) t H K=gG (t g) g b C d op p t H K:=by
 simp only [RgP,roK,want,gG]
 generalize t g=x
 cases x<;>try rfl
 ·rename_i q
  cases q<;>cases b<;>simp
 ·simp
theorem RgP_call (d:Option Nat) (f:Nat) (xs:List Od) (ag) (p:Plan):RgP C (.st d (.call f xs) none ag p) t H K=callG C f (xs.map (·.ev t)) d ag p t H K:=by
 simp only [RgP,callG]
 rfl
theorem W_cond (c:Od) (a b:CC):W C (.cond c a b) Q t H=cG (c.ev t) C a b Q t H:=by
 simp only [W,cG]
 generalize c.ev t=x
 cases x<;>try rfl
 rename_i q
 cases q<;>simp
end
end Go.Proofs.YtepeokaplbbpoaaGreat.B

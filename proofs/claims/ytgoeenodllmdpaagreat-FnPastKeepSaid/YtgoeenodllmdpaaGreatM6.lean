/- A part of the proof: slices.Compact of strings. slices.Compact of strings. The program's KeysSort. What is listed of a store, in plain Lean. The program's StoreList. The laws' ltPast: two stores, listed at some times. Stores that are drawn, and times of theirs. A store's parts. The program's new stores. What is kept stays, whatever is done: in plain Lean. What deeds leave of what is found and listed: in plain Lean. How runs are let down does not depend on how much sieves keep; and with few entries there is always room: in plain Lean. The law FnStoreHold. The law FnStoreFree. To let down twice; to keep nothing: in plain Lean. How many entries there are; with few of them there is always room: in plain Lean. It does not matter when runs are let down, and joined: in plain Lean. It does not matter how much sieves keep: in plain Lean. The law FnPastKeep. There is no condition. -/
import Derived.Test.YtgoeenodllmdpaaGreatM0
import Derived.Test.YtgoeenodllmdpaaGreatM1
import Derived.Test.YtgoeenodllmdpaaGreatM2
import Derived.Test.YtgoeenodllmdpaaGreatM3
import Derived.Test.YtgoeenodllmdpaaGreatM4
import Derived.Test.YtgoeenodllmdpaaGreatM5
namespace Go.Proofs.YtgoeenodllmdpaaGreat.B
open Go.RowKit Go.Proofs
set_option linter.unusedVariables false
set_option linter.unusedSimpArgs false
variable {E:Env}
def cpL:Option ByteArray->List ByteArray->List ByteArray
 | _,[]=>[]
 | p,x :: r=>if p=some x then cpL p r else x :: cpL (some x) r
theorem cpL_snoc (z x:ByteArray):∀ (l:List ByteArray) (p:Option ByteArray),cpL p (l++[z,x])=cpL p (l++[z])++if x=z then [] else [x]
 | [],p=>by
  by_cases h:p=some z<;>by_cases h2:z=x
  ·simp [cpL,h,h2]
  ·simp [cpL,h,h2,Ne.symm h2]
  ·simp [cpL,h,h2]
  ·simp [cpL,h,h2,Ne.symm h2]
 | y :: l,p=>by
  simp only [List.cons_append,cpL]
  by_cases h:p=some y
  ·rw [if_pos h,if_pos h,cpL_snoc z x l p]
  ·rw [if_neg h,if_neg h,cpL_snoc z x l (some y),List.cons_append]
theorem cpL_mem:∀ (l:List ByteArray) (p:Option ByteArray) (x:ByteArray),x∈cpL p l\/p=some x↔x∈l\/p=some x
 | [],p,x=>by simp [cpL]
 | y :: l,p,x=>by
  rw [cpL]
  by_cases h:p=some y
  ·rw [if_pos h,cpL_mem l p x]
   constructor
   ·rintro (h1 | h1)
    ·exact .inl (List.mem_cons_of_mem _ h1)
    ·exact .inr h1
   ·rintro (h1 | h1)
    ·rcases List.mem_cons.1 h1 with rfl | h1
     ·exact .inr h
     ·exact .inl h1
    ·exact .inr h1
  ·rw [if_neg h]
   have ih:=cpL_mem l (some y) x
   simp only [List.mem_cons]
   constructor
   ·rintro ((h1 | h1) | h1)
    ·exact .inl (.inl h1)
    ·rcases ih.1 (.inl h1) with h2 | h2
     ·exact .inl (.inr h2)
     ·exact .inl (.inl (Option.some.inj h2).symm)
    ·exact .inr h1
   ·rintro ((h1 | h1) | h1)
    ·exact .inl (.inl h1)
    ·rcases ih.2 (.inl h1) with h2 | h2
     ·exact .inl (.inr h2)
     ·exact .inl (.inl (Option.some.inj h2).symm)
    ·exact .inr h1
theorem cpL_strict:∀ (l:List ByteArray) (p:Option ByteArray),l.Pairwise (fun a b=>sless b a=false)->(∀ q,p=some q->∀ x∈l,sless x q=false)->(cpL p l).Pairwise (fun a b=>sless a b=true)/\∀ q,p=some q->∀ x∈cpL p l,sless q x=true
 | [],p,_,_=>⟨.nil,fun q _ x hx=>by cases hx⟩
 | y :: l,p,h,hp=>by
  obtain⟨h1,h2⟩:=List.pairwise_cons.1 h
  rw [cpL]
  by_cases hy:p=some y
  ·rw [if_pos hy]
   exact cpL_strict l p h2 (fun q hq x hx=>hp q hq x (List.mem_cons_of_mem _ hx))
  ·rw [if_neg hy]
   obtain⟨i1,i2⟩:=cpL_strict l (some y) h2 (fun q hq x hx=>by
    obtain rfl:=Option.some.inj hq
    exact h1 x hx)
   have hlt:∀ q,p=some q->sless q y=true:=fun q hq=>by
    have:=hp q hq y (by simp)
    rcases sless_total q y with h3 | h3 | h3
    ·exact h3
    ·rw [h3] at hq
     exact absurd hq hy
    ·rw [this] at h3
     cases h3
   refine⟨List.pairwise_cons.2 ⟨fun x hx=>i2 y rfl x hx,i1⟩,fun q hq x hx=>?_⟩
   rcases List.mem_cons.1 hx with rfl | hx
   ·exact hlt q hq
   ·exact sless_trans (hlt q hq) (i2 y rfl x hx)
def OS (H:Hp) (o n:Nat) (l:List ByteArray):Prop:=Own 1 9 H (.sl o 0 n) (l.map strRow)
theorem OS.get {H:Hp} {o n:Nat} {l:List ByteArray} (h:OS H o n l) {i:Nat} {x:ByteArray} (hi:l[i]?=some x):∃ ob,H.at o=some ob/\ob.ro=false/\ob.esz=1/\i<n/\ob.rows[i]?=some [.str x]:=by
 obtain⟨e,ob,q1,q2,q3,q4,q5,q6⟩:=Own.ob h
 rw [List.length_map] at e q5 q6
 have hl:i<l.length:=(List.getElem?_eq_some_iff.1 hi).1
 refine⟨ob,q1,q2,q3,by omega,?_⟩
 have:(ob.rows.take l.length)[i]?=(l.map strRow)[i]?:=by rw [q6]
 rw [List.getElem?_take,if_pos hl,List.getElem?_map,hi] at this
 exact this
theorem OS.set {H H':Hp} {o n:Nat} {l:List ByteArray} (h:OS H o n l) {ob:Ob} (ho:H.at o=some ob) (i:Nat) (x:ByteArray) (h':H'.at o=some { ob with rows:=ob.rows.set i [.str x] }):OS H' o n (l.set i x):=by
 have:=Own.setRow h ho i [.str x] h'
 unfold OS
 rw [List.map_set]
 exact this
theorem OS.clr {o n:Nat}:∀ (k:Nat) {H H':Hp} {l:List ByteArray} {i:Nat} {ob:Ob},OS H o n l->H.at o=some ob->H'.at o=some { ob with rows:=clrR ob.rows i k (.str ⟨#[]⟩) }->∃ l',OS H' o n l'/\l'.length=l.length/\l'.take i=l.take i
 | 0,H,H',l,i,ob,h,ho,h'=>by
  have hlen:l.length<=ob.rows.length:=by
   obtain⟨e,ob',q1,q2,q3,q4,q5,q6⟩:=Own.ob h
   rw [ho] at q1
   cases q1
   simpa using q5
  have:=h.set ho ob.rows.length ⟨#[]⟩ (h'.trans (by rw [List.set_eq_of_length_le (Nat.le_refl _)]; rfl))
  rw [List.set_eq_of_length_le hlen] at this
  exact⟨l,this,rfl,rfl⟩
 | k+1,H,H',l,i,ob,h,ho,h'=>by
  have h1:=Hp.at_set (some { ob with rows:=ob.rows.set i [.str ⟨#[]⟩] }) (Hp.at_lt ho)
  obtain⟨l',e1,e2,e3⟩:=OS.clr k (i:=i+1) (h.set ho i ⟨#[]⟩ h1) h1 h'
  refine⟨l',e1,by simpa using e2,?_⟩
  have:=congrArg (List.take i) e3
  rw [List.take_take,List.take_take,Nat.min_eq_left (by omega),List.take_set_of_le (Nat.le_refl _)] at this
  exact this
end Go.Proofs.YtgoeenodllmdpaaGreat.B

namespace Go.Proofs.YtgoeenodllmdpaaGreat.B
open Go.RowKit Go.Proofs
set_option linter.unusedVariables false
set_option linter.unusedSimpArgs false
variable {E:Env}
def CpI (xs:List ByteArray) (i n o:Nat) (H':Hp) (m:Nat) (t:Tm) (K:Hp):Prop:=∃ (pre:List ByteArray) (z:ByteArray) (mid tl:List ByteArray) (kl p q:Nat),xs=pre++z :: tl/\tl.length=m/\kl=(cpL none (pre++[z])).length/\kl+mid.length=pre.length/\p=pre.length/\i+q=p+1/\1<=q/\t 0=.sl o 0 n/\t 3=.int .i64 kl/\t 4=.sl o i (n-i)/\t 5=.int .i64 q/\Fr (fun y=>y=o) H' K/\OS K o n (cpL none (pre++[z])++(mid++z :: tl))
set_option maxHeartbeats 1600000 in
theorem CompactS_ok (v:AV) (xs:List ByteArray) (H0 H:Hp) (hv:OwnS H0 H v xs) (hn:xs.length<1099511627776) :
  AC Tryz.prog E 87 [v] H (fun u H'=>Fr v.of H H'/\OwnS H0 H' u (cpL none xs)/\∀ y,u.of y->v.of y):=by
 refine AC_by fol (tC_le tabJ_ok) h_slices_Compact_Sstring_string ?_
 have l1:=hv.len
 simp [c_slices_Compact_Sstring_string,l1,hv.slc]
 by_cases h2:xs.length<2
 ·have h2I:(xs.length:Int)<2:=by omega
  have e:cpL none xs=xs:=by
   match xs,h2 with
   | [],_=>rfl
   | [x],_=>rfl
  simp [h2I,e]
  exact⟨Fr.refl _ _,hv⟩
 have h2I:¬(xs.length:Int)<2:=by omega
 obtain⟨o,rfl⟩:=hv.1.sl (by rw [List.length_map]; omega)
 rw [List.length_map] at hv ⊢
 have hlo:H0.length<=o:=hv.2 o rfl
 obtain⟨n,hn0⟩:∃ n,n=xs.length:=⟨_,rfl⟩
 rw [<- hn0] at hv h2 h2I hn ⊢
 have hO0:OS H o n xs:=hv.1
 simp [h2I]
 refine W_for (fun m t H'=>∃ i:Nat,1<=i/\i+m=n/\t 0=.sl o 0 n/\t 3=.int .i64 i/\H'=H/\cpL none (xs.take i)=xs.take i) (n-1) ?_ (tC_mono AC_mono) ?_
 ·refine⟨1,Nat.le_refl _,by omega,by simp,by simp,rfl,?_⟩
  cases xs with
  | nil=>rfl
  | cons x r=>rfl
 rintro m t H' ⟨i,hi1,him,t0,t3,rfl,hP⟩
 simp [t0,t3]
 refine c_split (fun hq=>?_) (fun hq=>?_)<;>simp at hq
 ·obtain⟨j,rfl⟩:∃ j,i=j+1:=⟨i-1,by omega⟩
  obtain⟨i,hij⟩:∃ i,i=j+1:=⟨_,rfl⟩
  rw [<- hij] at hi1 him t3 hq hP
  have hil:i<xs.length:=by omega
  have hjl:j<xs.length:=by omega
  have hw1:IntKind.i64.wrap ((i:Int)-1)=(j:Int):=by
   rw [wrap64 (by omega) (by omega)]
   omega
  have hw:=wrapN (i:=i) (by omega)
  obtain⟨ob,q1,q2,q3,q4,q5⟩:=hO0.get (List.getElem?_eq_getElem hil)
  obtain⟨ob',r1,r2,r3,r4,r5⟩:=hO0.get (List.getElem?_eq_getElem hjl)
  rw [q1] at r1
  cases r1
  have u1:=Hp.at_lt q1
  have ej:xs.take i=xs.take j++[xs[j]]:=by rw [hij,List.take_succ_eq_append_getElem hjl]
  have ei:xs.take (i+1)=xs.take j++[xs[j],xs[i]]:=by rw [List.take_succ_eq_append_getElem hil,ej,List.append_assoc]; rfl
  simp [t0,t3,hw1,q1,q3,q4,q5,r4,r5]
  by_cases he:xs[i]=xs[j]
  ·simp [he,t0,t3]
   refine cutG_sl (l:=i) q1 q3 (by
    obtain⟨_,ob2,z1,_,_,_,z5,_⟩:=Own.ob hO0
    rw [q1] at z1
    cases z1
    rw [List.length_map] at z5
    omega) (by omega) ?_
   simp [t0,t3]
   clear hw hw1 r4 r5
   refine W_for (CpI xs i n o H') (n-(i+1)) ?_ (tC_mono AC_mono) ?_
   ·have hk:cpL none (xs.take (i+1))=xs.take i:=by rw [ei,cpL_snoc,if_pos he,List.append_nil,<- ej,hP]
    have e2:xs.take i++[xs[i]]=xs.take (i+1):=(List.take_succ_eq_append_getElem hil).symm
    have e3:xs=xs.take i++xs[i] :: xs.drop (i+1):=by rw [<- List.drop_eq_getElem_cons hil,List.take_append_drop]
    refine⟨xs.take i,xs[i],[],xs.drop (i+1),i,i,1,e3,by rw [List.length_drop]; omega,by rw [e2,hk,List.length_take]; omega,by rw [List.length_take,List.length_nil]; omega,by rw [List.length_take]; omega,by omega,Nat.le_refl _,by simp [t0],by simp [t3],by simp,by simp,Fr.refl _ _,?_⟩
    rw [e2,hk,List.nil_append,<- e3]
    exact hO0
   rintro m t K ⟨pre,z,mid,tl,kl,p,q,hxs,hm,hkl,hlen,hp,hiq,hq1,t0,t3,t4,t5,hF,hO⟩
   have hnl:n=p+1+tl.length:=by rw [hn0,hxs,List.length_append,List.length_cons,hp]; omega
   obtain⟨qm,rfl⟩:∃ qm,q=qm+1:=⟨q-1,by omega⟩
   obtain⟨q,hqq⟩:∃ q,q=qm+1:=⟨_,rfl⟩
   rw [<- hqq] at hiq hq1 t5
   have hni:((n-i:Nat):Int)=((n-i:Nat):Int):=rfl
   obtain⟨nl,hnl2⟩:∃ nl,nl=n-i:=⟨_,rfl⟩
   rw [<- hnl2] at t4
   simp [t0,t3,t4,t5]
   refine c_split (fun hq=>?_) (fun hq=>?_)<;>simp at hq
   ·obtain⟨x,tl,rfl⟩:∃ x X',tl=x :: X':=List.exists_cons_of_length_pos (by omega)
    simp only [List.length_cons] at hm hnl
    have hw1:IntKind.i64.wrap ((q:Int)-1)=(qm:Int):=by
     rw [wrap64 (by omega) (by omega)]
     omega
    have hw:=wrapN (i:=q) (by omega)
    have hw3:=wrapN (i:=kl) (by omega)
    have g1:(cpL none (pre++[z])++(mid++z :: x :: tl))[i+q]?=some x:=by
     rw [show cpL none (pre++[z])++(mid++z :: x :: tl)=(cpL none (pre++[z])++(mid++[z]))++x :: tl by simp]
     exact get_mid _ _ _ (by rw [List.length_append,List.length_append,List.length_singleton,<- hkl]; omega)
    have g2:(cpL none (pre++[z])++(mid++z :: x :: tl))[i+qm]?=some z:=by
     rw [show cpL none (pre++[z])++(mid++z :: x :: tl)=(cpL none (pre++[z])++mid)++z :: x :: tl by simp]
     exact get_mid _ _ _ (by rw [List.length_append,<- hkl]; omega)
    obtain⟨y,mid2,hmz⟩:∃ y X',mid++[z]=y :: X':=List.exists_cons_of_length_pos (by simp)
    have hml:mid2.length=mid.length:=by
     have:=congrArg List.length hmz
     simp at this
     omega
    have hall:cpL none (pre++[z])++(mid++z :: x :: tl)=cpL none (pre++[z])++y :: (mid2++x :: tl):=by
     rw [show mid++z :: x :: tl=(mid++[z])++x :: tl by simp,hmz,List.cons_append]
    have g3:(cpL none (pre++[z])++(mid++z :: x :: tl))[kl]?=some y:=by
     rw [hall]
     exact get_mid _ _ _ hkl
    obtain⟨ob,a1,a2,a3,a4,a5⟩:=hO.get g1
    obtain⟨ob2,b1,b2,b3,b4,b5⟩:=hO.get g2
    rw [a1] at b1
    cases b1
    obtain⟨ob2,b1,_,_,c4,c5⟩:=hO.get g3
    rw [a1] at b1
    cases b1
    have u1:=Hp.at_lt a1
    have qn:q<nl:=by omega
    have qn2:qm<nl:=by omega
    have hc2:=cpL_snoc z x pre none
    have exs:xs=(pre++[z])++x :: tl:=by rw [hxs]; simp
    simp [t0,t3,t4,t5,hw1,a1,a3,qn,qn2,a5,b5]
    by_cases hxz:x=z
    ·rw [if_pos hxz,List.append_nil] at hc2
     simp [hxz,t0,t3,t4,t5,hw]
     refine⟨m-1,by omega,pre++[z],x,mid++[z],tl,kl,p+1,q+1,exs,by omega,?_,by simp; omega,by simp [hp],by omega,by omega,by simp [t0],by simp [t3],by simp [t4,hnl2],by simp,hF,?_⟩
     ·rw [List.append_assoc,List.singleton_append,hc2,hkl]
     ·rw [List.append_assoc,List.singleton_append,hc2]
      simpa using hO
    ·rw [if_neg hxz] at hc2
     simp [hxz,t0,t3,t4,t5,hw,hw3,a1,a2,a3,a5,c4,c5,qn,u1]
     have hs:=hO.set (H':=List.set K o (some { ob with rows:=ob.rows.set kl [.str x] })) a1 kl x (Hp.at_set _ u1)
     rw [hall,set_mid _ _ _ _ hkl,a3,a2] at hs
     refine⟨m-1,by omega,pre++[z],x,mid2,tl,kl+1,p+1,q+1,exs,by omega,?_,by simp; omega,by simp [hp],by omega,by omega,by simp [t0],by simp [t3],by simp [t4,hnl2],by simp,hF.set (.inl rfl) _,?_⟩
     ·rw [List.append_assoc,List.singleton_append,hc2,List.length_append,List.length_singleton,hkl]
     ·rw [List.append_assoc,List.singleton_append,hc2,List.append_assoc]
      simpa using hs
   ·have:tl=[]:=List.length_eq_zero_iff.1 (by omega)
    subst this
    obtain⟨e1,ob,a1,a2,a3,a4,a5,a6⟩:=Own.ob hO
    rw [List.length_map] at e1 a5
    rw [<- e1] at a5
    have u1:=Hp.at_lt a1
    simp [t0,t3]
    refine cutG_sl (l:=kl) a1 a3 (by omega) (by omega) ?_
    obtain⟨l',z1,z2,z3⟩:=OS.clr (n-kl) (H':=List.set K o (some { ob with rows:=clrR ob.rows kl (n-kl) (.str ⟨#[]⟩) })) (i:=kl) hO a1 (Hp.at_set _ u1)
    have z4:l'.take kl=cpL none (pre++[z]):=by rw [z3,hkl,List.take_left]
    have z5:(l'.map strRow).take kl=(cpL none xs).map strRow:=by
     rw [<- List.map_take,z4,hxs]
    have z6:(l'.map strRow).length=n:=by
     obtain⟨e,_⟩:=Own.ob z1
     exact e.symm
    have b1:kl+(n-kl)<=ob.rows.length:=by omega
    simp [t0,t3,a1,a2,a3,b1]
    rw [a2,a3] at z1
    refine cutG_upto (rows:=l'.map strRow) (Own.rows z1) kl rfl (by omega) (fun u g1 g2 g3=>?_)
    have g4:=g3 _ z1
    rw [z5] at g4
    simp
    exact⟨hF.set (.inl rfl) _ |>.mono (fun y hy=>.inl hy.symm),⟨g4,fun y hy=>by have:o=y:=g2 y hy; omega⟩,fun y hy=>g2 y hy⟩
  ·simp [he,t0,t3,hw]
   refine⟨m-1,by omega,i+1,by omega,by omega,by simp,?_⟩
   rw [ei,cpL_snoc,if_neg he,<- ej,hP,ej,List.append_assoc]
   rfl
 ·have:i=n:=by omega
  subst this
  rw [hn0,List.take_length] at hP
  simp [t0,hP]
  exact⟨Fr.refl _ _,hn0 ▸ hv⟩
end Go.Proofs.YtgoeenodllmdpaaGreat.B

namespace Go.Proofs.YtgoeenodllmdpaaGreat.B
open Go.RowKit Go.Proofs
set_option linter.unusedVariables false
set_option linter.unusedSimpArgs false
variable {E:Env}
theorem cpL_len:∀ (l:List ByteArray) (p:Option ByteArray),(cpL p l).length<=l.length
 | [],p=>Nat.le_refl _
 | y :: l,p=>by
  rw [cpL]
  split
  ·have:=cpL_len l p
   rw [List.length_cons]
   omega
  ·have:=cpL_len l (some y)
   rw [List.length_cons,List.length_cons]
   omega
structure KeysOf (ks zs:List ByteArray):Prop where
 asc:zs.Pairwise (fun a b=>sless a b=true)
 mem:∀ k,k∈zs↔k∈ks/\keyOk k=true
 len:zs.length<=ks.length
theorem KeysOf.of {ks ys:List ByteArray} (h:SortOf (ks.filter keyOk) ys):KeysOf ks (cpL none ys):=by
 refine⟨(cpL_strict ys none h.2 (fun q hq=>by cases hq)).1,fun k=>?_,?_⟩
 ·have:=cpL_mem ys none k
  simp only [reduceCtorEq,or_false] at this
  rw [this,h.1.mem_iff,List.mem_filter]
 ·have h1:=cpL_len ys none
  have h2:=h.1.length_eq
  have h3:=List.length_filter_le keyOk ks
  omega
theorem KeysSort_ok (v:AV) (ks:List ByteArray) (H:Hp) (hv:Strs H v ks) (hn:ks.length<1099511627776) (hks:∀ k∈ks,k.size<4611686018427387904) :
  AC Tryz.prog E 84 [v] H (fun u H'=>HLe H H'/\∃ zs,OwnS H H' u zs/\KeysOf ks zs):=by
 refine AC_by fol (tC_le tabJ_ok) h_impl_KeysSort ?_
 have l1:=hv.len
 simp [c_impl_KeysSort,l1,hv.slc]
 refine W_for (fun m t H'=>∃ i u,i+m=ks.length/\t 6=v/\t 3=u/\t 7=.int .i64 ks.length/\t 8=.int .i64 (i:Nat)/\HLe H H'/\OwnS H H' u ((ks.take i).filter keyOk)) ks.length ?_ (tC_mono AC_mono) ?_
 ·exact⟨0,.nils,by omega,by simp,by simp,by simp,by simp,HLe.refl _,OwnM.nils⟩
 rintro m t H' ⟨i,u,him,t6,t3,t7,t8,hle,hu⟩
 simp [t6,t3,t7,t8,l1,hv.slc]
 refine c_split (fun hq=>?_) (fun hq=>?_)<;>simp at hq
 ·have hw:=wrapN (i:=i) (by omega)
  obtain⟨o,i0,ob,rfl,a1,a2,a3⟩:=hv.get hq
  have a1':=hle.2 _ _ a1
  have hkey:∀ {C:CallP} {d:Option Nat} {ag} {p:Plan} {t:Tm} {H:Hp} {K:Tm->Hp->Prop},_:=@fun C d ag p t H K=>tabJ_key C d ag p t H K ks[i] (hks _ (List.getElem_mem hq))
  have es:(ks.take (i+1)).filter keyOk=(ks.take i).filter keyOk++if keyOk ks[i]=true then [ks[i]] else []:=by
   rw [List.take_succ_eq_append_getElem hq,List.filter_append]
   congr 1
   by_cases h:keyOk ks[i]=true<;>simp [h]
  simp [t6,t3,t7,t8,a1',a2,a3,hq,hkey]
  have hfl:=List.length_filter_le keyOk (ks.take i)
  rw [List.length_take] at hfl
  cases hk:keyOk ks[i] with
  | false =>
   rw [hk] at es
   simp [t6,t3,t7,t8,hw]
   exact⟨m-1,by omega,i+1,by omega,by omega,hle,by rw [es]; simpa using hu⟩
  | true =>
   rw [hk] at es
   simp [t6,t3,t7,t8]
   refine appG_add (y:=ks[i]) (row:=strRow) (bytes:=16) (H0:=H) hu hle (by omega) rfl (fun v2 K2 g1 g2 g3 g4=>?_)
   simp [t6,t3,t7,t8,hw]
   exact⟨m-1,by omega,i+1,by omega,by omega,g1,by rw [es]; exact g2⟩
 ·have:i=ks.length:=by omega
  subst this
  rw [List.take_length] at hu
  have hfl:=List.length_filter_le keyOk ks
  simp [t3]
  refine cg_ex (SortS_ok u _ H' hu.1 (by omega)) ?_
  rintro _ K ⟨rfl,ys,hys,hoy,hF⟩
  have hl:=hys.1.length_eq
  have hK:=hle.fr_le hF hu.2
  simp [t3]
  refine cg_ex (CompactS_ok u ys H K ⟨hoy,hu.2⟩ (by omega)) ?_
  rintro w G ⟨hF2,hw,hsub⟩
  have hG:=hK.fr_le hF2 hu.2
  have hcl:=cpL_len ys none
  simp
  refine appG_cat (row:=strRow) (xs:=[]) (H0:=H) OwnM.nils hw.rows hG (by simp; omega) (fun v H2 g1 g2 g3 g4=>?_)
  simp
  exact⟨g1,_,g2,KeysOf.of hys⟩
end Go.Proofs.YtgoeenodllmdpaaGreat.B

namespace Go.Proofs.YtgoeenodllmdpaaGreat.B
open Go.RowKit Go.Proofs
set_option linter.unusedVariables false
set_option linter.unusedSimpArgs false
def btwK (fr to k:ByteArray):Bool:=!sless k fr&&!sless to k
def pickL (s:Sr) (fr to:ByteArray) (t:Int) (k:ByteArray):Option Ent:=match getR s k t with
 | some e=>if e.gone=false/\btwK fr to k=true then some e else none
 | none=>none
structure Listed (L:List Ent) (fr to:ByteArray) (t:Int) (out:List Ent):Prop where
 asc:out.Pairwise (fun a b=>sless a.key b.key=true)
 mem:∀ e,e∈out↔Best L e.key t e/\e.gone=false/\btwK fr to e.key=true
theorem asc_ext:∀ {a b:List Ent},a.Pairwise (fun a b=>sless a.key b.key=true)->b.Pairwise (fun a b=>sless a.key b.key=true)->(∀ e,e∈a↔e∈b)->a=b
 | [],[],_,_,_=>rfl
 | [],y :: b,_,_,h=>absurd ((h y).2 (by simp)) (by simp)
 | x :: a,[],_,_,h=>absurd ((h x).1 (by simp)) (by simp)
 | x :: a,y :: b,h1,h2,h=>by
  obtain⟨p1,p2⟩:=List.pairwise_cons.1 h1
  obtain⟨q1,q2⟩:=List.pairwise_cons.1 h2
  have hxy:x=y:=by
   rcases List.mem_cons.1 ((h x).1 (by simp)) with e | e
   ·exact e
   ·rcases List.mem_cons.1 ((h y).2 (by simp)) with e2 | e2
    ·exact e2.symm
    ·have a1:=q1 x e
     have a2:=p1 y e2
     have:=sless_trans a1 a2
     rw [sless_irrefl] at this
     cases this
  subst hxy
  have hx:∀ {l:List Ent},(∀ z∈l,sless x.key z.key=true)->x ∉ l:=fun hl hm=>by
   have:=hl x hm
   rw [sless_irrefl] at this
   cases this
  rw [asc_ext p2 q2 (fun e=>by
   have h3:=h e
   rw [List.mem_cons,List.mem_cons] at h3
   constructor
   ·intro he
    rcases h3.1 (.inr he) with e4 | e4
    ·subst e4
     exact absurd he (hx p1)
    ·exact e4
   ·intro he
    rcases h3.2 (.inr he) with e4 | e4
    ·subst e4
     exact absurd he (hx q1)
    ·exact e4)]
theorem Listed.ext {L L':List Ent} {fr to fr' to':ByteArray} {t t':Int} {a b:List Ent} (ha:Listed L fr to t a) (hb:Listed L' fr' to' t' b) (h:∀ e:Ent,e.gone=false->(Best L e.key t e/\btwK fr to e.key=true↔Best L' e.key t' e/\btwK fr' to' e.key=true)):a=b:=by
 refine asc_ext ha.asc hb.asc (fun e=>?_)
 rw [ha.mem,hb.mem]
 constructor
 ·rintro ⟨h1,h2,h3⟩
  obtain⟨h4,h5⟩:=(h e h2).1 ⟨h1,h3⟩
  exact⟨h4,h2,h5⟩
 ·rintro ⟨h1,h2,h3⟩
  obtain⟨h4,h5⟩:=(h e h2).2 ⟨h1,h3⟩
  exact⟨h4,h2,h5⟩
structure Cov (s:Sr) (fr to:ByteArray) (i:Nat) (ks:List ByteArray):Prop where
 top:∀ e∈s.top,e.key∈ks
 lev:∀ (j:Nat) (h:j<s.lev.length),j<i->∀ e∈s.lev[j],btwK fr to e.key=true->e.key∈ks
 ok:∀ k∈ks,keyOk k=true
 len:ks.length<=100000 * (i+1)
theorem keys_ent {r:List Ent} (h:∀ e∈r,entOk e=true):∀ k∈keysR r,keyOk k=true:=by
 intro k hk
 obtain⟨e,he,rfl⟩:=keys1_mem none r k hk
 have:=h e he
 simp only [entOk,Bool.and_eq_true] at this
 exact this.1.1.1
theorem Cov.zero {s:Sr} {fr to:ByteArray} (hs:Val s) (hn:s.top.length<=100000):Cov s fr to 0 (keysR s.top) :=
 ⟨fun e he=>keysR_mem he,fun j h hj=>by omega,keys_ent (fun e he=>hs.ent e (List.mem_append_left _ he)),by have:=keysR_len s.top; omega⟩
theorem Cov.add {s:Sr} {fr to:ByteArray} {i:Nat} {ks:List ByteArray} (h:Cov s fr to i ks) (hs:Val s) (hi:i<s.lev.length) (hn:s.lev[i].length<=100000):Cov s fr to (i+1) (ks++keysR s.lev[i]):=by
 refine⟨fun e he=>List.mem_append_left _ (h.top e he),fun j hj hji e he hb=>?_,fun k hk=>?_,?_⟩
 ·rcases Nat.lt_or_ge j i with h1 | h1
  ·exact List.mem_append_left _ (h.lev j hj h1 e he hb)
  ·have:j=i:=by omega
   subst this
   exact List.mem_append_right _ (keysR_mem he)
 ·rcases List.mem_append.1 hk with h1 | h1
  ·exact h.ok k h1
  ·exact keys_ent (fun e he=>hs.ent e (List.mem_append_right _ (List.mem_flatten.2 ⟨_,List.getElem_mem hi,he⟩))) k h1
 ·have:=keysR_len s.lev[i]
  have:=h.len
  rw [List.length_append]
  omega
theorem Cov.skip {s:Sr} {fr to:ByteArray} {i:Nat} {ks:List ByteArray} (h:Cov s fr to i ks) (hi:i<s.lev.length) (hn:∀ e∈s.lev[i],btwK fr to e.key=true->False):Cov s fr to (i+1) ks:=by
 refine⟨h.top,fun j hj hji e he hb=>?_,h.ok,by have:=h.len; omega⟩
 rcases Nat.lt_or_ge j i with h1 | h1
 ·exact h.lev j hj h1 e he hb
 ·have:j=i:=by omega
  subst this
  exact (hn e he hb).elim
theorem listed_of {s:Sr} {fr to:ByteArray} {t:Int} {ks zs:List ByteArray} (hs:Val s) (hc:Cov s fr to s.lev.length ks) (hz:KeysOf ks zs):Listed (entsR s) fr to t (zs.filterMap (pickL s fr to t)):=by
 have hp:∀ {k:ByteArray} {e:Ent},pickL s fr to t k=some e↔Best (entsR s) k t e/\e.gone=false/\btwK fr to k=true:=by
  intro k e
  unfold pickL
  constructor
  ·intro h
   split at h
   ·rename_i e' he
    split at h
    ·rename_i hc
     obtain rfl:=Option.some.inj h
     exact⟨hs.best.1 he,hc⟩
    ·cases h
   ·cases h
  ·rintro ⟨h1,h2⟩
   rw [hs.best.2 h1]
   simp [h2]
 have hkey:∀ {k:ByteArray} {e:Ent},pickL s fr to t k=some e->e.key=k:=fun h=>(hp.1 h).1.key
 refine⟨?_,fun e=>?_⟩
 ·rw [List.pairwise_filterMap]
  refine hz.asc.imp (fun {a b} hab x hx y hy=>?_)
  rw [hkey hx,hkey hy]
  exact hab
 ·rw [List.mem_filterMap]
  constructor
  ·rintro ⟨k,hk,he⟩
   have:=hkey he
   subst this
   exact hp.1 he
  ·rintro ⟨h1,h2,h3⟩
   refine⟨e.key,(hz.mem _).2 ?_,hp.2 ⟨h1,h2,h3⟩⟩
   have hin:e.key∈ks:=by
    rcases List.mem_append.1 h1.mem with h4 | h4
    ·exact hc.top e h4
    ·obtain⟨l,hl,he⟩:=List.mem_flatten.1 h4
     obtain⟨j,hj,rfl⟩:=List.getElem_of_mem hl
     exact hc.lev j hj hj e he h3
   exact⟨hin,hc.ok _ hin⟩
def ListOf (s:Sr) (fr to:ByteArray) (t:Int) (out:List Ent):Prop :=
 if storeOk s=true/\keyOk fr=true/\keyOk to=true/\knownR s t=true then Listed (entsR s) fr to t out else out=[]
end Go.Proofs.YtgoeenodllmdpaaGreat.B

namespace Go.Proofs.YtgoeenodllmdpaaGreat.B
open Go.RowKit Go.Proofs
set_option linter.unusedVariables false
set_option linter.unusedSimpArgs false
variable {E:Env}
def GaI (s:Sr) (fr to:ByteArray) (time:Int) (a b c d:AV) (H H1:Hp) (m:Nat) (t:Tm) (K:Hp):Prop:=∃ (i:Nat) (ks:List ByteArray) (u:AV),i+m=3/\t 1=.str fr/\t 2=.str to/\t 3=.int .i64 time/\t 4=.pt H.length 0 0/\t 9=u/\t 40=b/\t 41=.int .i64 3/\t 42=.int .i64 i/\HLe H1 K/\OwnS H1 K u ks/\Cov s fr to i ks
def LiI (s:Sr) (fr to:ByteArray) (time:Int) (H H1 H2:Hp) (zs:List ByteArray) (w:AV) (m:Nat) (t:Tm) (K:Hp):Prop:=∃ (i:Nat) (u:AV),i+m=zs.length/\t 1=.str fr/\t 2=.str to/\t 3=.int .i64 time/\t 4=.pt H.length 0 0/\t 12=u/\t 61=w/\t 62=.int .i64 zs.length/\t 63=.int .i64 i/\HLe H2 K/\OwnE H2 K u ((zs.take i).filterMap (pickL s fr to time))
set_option maxHeartbeats 1600000 in
theorem StoreList_ok (v:AV) (s:Sr) (fr to:ByteArray) (time:Int) (H:Hp) (hs:St H v s) (hb:StB s) (hv:storeOk s=true->Val s) (hfs:fr.size<4611686018427387904) (hts:to.size<4611686018427387904) :
  AC Tryz.prog E 22 [v,.str fr,.str to,.int .i64 time] H (fun u H'=>HLe H H'/\∃ out,OwnE H H' u out/\ListOf s fr to time out/\out.length<=400000):=by
 have hs0:=hs
 obtain⟨a,b,c,d,lr,sr,rfl,ha,hb1,hlr,hc,hsr,hd⟩:=hs
 refine AC_by fol (tC_le tabJ_ok) h_impl_StoreList ?_
 obtain⟨H1,hH1⟩:∃ H1:Hp,H1=H++[some ⟨[[a,b,c,.int .i64 s.keep,.int .i64 s.time,d]],6,28,false⟩]:=⟨_,rfl⟩
 have hle1:HLe H H1:=by rw [hH1]; exact HLe.self _ _
 have b0:H1.at H.length=some ⟨[[a,b,c,.int .i64 s.keep,.int .i64 s.time,d]],6,28,false⟩:=by rw [hH1]; simp
 simp [c_impl_StoreList,stAV,Rows.one ha,hb1.one,hc.one,Rows.one hd,<- hH1,b0]
 have hkeyF:∀ {C:CallP} {d:Option Nat} {ag} {p:Plan} {t:Tm} {H:Hp} {K:Tm->Hp->Prop},_:=@fun C d ag p t H K=>tabJ_key C d ag p t H K fr hfs
 have hkeyT:∀ {C:CallP} {d:Option Nat} {ag} {p:Plan} {t:Tm} {H:Hp} {K:Tm->Hp->Prop},_:=@fun C d ag p t H K=>tabJ_key C d ag p t H K to hts
 have non:(¬(storeOk s=true/\keyOk fr=true/\keyOk to=true/\knownR s time=true))->HLe H H1/\∃ out,OwnE H H1 .nils out/\ListOf s fr to time out/\out.length<=400000:=fun h=>⟨hle1,[],OwnM.nils,by unfold ListOf; rw [if_neg h],Nat.zero_le _⟩
 have cok:=implStoreOk_ok (E:=E) _ s H1 (hs0.le hle1) hb
 have ckn:=known_ok (E:=E) _ s time H1 (hs0.le hle1) hb
 simp only [stAV] at cok ckn
 refine cg_use cok ?_
 cases ho:storeOk s with
 | false =>
  simp
  exact non (fun h=>by rw [ho] at h; cases h.1)
 | true =>
  simp [hkeyF]
  cases hf:keyOk fr with
  | false =>
   simp
   exact non (fun h=>by rw [hf] at h; cases h.2.1)
  | true =>
   simp [hkeyT]
   cases ht:keyOk to with
   | false =>
    simp
    exact non (fun h=>by rw [ht] at h; cases h.2.2.1)
   | true =>
    simp [b0]
    refine cg_use ckn ?_
    cases hk:knownR s time with
    | false =>
     simp
     exact non (fun h=>by rw [hk] at h; cases h.2.2.2)
    | true =>
     have hval:=hv ho
     have hsm:=storeOk_small ho
     have e3:s.lev.length=3:=hsm.2.2.2.2.2.2.2.1
     have s3:s.sv.length=3:=hsm.2.2.2.2.2.2.2.2
     have ll:=hlr.length
     have ls:=hsr.length
     have l1:=hb1.len
     rw [ll,e3] at l1
     have tn:s.top.length<=1000:=hsm.1.1
     simp [b0]
     refine cg_ex (keysOf_ok a s.top H1 (ha.le hle1) (by omega)) ?_
     rintro u0 H2 ⟨hle2,hu0⟩
     have b2:=hle2.2 _ _ b0
     simp [b2,l1,hb1.slc]
     refine W_for (GaI s fr to time a b c d H H1) 3 ?_ (tC_mono AC_mono) ?_
     ·exact⟨0,keysR s.top,u0,by omega,by simp,by simp,by simp,by simp,by simp,by simp,by simp,by simp,hle2,hu0,Cov.zero hval (by omega)⟩
     rintro m t K ⟨i,ks,u,him,t1,t2,t3,t4,t9,t40,t41,t42,hle,hu,hcov⟩
     have hleH:=hle1.trans hle
     have bK:=hle.2 _ _ b0
     have hkl:=hcov.len
     simp [t1,t2,t3,t4,t9,t40,t41,t42]
     refine c_split (fun hq=>?_) (fun hq=>?_)<;>simp at hq
     ·have hi3:i<3:=by omega
      have hil:i<s.lev.length:=by omega
      have his:i<s.sv.length:=by omega
      have hw:=wrapN (i:=i) (by omega)
      obtain⟨o1,i1,ob1,rfl,x1,x2,x3⟩:=hb1.get (j:=i) (by omega)
      obtain⟨y,hy,hye⟩:=hlr.get i (by omega) hil
      rw [hy] at x3
      obtain⟨o2,i2,ob2,rfl,y1,y2,y3⟩:=hc.get (j:=i) (by omega)
      obtain⟨r,hr,hrs,_⟩:=hsr.get i (by omega) his
      rw [hr] at y3
      have x1':=hleH.2 _ _ x1
      have y1':=hleH.2 _ _ y1
      have q1:i<lr.length:=by omega
      have q2:i<sr.length:=by omega
      have hso:=storeOk_level ho hi3 hil his
      obtain⟨v1,v2,v3,v4⟩:=sieveO_some hso
      have hln:s.lev[i].length<=1000:=(hsm.2.1 _ (List.getElem_mem hil)).1
      simp [t1,t2,t3,t4,t9,t40,t41,t42,bK,x1',x2,x3,y1',y2,y3,q1,q2]
      have cM:=SieveMeets_ok (E:=E) (keysR s.lev[i]) s.keep r fr to K v1 ⟨v2,v3⟩ (by rw [<- v4]; exact hrs.le hleH) hfs hts
      rw [<- v4] at cM
      simp only [svAV] at cM
      refine cg_use cM ?_
      cases hm:meetsR (keysR s.lev[i]) s.keep fr to with
      | false =>
       simp [t1,t2,t3,t4,t9,t40,t41,t42,hw]
       refine⟨m-1,by omega,i+1,ks,u,by omega,by simp [t1],by simp [t2],by simp [t3],by simp [t4],by simp [t9],by simp [t40],by simp [t41],by simp,hle,hu,hcov.skip hil (fun e he hbt=>?_)⟩
       simp only [btwK,Bool.and_eq_true,Bool.not_eq_true'] at hbt
       have:=meets_sound (keep:=s.keep) v1 v2 hf ht (keysR_mem he) hbt.1 hbt.2
       rw [hm] at this
       cases this
      | true =>
       simp [t1,t2,t3,t4,t9,t40,t41,t42]
       refine cg_ex (keysOf_ok y s.lev[i] K (hye.le hleH) (by omega)) ?_
       rintro w K2 ⟨hleK,hw2⟩
       have hkk:=keysR_len s.lev[i]
       simp [t1,t2,t3,t4,t9,t40,t41,t42]
       refine appG_cat (row:=strRow) (bytes:=16) (H0:=H1) (hu.le hleK) hw2.rows (hle.trans hleK) (by omega) (fun v2 K3 g1 g2 g3 g4=>?_)
       simp [t1,t2,t3,t4,t9,t40,t41,t42,hw]
       exact⟨m-1,by omega,i+1,ks++keysR s.lev[i],v2,by omega,by simp [t1],by simp [t2],by simp [t3],by simp [t4],by simp,by simp [t40],by simp [t41],by simp,g1,g2,hcov.add hval hil (by omega)⟩
     ·have:i=3:=by omega
      subst this
      simp [t1,t2,t3,t4,t9]
      refine cg_ex (KeysSort_ok u ks K hu.rows (by omega) (fun k hk=>by have:=keyOk_size (hcov.ok k hk); omega)) ?_
      rintro w K2 ⟨hleK,zs,hzs,hkz⟩
      have hzl:=hkz.len
      have lz:=hzs.len
      rw [<- e3] at hcov
      have hL:=listed_of (fr:=fr) (to:=to) (t:=time) hval hcov hkz
      have hle12:=hle.trans hleK
      have bK2:=hleK.2 _ _ bK
      simp [t1,t2,t3,t4,lz,hzs.slc]
      refine W_for (LiI s fr to time H H1 K2 zs w) zs.length ?_ (tC_mono AC_mono) ?_
      ·exact⟨0,.nils,by omega,by simp [t1],by simp [t2],by simp [t3],by simp [t4],by simp,by simp,by simp,by simp,HLe.refl _,OwnM.nils⟩
      clear t1 t2 t3 t4 t9 t40 t41 t42
      rintro m t K3 ⟨i,y,him,t1,t2,t3,t4,t12,t61,t62,t63,hle3,hy⟩
      simp [t1,t2,t3,t4,t12,t61,t62,t63]
      refine c_split (fun hq=>?_) (fun hq=>?_)<;>simp at hq
      ·have hw:=wrapN (i:=i) (by omega)
       obtain⟨o1,i1,ob1,rfl,x1,x2,x3⟩:=(OwnS.strs hzs).get hq
       have x1':=hle3.2 _ _ x1
       have b3:=hle3.2 _ _ bK2
       have hkz2:keyOk zs[i]=true:=((hkz.mem _).1 (List.getElem_mem hq)).2
       simp [t1,t2,t3,t4,t12,t61,t62,t63,hq,x1',x2,x3,b3]
       have cF:=find_ok (E:=E) _ s zs[i] time K3 (hs0.le ((hle1.trans hle12).trans hle3)) hb ho hkz2
       simp only [stAV] at cF
       refine cg_use cF ?_
       have ez:(zs.take (i+1)).filterMap (pickL s fr to time)=(zs.take i).filterMap (pickL s fr to time)++(pickL s fr to time zs[i]).toList:=by
        rw [List.take_succ_eq_append_getElem hq,List.filterMap_append]
        congr 1
       cases hg:getR s zs[i] time with
       | none =>
        have hp:pickL s fr to time zs[i]=none:=by unfold pickL; rw [hg]
        rw [hp] at ez
        obtain⟨G,hG⟩:∃ G:Hp,G=K3++[some ⟨[[.str ⟨#[]⟩,.int .i64 0,.bool false,.int .i64 0]],4,99,false⟩]:=⟨_,rfl⟩
        have hleG:HLe K3 G:=by rw [hG]; exact HLe.self _ _
        simp [entAV,entRow]
        simp only [<- hG]
        simp [t1,t2,t3,t4,t12,t61,t62,t63,hw]
        exact⟨m-1,by omega,i+1,y,by omega,by simp [t1],by simp [t2],by simp [t3],by simp [t4],by simp [t12],by simp [t61],by simp [t62],by simp,hle3.trans hleG,by rw [ez]; simpa using hy.le hleG⟩
       | some e =>
        have hek:=(hval.best.1 hg).key
        obtain⟨ek,ev,eg,et⟩:=e
        have hek:ek=zs[i]:=hek
        obtain⟨G,hG⟩:∃ G:Hp,G=K3++[some ⟨[[.str ek,.int .i64 ev,.bool eg,.int .i64 et]],4,99,false⟩]:=⟨_,rfl⟩
        have hleG:HLe K3 G:=by rw [hG]; exact HLe.self _ _
        have bG:G.at K3.length=some ⟨[[.str ek,.int .i64 ev,.bool eg,.int .i64 et]],4,99,false⟩:=by rw [hG]; simp
        have hyl:=List.length_filterMap_le (pickL s fr to time) (zs.take i)
        rw [List.length_take] at hyl
        simp [entAV,entRow]
        simp only [<- hG]
        have hpn:¬(eg=false/\btwK fr to zs[i]=true)->(zs.take (i+1)).filterMap (pickL s fr to time)=(zs.take i).filterMap (pickL s fr to time):=fun h=>by
         have hp:pickL s fr to time zs[i]=none:=by unfold pickL; rw [hg]; simp only; rw [if_neg h]
         rw [ez,hp]
         simp
        cases heg:eg with
        | true =>
         simp [t1,t2,t3,t4,t12,t61,t62,t63,hw]
         exact⟨m-1,by omega,i+1,y,by omega,by simp [t1],by simp [t2],by simp [t3],by simp [t4],by simp [t12],by simp [t61],by simp [t62],by simp,hle3.trans hleG,by rw [hpn (by simp [heg])]; exact hy.le hleG⟩
        | false =>
         cases hl1:sless zs[i] fr with
         | true =>
          simp [t1,t2,t3,t4,t12,t61,t62,t63,hw,hl1]
          exact⟨m-1,by omega,i+1,y,by omega,by simp [t1],by simp [t2],by simp [t3],by simp [t4],by simp [t12],by simp [t61],by simp [t62],by simp,hle3.trans hleG,by rw [hpn (by simp [btwK,hl1])]; exact hy.le hleG⟩
         | false =>
          cases hl2:sless to zs[i] with
          | true =>
           simp [t1,t2,t3,t4,t12,t61,t62,t63,hw,hl1,hl2]
           exact⟨m-1,by omega,i+1,y,by omega,by simp [t1],by simp [t2],by simp [t3],by simp [t4],by simp [t12],by simp [t61],by simp [t62],by simp,hle3.trans hleG,by rw [hpn (by simp [btwK,hl1,hl2])]; exact hy.le hleG⟩
          | false =>
           subst heg
           have hp:pickL s fr to time zs[i]=some ⟨ek,ev,false,et⟩:=by unfold pickL; rw [hg]; simp [btwK,hl1,hl2]
           rw [hp] at ez
           simp [t1,t2,t3,t4,t12,t61,t62,t63,hw,hl1,hl2,bG]
           refine appG_add (y:=⟨ek,ev,false,et⟩) (row:=entRow) (bytes:=40) (H0:=K2) (hy.le hleG) (hle3.trans hleG) (by omega) rfl (fun v2 K4 g1 g2 g3 g4=>?_)
           simp [t1,t2,t3,t4,t12,t61,t62,t63,hw]
           exact⟨m-1,by omega,i+1,v2,by omega,by simp [t1],by simp [t2],by simp [t3],by simp [t4],by simp,by simp [t61],by simp [t62],by simp,g1,by rw [ez]; exact g2⟩
      ·have:i=zs.length:=by omega
       subst this
       rw [List.take_length] at hy
       simp [t12]
       exact⟨(hle1.trans hle12).trans hle3,_,hy.base (by have:=(hle1.trans hle12).1; omega),by unfold ListOf; rw [if_pos ⟨ho,hf,ht,hk⟩]; exact hL,by have:=List.length_filterMap_le (pickL s fr to time) zs; have:=hcov.len; omega⟩
end Go.Proofs.YtgoeenodllmdpaaGreat.B

namespace Go.Proofs.YtgoeenodllmdpaaGreat.B
open Go.RowKit Go.Proofs
set_option linter.unusedVariables false
set_option linter.unusedSimpArgs false
variable {E:Env}
def SameAt (s x:Sr) (t t':Int):Prop:=∀ fr to a b,ListOf s fr to t a->ListOf x fr to t' b->a=b
theorem SameAt.of {s x:Sr} {t t':Int} (hs:Val s) (hx:Val x) (hk:knownR s t=knownR x t') (h:knownR s t=true->∀ (k:ByteArray) (f:Ent),f.gone=false->(Best (entsR s) k t f↔Best (entsR x) k t' f)):SameAt s x t t':=by
 intro fr to a b ha hb
 unfold ListOf at ha hb
 rw [hs.ok,hk] at ha
 rw [hx.ok] at hb
 split at ha
 ·rename_i hc
  rw [if_pos hc] at hb
  refine ha.ext hb (fun e he=>?_)
  rw [h (hk.trans hc.2.2.2) e.key e he]
 ·rename_i hc
  rw [if_neg hc] at hb
  rw [ha,hb]
end Go.Proofs.YtgoeenodllmdpaaGreat.B

namespace Go.Proofs.YtgoeenodllmdpaaGreat.B
open Go.RowKit Go.Proofs
set_option linter.unusedVariables false
set_option linter.unusedSimpArgs false
variable {E:Env}
end Go.Proofs.YtgoeenodllmdpaaGreat.B

namespace Go.Proofs.YtgoeenodllmdpaaGreat.B
open Go.RowKit Go.Proofs
set_option linter.unusedVariables false
set_option linter.unusedSimpArgs false
variable {E:Env}
theorem St.parts {H:Hp} {a b c d:AV} {k t:Int} {s:Sr} (h:St H (.ag [a,b,c,.int .i64 k,.int .i64 t,d]) s):Ents H a s.top/\∃ lr,Rows 1 H b lr/\All2 (LvRow H) lr s.lev:=by
 obtain⟨a1,b1,c1,d1,lr,sr,e,h1,h2,h3,h4,h5,h6⟩:=h
 simp only [stAV,AV.ag.injEq,List.cons.injEq,and_true,true_and] at e
 obtain⟨rfl,rfl,rfl,_,_,rfl⟩:=e
 exact⟨h1,lr,h2,h3⟩
end Go.Proofs.YtgoeenodllmdpaaGreat.B

namespace Go.Proofs.YtgoeenodllmdpaaGreat.B
open Go.RowKit Go.Proofs
set_option linter.unusedVariables false
set_option linter.unusedSimpArgs false
variable {E:Env}
def SnI (q:Int) (H:Hp) (m:Nat) (t:Tm) (K:Hp):Prop:=∃ (i:Nat) (sv:AV) (sr:List (List AV)),i+m=3/\t 0=.int .i64 q/\t 2=.pt H.length 0 0/\t 4=.pt (H.length+2) 0 0/\t 12=.int .i64 i/\HLe H K /\
 K.at H.length=some ⟨[[.nils,.nils,.nils,.int .i64 0,.int .i64 0,.nils]],6,28,false⟩/\K.at (H.length+1)=some ⟨[[.nils],[.nils],[.nils]],1,23,false⟩ /\
 K.at (H.length+2)=some ⟨[[.nils,.sl (H.length+1) 0 3,sv,.int .i64 q,.int .i64 0,.nils]],6,28,false⟩/\Own 5 66 K sv sr/\(∀ x,sv.of x->H.length+3<=x)/\All2 (SvRow K (fun _=>False)) sr (List.replicate i (sv0 q))
set_option maxHeartbeats 1600000 in
theorem implNew_ok (q:Int) (hq:0<=q/\q<=5) (H:Hp):AC Tryz.prog E 20 [.int .i64 q] H (fun u H'=>HLe H H'/\∃ w s,newR q=some s/\u=.tu [w,.bool true]/\St H' w s):=by
 refine AC_by fol (tC_le tabJ_ok) h_impl_StoreNew ?_
 have hn:newR q=some ⟨[],List.replicate 3 [],List.replicate 3 (sv0 q),q,0,[]⟩:=by
  unfold newR
  rw [if_pos hq]
  rfl
 simp [c_impl_StoreNew]
 refine cg_use (isKeep_ok q _) ?_
 rw [decide_eq_true hq]
 simp
 refine W_for (SnI q H) 3 ?_ (tC_mono AC_mono) ?_
 ·exact⟨0,.nils,[],by omega,by simp,by simp,by simp,by simp,HLe.self _ _,by simp,by simp,by simp,Own.nils,fun x hx=>hx.elim,trivial⟩
 rintro m t K ⟨i,sv,sr,him,t0,t2,t4,t12,hle,k0,k1,k2,hsv,hsva,hsvr⟩
 simp [t0,t2,t4,t12]
 refine c_split (fun hq2=>?_) (fun hq2=>?_)<;>simp at hq2
 ·have hw:=wrapN (i:=i) (by omega)
  simp [t0,t2,t4,t12,k2]
  refine cg_ex (sieveOf_ok .nils [] q K Rows.nil (by decide) hq) ?_
  rintro v K2 ⟨hle2,r,rfl,hr⟩
  rw [sieveR_nil] at hr ⊢
  have k22:=hle2.2 _ _ k2
  have hr1:=Rows.one hr.rows
  have k2A:(K2++[some ⟨[[.str ⟨#[]⟩,.str ⟨#[]⟩,.str ⟨#[]⟩,r,.int .i64 q]],5,66,false⟩]:Hp).at (H.length+2)=_:=(HLe.self K2 _).2 _ _ k22
  simp [t0,t2,t4,t12,k22,k2A,svAV,hr1]
  refine appG_one' (bytes:=80) (R:=sr) rfl (hsv.le hle2) (by have:=hsvr.length; simp at this; omega) (fun v5 K5 g1 g2 g3=>?_)
  have hF2:Fr sv.of K K5:=(hle2.fr (S:=sv.of)).same g2
  have n0:¬sv.of H.length:=fun h=>by have:=hsva _ h; omega
  have n1:¬sv.of (H.length+1):=fun h=>by have:=hsva _ h; omega
  have n2:¬sv.of (H.length+2):=fun h=>by have:=hsva _ h; omega
  have k05:=hF2.2 _ _ n0 k0
  have k15:=hF2.2 _ _ n1 k1
  have k25:=hF2.2 _ _ n2 k2
  have u25:=Hp.at_lt k25
  have hl5:=g2.1
  have hl2:=hle2.1
  have hlK:=Hp.at_lt k2
  have v5a:∀ x,v5.of x->H.length+3<=x:=fun x hx=>(g3 x hx).elim (hsva x) (fun h=>by omega)
  have e5:∀ x ob,sv.of x->K.at x=some ob->ob.esz=5:=fun x ob hx ho=>hsv.esz hx ho
  simp [t0,t2,t4,t12,k25,u25,g1.rows.one,g1.rows.cells,g1.rows.cells1,hw,Hp.at_set]
  obtain⟨G,hG⟩:∃ G:Hp,G=List.set K5 (H.length+2) (some ⟨[[.nils,.sl (H.length+1) 0 3,v5,.int .i64 q,.int .i64 0,.nils]],6,28,false⟩):=⟨_,rfl⟩
  have F:Fr (fun x=>x=H.length+2) K5 G:=by rw [hG]; exact Fr.one _ _ _
  have kG2:G.at (H.length+2)=some ⟨[[.nils,.sl (H.length+1) 0 3,v5,.int .i64 q,.int .i64 0,.nils]],6,28,false⟩:=by rw [hG]; exact Hp.at_set _ u25
  rw [<- hG]
  have hFG:Fr (fun x=>sv.of x\/x=H.length+2) K G:=(hF2.mono (fun x hx=>.inl (.inl hx))).trans F (fun x hx=>.inl (.inr hx))
  have ns1:∀ x ob,(sv.of x\/x=H.length+2)->K.at x=some ob->ob.esz≠1\/False:=fun x ob hs ho=>by
   rcases hs with h | h
   ·rw [e5 x ob h ho]
    exact .inl (by decide)
   ·rw [h,k2] at ho
    cases ho
    exact .inl (by simp)
  refine⟨m-1,by omega,i+1,v5,sr++[[.str ⟨#[]⟩,.str ⟨#[]⟩,.str ⟨#[]⟩,r,.int .i64 q]],by omega,by simp [t0],by simp [t2],by simp [t4],by simp,(hle.fr_le hFG (fun x hx=>by rcases hx with h | h; (have:=hsva x h; omega); omega)),F.2 _ _ (by omega) k05,F.2 _ _ (by omega) k15,kG2,g1.fr F (fun x hx=>by have:=v5a x hx; omega),v5a,?_⟩
  rw [List.replicate_succ']
  refine (All2.mono (fun row sv' h=>SvRow.fr (X':=fun _=>False) h hFG ns1 (fun x _ hx=>hx)) hsvr).append ⟨⟨r,rfl,?_,fun x _ hx=>hx⟩,trivial⟩
  have hrr:Strs K5 r []:=hr.rows.fr g2 (fun x hx h=>by have:=hr.2 x hx; have:=hsv.lt h; omega)
  exact hrr.fr F (fun x hx h=>by have:=hr.2 x hx; omega)
 ·have hi3:i=3:=by omega
  subst hi3
  have u0:=Hp.at_lt k0
  have hs3:sr.length=3:=by rw [hsvr.length]; simp
  have hsvn:one sv=true:=Rows.one hsv.rows
  simp [t0,t2,t4,k0,k2,Hp.at_set,u0,hsvn]
  obtain⟨G,hG⟩:∃ G:Hp,G=List.set K H.length (some ⟨[[.nils,.sl (H.length+1) 0 3,sv,.int .i64 q,.int .i64 0,.nils]],6,28,false⟩):=⟨_,rfl⟩
  have F:Fr (fun x=>x=H.length) K G:=by rw [hG]; exact Fr.one _ _ _
  rw [<- hG]
  have h6:∀ x ob,x=H.length->K.at x=some ob->ob.esz=6:=fun x ob hx ho=>by
   rw [hx,k0] at ho
   cases ho
   rfl
  have hst:St K (.ag [.nils,.sl (H.length+1) 0 3,sv,.int .i64 q,.int .i64 0,.nils]) ⟨[],List.replicate 3 [],List.replicate 3 (sv0 q),q,0,[]⟩ :=
   ⟨.nils,.sl (H.length+1) 0 3,sv,.nils,[[.nils],[.nils],[.nils]],sr,rfl,Rows.nil,Rows.whole k1,⟨⟨.nils,rfl,Rows.nil⟩,⟨.nils,rfl,Rows.nil⟩,⟨.nils,rfl,Rows.nil⟩,trivial⟩,hsv.rows,hsvr,Rows.nil⟩
  exact⟨hle.fr_le F (fun x hx=>by omega),_,_,hn,rfl,hst.frE F (e:=6) (by simp) h6⟩
end Go.Proofs.YtgoeenodllmdpaaGreat.B

namespace Go.Proofs.YtgoeenodllmdpaaGreat.B
open Go.RowKit Go.Proofs
set_option linter.unusedVariables false
set_option linter.unusedSimpArgs false
structure Kept (s:Sr) (T:Int) (x:Sr):Prop where
 val:Val x
 mem:T∈x.tms
 seen:Seen T (entsR s) (entsR x)
theorem Kept.add {s x y:Sr} {T:Int} {e:Ent} (h:Kept s T x) (he:e.time=x.time+1) (hx:addR x e=some y):Kept s T y:=by
 have hv0:=h.val
 obtain⟨a,b,c,u,v,w,hv⟩:=hv0
 obtain⟨hyv,ht,hkp,htm,hek,z,hfd,hsub,hmem⟩:=add_V hv he hx
 have hT:=h.val.tms T h.mem
 have hz:∀ q∈entsR z,q.time<e.time:=fun q hq=>by
  have:=h.val.late q (hsub q hq)
  omega
 refine⟨hyv,by rw [htm]; exact h.mem,fun k f hf=>?_⟩
 rw [best_snoc hz hmem,h.seen k f hf,hfd T (.inl h.mem) k f hf]
 constructor
 ·intro hb
  exact .inr ⟨fun hc=>by omega,hb⟩
 ·rintro (⟨_,h2,_⟩ | ⟨_,h2⟩)
  ·omega
  ·exact h2
end Go.Proofs.YtgoeenodllmdpaaGreat.B

namespace Go.Proofs.YtgoeenodllmdpaaGreat.B
open Go.RowKit Go.Proofs
set_option linter.unusedVariables false
set_option linter.unusedSimpArgs false
theorem Kept.self {s:Sr} {t:Int} (h:Val s) (hm:t∈s.tms):Kept s t s:=⟨h,hm,fun k f _=>Iff.rfl⟩
theorem Kept.at {s x:Sr} {t:Int} (h:Kept s t x) (hs:Val s) (hm:t∈s.tms):SameAt x s t t :=
 SameAt.of h.val hs (by rw [known_iff.2 (.inl h.mem),known_iff.2 (.inl hm)]) (fun _ k f hf=>(h.seen k f hf).symm)
theorem add_past {s x:Sr} {e:Ent} (hs:Val s) (he:e.time=s.time+1) (hx:addR s e=some x):Val x/\x.time=s.time+1/\∀ t∈s.tms,SameAt x s t t:=by
 have hs0:=hs
 obtain⟨a,b,c,u,v,w,hv⟩:=hs0
 obtain⟨hxv,ht,_⟩:=add_V hv he hx
 exact⟨hxv,ht,fun t hm=>((Kept.self hs hm).add he hx).at hs hm⟩
theorem found_same {s x:Sr} {t:Int} (hs:Val s) (hx:Val x) (ht:x.time=s.time) (htm:x.tms=s.tms) (hf:Found s x) (h:t∈s.tms\/t=s.time):SameAt x s t t :=
 SameAt.of hx hs (by rw [known_iff.2 h,known_iff.2 (by rw [htm,ht]; exact h)]) (fun _ k f hg=>(hf t h k f hg).symm)
theorem down_past {s x:Sr} (hs:Val s) (hx:letR s=some x):Val x/\x.top=[]/\x.time=s.time/\x.tms=s.tms/\∀ t,(t∈s.tms\/t=s.time)->SameAt x s t t:=by
 have hs0:=hs
 obtain⟨a,b,c,u,v,w,hv⟩:=hs0
 unfold letR at hx
 rw [if_pos hs.ok] at hx
 obtain⟨h1,h2,h3,h4,h5,h6,h7⟩:=down_V hv hx
 exact⟨h1,h2,h3,h5,fun t ht=>found_same hs h1 h3 h5 h7 ht⟩
theorem join_past {s x:Sr} {l:Int} (hs:Val s) (hx:joinR s l=some x):Val x/\x.top=s.top/\x.time=s.time/\x.tms=s.tms/\∀ t,(t∈s.tms\/t=s.time)->SameAt x s t t:=by
 have hs0:=hs
 obtain⟨a,b,c,u,v,w,hv⟩:=hs0
 obtain⟨h1,h2,h3,h4,h5,h6,h7⟩:=join_V hv hx
 exact⟨h1,h2,h3,h5,fun t ht=>found_same hs h1 h3 h5 h7 ht⟩
theorem intoR_keep:∀ (n:Nat) {s x:Sr} {r:List Ent},intoR n s r=some x->∀ j,j+n<2->x.lev.getD j []=s.lev.getD j []
 | 0,s,x,r,h,j,hj=>by
  rw [intoR] at h
  obtain⟨v,hx,_,_⟩:=setR_some h
  rw [hx]
  simp only [List.getD_eq_getElem?_getD]
  rw [List.getElem?_set_ne (by omega)]
 | n+1,s,x,r,h,j,hj=>by
  have hne:∀ {y z:Sr} {q:List Ent},setR y (1-n) q=some z->z.lev.getD j []=y.lev.getD j []:=by
   intro y z q hz
   obtain⟨v,hx,_,_⟩:=setR_some hz
   rw [hx]
   simp only [List.getD_eq_getElem?_getD]
   rw [List.getElem?_set_ne (by omega)]
  rw [intoR] at h
  split at h
  ·rename_i z hz
   obtain rfl:=Option.some.inj h
   exact hne hz
  ·split at h
   ·cases h
   ·rename_i z hz
    rw [hne h]
    exact intoR_keep n hz j (by omega)
end Go.Proofs.YtgoeenodllmdpaaGreat.B

namespace Go.Proofs.YtgoeenodllmdpaaGreat.B
open Go.RowKit Go.Proofs
set_option linter.unusedVariables false
set_option linter.unusedSimpArgs false
theorem keys1_asc:∀ (r:List Ent) (p:Option Ent),r.Pairwise (fun a b=>ahead a b=true)->(∀ q,p=some q->∀ x∈r,ahead q x=true)->(keys1 p r).Pairwise (fun a b=>sless a b=true)/\∀ q,p=some q->∀ k∈keys1 p r,sless q.key k=true
 | [],p,_,_=>⟨List.Pairwise.nil,fun q _ k hk=>by cases hk⟩
 | e :: r,p,h,hp=>by
  obtain⟨h1,h2⟩:=List.pairwise_cons.1 h
  obtain⟨i1,i2⟩:=keys1_asc r (some e) h2 (fun q hq x hx=>by
   obtain rfl:=Option.some.inj hq
   exact h1 x hx)
  have ie:=i2 e rfl
  rw [keys1]
  by_cases hn:newK p e=true
  ·rw [if_pos hn]
   refine⟨List.pairwise_cons.2 ⟨ie,i1⟩,fun q hq k hk=>?_⟩
   have hqe:sless q.key e.key=true:=by
    rcases (ahead_iff _ _).1 (hp q hq e (by simp)) with h3 | h3
    ·exact h3
    ·rw [hq] at hn
     simp [newK,h3.1] at hn
   rcases List.mem_cons.1 hk with rfl | hk
   ·exact hqe
   ·exact sless_trans hqe (ie k hk)
  ·rw [if_neg hn]
   refine⟨i1,fun q hq k hk=>?_⟩
   rw [hq] at hn
   have:q.key=e.key:=by simpa [newK] using hn
   rw [this]
   exact ie k hk
theorem run_keys {r:List Ent} (h:runOk r=true) (hl:r.length<=24):keysOk (keysR r)=true:=by
 obtain⟨h1,h2,h3⟩:=runOk_pair h
 obtain⟨ks,hks⟩:∃ ks,ks=keysR r:=⟨_,rfl⟩
 have ha:ks.Pairwise (fun a b=>sless a b=true):=by
  rw [hks]
  exact (keys1_asc r none h1 (fun q hq=>by cases hq)).1
 have hm:∀ k∈ks,keyOk k=true:=by
  rw [hks]
  intro k hk
  obtain⟨e,he,rfl⟩:=keys1_mem none r k hk
  have:=h2 e he
  simp only [entOk,Bool.and_eq_true] at this
  exact this.1.1.1
 have hl2:ks.length<=24:=by
  rw [hks]
  have:=keysR_len r
  omega
 rw [<- hks]
 simp only [keysOk,decide_eq_true_eq]
 exact⟨fun i hi=>⟨hm _ (List.getElem_mem hi),fun h0=>List.pairwise_iff_getElem.1 ha (i-1) i (by omega) hi (by omega)⟩,hl2⟩
theorem setR_run {s:Sr} {i:Nat} {r:List Ent} (hk:0<=s.keep/\s.keep<=5) (hr:runOk r=true) (hi:i<=2):setR s i r=if r.length<=sizeL i then some { s with lev:=s.lev.set i r,sv:=s.sv.set i (sieveR (keysR r) s.keep) } else none:=by
 by_cases hl:r.length<=sizeL i
 ·have h24:r.length<=24:=by unfold sizeL at hl; omega
  unfold setR sieveO
  rw [if_pos ⟨run_keys hr h24,hk⟩]
 ·rw [if_neg hl]
  cases h:setR s i r with
  | none=>rfl
  | some x =>
   obtain⟨v,_,_,h3⟩:=setR_some h
   exact absurd h3 hl
structure Like (s y:Sr):Prop where
 top:s.top=y.top
 lev:s.lev=y.lev
 time:s.time=y.time
 ks:0<=s.keep/\s.keep<=5
 ky:0<=y.keep/\y.keep<=5
 tms:s.tms=y.tms\/s.tms=0 :: y.tms
def Pos (r:List Ent):Prop:=∀ e∈r,1<=e.time
theorem trim1_zero {ts:List Int}:∀ (r:List Ent) (p:Option Ent),Pos r->trim1 (0 :: ts) p r=trim1 ts p r
 | [],p,_=>rfl
 | e :: r,p,h=>by
  have he:=h e (by simp)
  have ih:=trim1_zero (ts:=ts) r (some e) (fun x hx=>h x (List.mem_cons_of_mem _ hx))
  have hs:seenB (0 :: ts) p e=seenB ts p e:=by
   unfold seenB
   cases p with
   | none=>rfl
   | some q =>
    simp only [List.any_cons]
    have:decide (e.time<=0)=false:=by simp; omega
    rw [this]
    simp
  rw [trim1,trim1,hs,ih]
theorem trimR_like {s y:Sr} (h:s.tms=y.tms\/s.tms=0 :: y.tms) {r:List Ent} (hr:Pos r) (b:Bool):trimR r s.tms b=trimR r y.tms b:=by
 rcases h with h | h
 ·rw [h]
 ·rw [h]
  unfold trimR
  rw [trim1_zero r none hr]
def LikeO (a b:Option Sr):Prop:=(a=none/\b=none)\/∃ x z,a=some x/\b=some z/\Like x z
theorem setR_like {s y:Sr} (h:Like s y) {i:Nat} {r:List Ent} (hr:runOk r=true) (hi:i<=2):LikeO (setR s i r) (setR y i r):=by
 rw [setR_run h.ks hr hi,setR_run h.ky hr hi]
 by_cases hl:r.length<=sizeL i
 ·rw [if_pos hl,if_pos hl]
  exact .inr ⟨_,_,rfl,rfl,h.top,by show s.lev.set i r=y.lev.set i r; rw [h.lev],h.time,h.ks,h.ky,h.tms⟩
 ·rw [if_neg hl,if_neg hl]
  exact .inl ⟨rfl,rfl⟩
theorem run_pos {r:List Ent} (h:runOk r=true):Pos r:=fun e he=>by
 have:=(runOk_pair h).2.1 e he
 simp only [entOk,Bool.and_eq_true,decide_eq_true_eq] at this
 exact this.2.1
theorem into0_like {s y:Sr} (h:Like s y) {r:List Ent} (hf:Fine r (s.lev.getD 2 [])):LikeO (intoR 0 s r) (intoR 0 y r):=by
 rw [intoR,intoR,<- h.lev,trimR_like h.tms (run_pos hf.run)]
 exact setR_like h (runOk_sub hf.run (trimR_sub _ _ _)) (Nat.le_refl _)
theorem intoS_like {s y:Sr} {n:Nat} (h:Like s y) {r:List Ent} (hn:n<=1) (hf:Fine r (s.lev.getD (1-n) [])) (ih:LikeO (intoR n s (s.lev.getD (1-n) [])) (intoR n y (s.lev.getD (1-n) []))):LikeO (intoR (n+1) s r) (intoR (n+1) y r):=by
 rw [intoR,intoR,<- h.lev]
 have h1:=setR_like h (i:=1-n) (runOk_sub hf.run (trimR_sub (joinL r (s.lev.getD (1-n) [])) s.tms false)) (by omega)
 rw [<- trimR_like h.tms (run_pos hf.run)]
 rcases h1 with ⟨e1,e2⟩ | ⟨x,z,e1,e2,hl⟩
 ·rw [e1,e2]
  rcases ih with ⟨e3,e4⟩ | ⟨x,z,e3,e4,hl⟩
  ·rw [e3,e4]
   exact .inl ⟨rfl,rfl⟩
  ·rw [e3,e4]
   simp only
   rw [<- trimR_like hl.tms (run_pos hf.ra)]
   exact setR_like hl (runOk_sub hf.ra (trimR_sub _ _ _)) (by omega)
 ·rw [e1,e2]
  exact .inr ⟨x,z,rfl,rfl,hl⟩
theorem down_like {s y:Sr} (h:Like s y) (ho:storeOk s=true):LikeO (downR s) (downR y):=by
 obtain⟨f0,f1,f2⟩:=store_fine ho
 have h':Like { s with top:=[] } { y with top:=[] }:=⟨rfl,h.lev,h.time,h.ks,h.ky,h.tms⟩
 unfold downR
 rw [<- h.top]
 refine intoS_like (n:=1) h' (Nat.le_refl _) f0 (intoS_like (n:=0) h' (by omega) f1 (into0_like h' f2))
theorem join_like {s y:Sr} (h:Like s y) (hs:storeOk s=true) (hy:storeOk y=true) (l:Int):LikeO (joinR s l) (joinR y l):=by
 obtain⟨f0,f1,f2⟩:=store_fine hs
 unfold joinR
 by_cases hl:0<=l/\l<=1
 ·rw [if_pos ⟨hs,hl⟩,if_pos ⟨hy,hl⟩,<- h.lev]
  obtain⟨i,hi,rfl⟩:∃ i:Nat,i<=1/\l=i:=⟨l.toNat,by omega,by omega⟩
  rw [show ((i:Nat):Int).toNat=i by omega]
  have h1:=setR_like h (i:=i) runOk_nil (by omega)
  rcases h1 with ⟨e1,e2⟩ | ⟨x,z,e1,e2,hxz⟩
  ·rw [e1,e2]
   exact .inl ⟨rfl,rfl⟩
  ·obtain⟨v,hx,_,_⟩:=setR_some e1
   rw [e1,e2]
   simp only
   have hxl:x.lev=s.lev.set i []:=by rw [hx]
   have hcase:i=0\/i=1:=by omega
   rcases hcase with rfl | rfl
   ·have g1:x.lev.getD 1 []=s.lev.getD 1 []:=by rw [hxl]; simp [List.getD]
    have g2:x.lev.getD 2 []=s.lev.getD 2 []:=by rw [hxl]; simp [List.getD]
    refine intoS_like (n:=0) hxz (by omega) (by rw [g1]; exact f1) ?_
    show LikeO (intoR 0 x (x.lev.getD 1 [])) (intoR 0 z (x.lev.getD 1 []))
    rw [g1]
    exact into0_like hxz (by rw [g2]; exact f2)
   ·have g2:x.lev.getD 2 []=s.lev.getD 2 []:=by rw [hxl]; simp [List.getD]
    exact into0_like hxz (by rw [g2]; exact f2)
 ·rw [if_neg (fun h=>hl h.2),if_neg (fun h=>hl h.2)]
  exact .inl ⟨rfl,rfl⟩
end Go.Proofs.YtgoeenodllmdpaaGreat.B

namespace Go.Proofs.YtgoeenodllmdpaaGreat.B
open Go.RowKit Go.Proofs
set_option linter.unusedVariables false
set_option linter.unusedSimpArgs false
variable {E:Env}
end Go.Proofs.YtgoeenodllmdpaaGreat.B

namespace Go.Proofs.YtgoeenodllmdpaaGreat.B
open Go.RowKit Go.Proofs
set_option linter.unusedVariables false
set_option linter.unusedSimpArgs false
variable {E:Env}
end Go.Proofs.YtgoeenodllmdpaaGreat.B

namespace Go.Proofs.YtgoeenodllmdpaaGreat.B
open Go.RowKit Go.Proofs
set_option linter.unusedVariables false
set_option linter.unusedSimpArgs false
end Go.Proofs.YtgoeenodllmdpaaGreat.B

namespace Go.Proofs.YtgoeenodllmdpaaGreat.B
open Go.RowKit Go.Proofs
set_option linter.unusedVariables false
set_option linter.unusedSimpArgs false
theorem len_set:∀ {l:List (List Ent)} {i:Nat} {q:List Ent},i<l.length->(l.set i q).flatten.length+(l.getD i []).length=l.flatten.length+q.length
 | [],i,q,h=>by simp at h
 | x :: l,0,q,h=>by
  simp only [List.set_cons_zero,List.flatten_cons,List.length_append,List.getD_cons_zero]
  omega
 | x :: l,i+1,q,h=>by
  have:=len_set (l:=l) (i:=i) (q:=q) (by simpa using h)
  simp only [List.set_cons_succ,List.flatten_cons,List.length_append,List.getD_cons_succ]
  omega
theorem setR_len {s x:Sr} {i:Nat} {q:List Ent} (h:setR s i q=some x) (h3:s.lev.length=3) (hi:i<=2):x.lev.length=3/\x.lev.flatten.length+(s.lev.getD i []).length=s.lev.flatten.length+q.length:=by
 obtain⟨v,hx,_,_⟩:=setR_some h
 rw [hx]
 exact⟨by simpa using h3,len_set (by omega)⟩
theorem intoR_len:∀ (n:Nat) {s x:Sr} {r:List Ent},n<=2->s.lev.length=3->intoR n s r=some x->x.lev.length=3/\x.lev.flatten.length<=s.lev.flatten.length+r.length
 | 0,s,x,r,hn,h3,h=>by
  rw [intoR] at h
  obtain⟨h1,h2⟩:=setR_len h h3 (by omega)
  have:=trimR_len (joinL r (s.lev.getD 2 [])) s.tms true
  rw [joinL_len] at this
  exact⟨h1,by omega⟩
 | n+1,s,x,r,hn,h3,h=>by
  rw [intoR] at h
  split at h
  ·rename_i z hz
   obtain rfl:=Option.some.inj h
   obtain⟨h1,h2⟩:=setR_len hz h3 (by omega)
   have:=trimR_len (joinL r (s.lev.getD (1-n) [])) s.tms false
   rw [joinL_len] at this
   exact⟨h1,by omega⟩
  ·split at h
   ·cases h
   ·rename_i z hz
    obtain⟨i1,i2⟩:=intoR_len n (by omega) h3 hz
    obtain⟨h1,h2⟩:=setR_len h i1 (by omega)
    have hk:z.lev.getD (1-n) []=s.lev.getD (1-n) []:=by
     rcases Nat.lt_or_ge n 2 with hh | hh
     ·have hcase:n=0\/n=1:=by omega
      rcases hcase with rfl | rfl
      ·exact intoR_keep 0 hz 1 (by omega)
      ·exact intoR_keep 1 hz 0 (by omega)
     ·omega
    have:=trimR_len r z.tms false
    rw [hk] at h2
    exact⟨h1,by omega⟩
theorem ents_len (s:Sr):(entsR s).length=s.top.length+s.lev.flatten.length:=by
 unfold entsR
 rw [List.length_append]
theorem down_len {s x:Sr} (hs:Val s) (hx:downR s=some x):(entsR x).length<=(entsR s).length:=by
 obtain⟨a,b,c,u,v,w,hv⟩:=hs
 obtain⟨_,h2,_⟩:=down_V hv hx
 have:=(intoR_len 2 (s:={ s with top:=[] }) (by omega) (by show s.lev.length=3; rw [hv.lev]; rfl) hx).2
 have e:({ s with top:=[] }:Sr).lev=s.lev:=rfl
 rw [e] at this
 rw [ents_len,ents_len,h2]
 simp only [List.length_nil]
 omega
theorem join_len {s x:Sr} {l:Int} (hs:Val s) (hx:joinR s l=some x):(entsR x).length<=(entsR s).length:=by
 obtain⟨a,b,c,u,v,w,hv⟩:=hs
 obtain⟨_,h2,_⟩:=join_V hv hx
 unfold joinR at hx
 split at hx
 case isFalse=>cases hx
 rename_i hl
 split at hx
 ·cases hx
 ·rename_i x0 h0
  obtain⟨k1,k2⟩:=setR_len h0 (by rw [hv.lev]; rfl) (by omega)
  have:=(intoR_len _ (by omega) k1 hx).2
  simp only [List.length_nil] at k2
  rw [ents_len,ents_len,h2]
  omega
theorem setR_fit {s:Sr} {i:Nat} {r:List Ent} (hk:0<=s.keep/\s.keep<=5) (hr:runOk r=true) (hi:i<=2) (hl:r.length<=sizeL i):∃ x,setR s i r=some x:=by
 rw [setR_run hk hr hi,if_pos hl]
 exact⟨_,rfl⟩
theorem setR_keep {s x:Sr} {i:Nat} {r:List Ent} (h:setR s i r=some x):x.keep=s.keep/\x.tms=s.tms:=by
 obtain⟨v,hx,_,_⟩:=setR_some h
 rw [hx]
 exact⟨rfl,rfl⟩
theorem down_few {s:Sr} (hs:Val s) (hl:(entsR s).length<=33):∃ x,downR s=some x:=by
 obtain⟨a,b,c,u,v,w,hv⟩:=hs
 obtain⟨f0,f1,f2⟩:=hv.fine
 have hen:s.top.length+(a.length+(b.length+c.length))<=33:=by
  rw [entsR_of hv.lev] at hl
  simpa using hl
 have ga:s.lev.getD 0 []=a:=by rw [hv.lev]; rfl
 have gb:s.lev.getD 1 []=b:=by rw [hv.lev]; rfl
 have gc:s.lev.getD 2 []=c:=by rw [hv.lev]; rfl
 obtain⟨S,hS⟩:∃ S:Sr,S={ s with top:=[] }:=⟨_,rfl⟩
 have sl:S.lev=s.lev:=by rw [hS]
 have sk:S.keep=s.keep:=by rw [hS]
 have st:S.tms=s.tms:=by rw [hS]
 have hk:0<=S.keep/\S.keep<=5:=by rw [sk]; exact hv.keep
 show ∃ x,intoR 2 { s with top:=[] } s.top=some x
 rw [<- hS,intoR,intoR,intoR]
 simp only [Nat.sub_self,Nat.sub_zero,sl,st,ga,gb,gc]
 have r0:=runOk_sub f0.run (trimR_sub (joinL s.top a) s.tms false)
 have r1:=runOk_sub f1.run (trimR_sub (joinL a b) s.tms false)
 have r2:=runOk_sub f2.run (trimR_sub (joinL b c) s.tms true)
 have hsub:∀ (l:List Ent) (ts:List Int) (b:Bool),(trimR l ts b).length<=l.length:=fun l ts b=>(trimR_sub l ts b).length_le
 have top8:∀ ts,(trimR s.top ts false).length<=sizeL 0:=fun ts=>by
  have:=hsub s.top ts false
  have:=hv.top4
  unfold sizeL
  omega
 have a16:∀ ts,(trimR a ts false).length<=sizeL 1:=fun ts=>by
  have:=hsub a ts false
  have:=hv.la.len
  unfold sizeL at this ⊢
  omega
 have rt:∀ ts,runOk (trimR s.top ts false)=true:=fun ts=>runOk_sub hv.top (trimR_sub _ _ _)
 have rA:∀ ts,runOk (trimR a ts false)=true:=fun ts=>runOk_sub hv.la.run (trimR_sub _ _ _)
 rw [setR_run hk r0 (by omega)]
 by_cases q0:(trimR (joinL s.top a) s.tms false).length<=sizeL 0
 ·rw [if_pos q0]
  exact⟨_,rfl⟩
 rw [if_neg q0]
 simp only
 by_cases q1:(trimR (joinL a b) s.tms false).length<=sizeL 1
 ·obtain⟨x1,h1⟩:=setR_fit hk r1 (by omega) q1
  obtain⟨k1,_⟩:=setR_keep h1
  rw [h1]
  simp only
  exact setR_fit (by rw [k1]; exact hk) (rt _) (by omega) (top8 _)
 rw [setR_run hk r1 (by omega),if_neg q1]
 simp only
 have q2:(trimR (joinL b c) s.tms true).length<=sizeL 2:=by
  have h0:=hsub (joinL s.top a) s.tms false
  have h2:=hsub (joinL b c) s.tms true
  rw [joinL_len] at h0 h2
  unfold sizeL at q0 ⊢
  omega
 obtain⟨x1,h1⟩:=setR_fit hk r2 (by omega) q2
 obtain⟨k1,_⟩:=setR_keep h1
 rw [h1]
 simp only
 obtain⟨x2,h2⟩:=setR_fit (s:=x1) (i:=1) (by rw [k1]; exact hk) (rA S.tms) (by omega) (a16 _)
 obtain⟨k2,t2⟩:=setR_keep h2
 have e:setR x1 1 (trimR a x1.tms false)=setR x1 1 (trimR a S.tms false):=by
  obtain⟨_,t1⟩:=setR_keep h1
  rw [t1]
 first | rw [e,h2] | rw [h2]
 simp only
 exact setR_fit (by rw [k2,k1]; exact hk) (rt _) (by omega) (top8 _)
theorem add_few {s:Sr} {e:Ent} (hs:Val s) (hl:(entsR s).length<=33) (he:entOk e=true):∃ x,addR s e=some x:=by
 unfold addR
 rw [if_pos (by rw [hs.ok,he]; rfl)]
 by_cases h4:4<=s.top.length
 ·obtain⟨x,hx⟩:=down_few hs hl
  rw [if_pos h4,hx]
  exact⟨_,rfl⟩
 ·rw [if_neg h4]
  exact⟨_,rfl⟩
theorem add_len {s x:Sr} {e:Ent} (hs:Val s) (hx:addR s e=some x):(entsR x).length<=(entsR s).length+1:=by
 unfold addR at hx
 split at hx
 case isFalse=>cases hx
 have key:∀ {y:Sr},(entsR { y with top:=joinL [e] y.top,time:=e.time }).length=(entsR y).length+1:=by
  intro y
  rw [ents_len,ents_len]
  simp only [joinL_len,List.length_singleton]
  omega
 by_cases h4:4<=s.top.length
 ·rw [if_pos h4] at hx
  cases hd:downR s with
  | none=>rw [hd] at hx; cases hx
  | some y =>
   rw [hd] at hx
   injection hx with hx
   rw [<- hx,key]
   have:=down_len hs hd
   omega
 ·rw [if_neg h4] at hx
  injection hx with hx
  rw [<- hx,key]
  exact Nat.le_refl _
end Go.Proofs.YtgoeenodllmdpaaGreat.B

namespace Go.Proofs.YtgoeenodllmdpaaGreat.B
open Go.RowKit Go.Proofs
set_option linter.unusedVariables false
set_option linter.unusedSimpArgs false
def entD (d:Dd) (t:Int):Ent:=if d.kind=1 then ⟨d.key,d.num,false,t⟩ else ⟨d.key,0,true,t⟩
theorem entD_time (d:Dd) (t:Int):(entD d t).time=t:=by unfold entD; split<;>rfl
theorem do_put {s:Sr} {d:Dd} (hk:d.kind=1\/d.kind=2):doR s d=addR s (entD d (s.time+1)):=by
 unfold doR entD putR takeR
 rcases hk with h | h
 ·rw [if_pos h,if_pos h]
 ·have:¬d.kind=1:=by omega
  rw [if_neg this,if_neg this,if_pos h]
theorem wr1_put {s x:Sr} {d:Dd} (hk:d.kind=1\/d.kind=2) (h:doR s d=some x):wr1 s d=[entD d x.time]:=by
 unfold wr1 entD
 rw [h]
 rcases hk with h | h
 ·simp only [if_pos h]
 ·have:¬d.kind=1:=by omega
  simp only [if_neg this,if_pos h]
theorem wr1_none {s:Sr} {d:Dd} (h1:d.kind≠1) (h2:d.kind≠2):wr1 s d=[]:=by
 unfold wr1
 split
 ·rfl
 ·rw [if_neg h1,if_neg h2]
end Go.Proofs.YtgoeenodllmdpaaGreat.B

namespace Go.Proofs.YtgoeenodllmdpaaGreat.B
open Go.RowKit Go.Proofs
set_option linter.unusedVariables false
set_option linter.unusedSimpArgs false
theorem LikeO.getD {a b:Option Sr} {s y:Sr} (h:LikeO a b) (h0:Like s y):Like (a.getD s) (b.getD y):=by
 rcases h with ⟨rfl,rfl⟩ | ⟨x,z,rfl,rfl,h⟩
 ·exact h0
 ·exact h
theorem add_like {s y:Sr} {e:Ent} (h:Like s y) (hs:storeOk s=true) (hy:storeOk y=true):LikeO (addR s e) (addR y e):=by
 unfold addR
 rw [hs,hy,<- h.top]
 by_cases he:entOk e=true
 ·rw [he]
  have hc:(true&&true)=true:=rfl
  rw [if_pos hc,if_pos hc]
  by_cases h4:4<=s.top.length
  ·rw [if_pos h4,if_pos h4]
   rcases down_like h hs with ⟨e1,e2⟩ | ⟨x,z,e1,e2,hl⟩
   ·rw [e1,e2]
    exact .inl ⟨rfl,rfl⟩
   ·rw [e1,e2]
    exact .inr ⟨_,_,rfl,rfl,by show joinL [e] x.top=joinL [e] z.top; rw [hl.top],hl.lev,rfl,hl.ks,hl.ky,hl.tms⟩
  ·rw [if_neg h4,if_neg h4]
   exact .inr ⟨_,_,rfl,rfl,by show joinL [e] s.top=joinL [e] y.top; rw [h.top],h.lev,rfl,h.ks,h.ky,h.tms⟩
 ·have hc:¬(true&&entOk e)=true:=by simpa using he
  rw [if_neg hc,if_neg hc]
  exact .inl ⟨rfl,rfl⟩
theorem free_getD {s:Sr} {n:Int} (hs:storeOk s=true):(freeR s n).getD s={ s with tms:=s.tms.filter (fun y=>!decide (y=n)) }:=by
 unfold freeR
 rw [if_pos hs]
 simp only
 by_cases h:(s.tms.filter (fun y=>!decide (y=n))).length=s.tms.length
 ·rw [if_pos h,List.length_filter_eq_length_iff] at *
  have:s.tms.filter (fun y=>!decide (y=n))=s.tms:=by
   rw [List.filter_eq_self]
   exact h
  rw [this]
  rfl
 ·rw [if_neg h]
  rfl
def holdT (s:Sr):List Int:=if s.time∈s.tms then s.tms else if s.tms.length+1<=3 then s.tms++[s.time] else s.tms
theorem hold_getD {s:Sr} (hs:storeOk s=true):(holdR s).getD s={ s with tms:=holdT s }:=by
 rw [<- holdI_eq hs]
 unfold holdI holdT
 by_cases h1:s.time∈s.tms
 ·rw [if_pos h1,if_pos h1]
  rfl
 ·rw [if_neg h1,if_neg h1]
  by_cases h2:s.tms.length+1<=3
  ·rw [if_pos h2,if_pos h2]
   rfl
  ·rw [if_neg h2,if_neg h2]
   rfl
theorem Like.setT {s y:Sr} {a b:List Int} (h:Like s y) (ht:a=b\/a=0 :: b):Like { s with tms:=a } { y with tms:=b }:=⟨h.top,h.lev,h.time,h.ks,h.ky,ht⟩
theorem Val.tmo {s:Sr} (h:Val s):s.tms.Pairwise (·<·)/\s.tms.length<=3:=by
 obtain⟨a,b,c,u,v,w,hv⟩:=h
 have:=hv.tms
 simp only [timesR,Bool.and_eq_true,decide_eq_true_eq] at this
 exact⟨((asc1_iff _ _ _).1 this.1).2,this.2⟩
theorem hold_like {s y:Sr} (h:Like s y) (hs:Val s) (hy:Val y):((holdT s=holdT y\/holdT s=0 :: holdT y)/\(holdT y).length<=y.tms.length+1)\/2<=y.tms.length:=by
 rcases h.tms with e | e
 ·left
  have:holdT s=holdT y:=by unfold holdT; rw [e,h.time]
  refine⟨.inl this,?_⟩
  unfold holdT
  split
  ·omega
  ·split
   ·simp
   ·omega
 ·by_cases h2:2<=y.tms.length
  ·exact .inr h2
  left
  obtain⟨p1,p2⟩:=hs.tmo
  rw [e] at p1
  obtain⟨p3,_⟩:=List.pairwise_cons.1 p1
  have h0:∀ z∈y.tms,0<z:=p3
  have hlen:(holdT y).length<=y.tms.length+1:=by
   unfold holdT
   split
   ·omega
   ·split
    ·simp
    ·omega
  refine⟨?_,hlen⟩
  have hle:=hy.tms
  rw [<- h.time] at hle
  unfold holdT
  rw [e,<- h.time]
  by_cases hm:s.time∈y.tms
  ·rw [if_pos (List.mem_cons_of_mem _ hm),if_pos hm]
   exact .inr rfl
  ·rw [if_neg hm]
   by_cases hz:s.time=0
   ·have hn:y.tms=[]:=by
     cases hq:y.tms with
     | nil=>rfl
     | cons z zs =>
      have a1:=h0 z (by rw [hq]; simp)
      have a2:=hle z (by rw [hq]; simp)
      omega
    rw [hz,hn]
    exact .inl rfl
   ·have hm2:¬s.time∈(0 :: y.tms):=by
     intro hc
     rcases List.mem_cons.1 hc with g | g
     ·exact hz g
     ·exact hm g
    rw [if_neg hm2]
    have q1:(0 :: y.tms).length+1<=3:=by simp; omega
    have q2:y.tms.length+1<=3:=by omega
    rw [if_pos q1,if_pos q2]
    exact .inr rfl
structure Tw (s y:Sr) (all:List Ent) (k:Nat):Prop where
 hs:Hist s all
 hy:Hist y all
 time:s.time=y.time
 top:s.top=y.top
 room:(Like s y/\(entsR s).length+y.tms.length<=k)\/(Like s y/\∃ h,y.tms.length<=h/\(entsR s).length+h<=k)\/((entsR s).length+3<=k/\(entsR y).length+3<=k)
theorem Hist.step {s:Sr} {all:List Ent} (h:Hist s all) (d:Dd):Hist ((doR s d).getD s) (all++wr1 s d):=by
 cases hd:doR s d with
 | none =>
  have hw:wr1 s d=[]:=by unfold wr1; rw [hd]
  rw [hw,List.append_nil]
  exact h
 | some x=>exact h.do hd
theorem entsR_like {s y:Sr} (h:Like s y):entsR s=entsR y:=by unfold entsR; rw [h.top,h.lev]
theorem room_of {s y:Sr} {k h:Nat} (hl:Like s y) (h1:y.tms.length<=h) (h2:(entsR s).length+h<=k):(Like s y/\(entsR s).length+y.tms.length<=k)\/(Like s y/\∃ h,y.tms.length<=h/\(entsR s).length+h<=k)\/((entsR s).length+3<=k/\(entsR y).length+3<=k):=.inl ⟨hl,by omega⟩
theorem tw_step {s y:Sr} {all:List Ent} {k:Nat} (h:Tw s y all k) (hk:k<=36) (d:Dd):∃ al,Tw ((doR s d).getD s) ((doR y d).getD y) al (k+1):=by
 have hs:=h.hs.val
 have hy:=h.hy.val
 have H1:=h.hs.step d
 have H2:=h.hy.step d
 have R:(Like s y/\(entsR s).length+y.tms.length<=k)\/((entsR s).length+3<=k/\(entsR y).length+3<=k):=by
  rcases h.room with g | ⟨g,n,g1,g2⟩ | g
  ·exact .inl g
  ·exact .inl ⟨g,by omega⟩
  ·exact .inr g
 by_cases k12:d.kind=1\/d.kind=2
 ·
  rcases R with ⟨hl,hr⟩ | ⟨r1,r2⟩
  ·have hA:=add_like (e:=entD d (s.time+1)) hl hs.ok hy.ok
   have e1:doR s d=addR s (entD d (s.time+1)):=do_put k12
   have e2:doR y d=addR y (entD d (s.time+1)):=by rw [do_put k12,h.time]
   rcases hA with ⟨a1,a2⟩ | ⟨x,z,a1,a2,hxz⟩
   ·rw [e1,e2,a1,a2]
    exact⟨all,h.hs,h.hy,h.time,h.top,.inl ⟨hl,by show (entsR s).length+y.tms.length<=_; omega⟩⟩
   ·have d1:doR s d=some x:=by rw [e1,a1]
    have d2:doR y d=some z:=by rw [e2,a2]
    rw [wr1_put k12 d1,d1] at H1
    rw [wr1_put k12 d2,<- hxz.time,d2] at H2
    rw [d1,d2]
    obtain⟨_,_,_,_,_,_,hv⟩:=hy
    have ht:z.tms=y.tms:=(add_V hv (by rw [entD_time,h.time]) a2).2.2.2.1
    have:=add_len hs a1
    exact⟨_,H1,H2,hxz.time,hxz.top,.inl ⟨hxz,by show (entsR x).length+z.tms.length<=_; rw [ht]; omega⟩⟩
  ·by_cases he:entOk (entD d (s.time+1))=true
   ·obtain⟨x,hx⟩:=add_few hs (by omega) he
    obtain⟨z,hz⟩:=add_few hy (by omega) (e:=entD d (y.time+1)) (by rw [<- h.time]; exact he)
    have d1:doR s d=some x:=by rw [do_put k12,hx]
    have d2:doR y d=some z:=by rw [do_put k12,hz]
    obtain⟨_,tx,_⟩:=add_past hs (entD_time _ _) hx
    obtain⟨_,tz,_⟩:=add_past hy (entD_time _ _) hz
    have ht:x.time=z.time:=by rw [tx,tz,h.time]
    rw [wr1_put k12 d1,d1] at H1
    rw [wr1_put k12 d2,<- ht,d2] at H2
    rw [d1,d2]
    have htop:∀ {p q:Sr} {e:Ent},Val p->addR p e=some q->q.top=joinL [e] (if 4<=p.top.length then [] else p.top):=by
     intro p q e hp hq
     unfold addR at hq
     split at hq
     case isFalse=>cases hq
     by_cases h4:4<=p.top.length
     ·rw [if_pos h4] at hq ⊢
      cases hd:downR p with
      | none=>rw [hd] at hq; cases hq
      | some r =>
       rw [hd] at hq
       injection hq with hq
       obtain⟨_,_,_,_,_,_,hv⟩:=hp
       have:=(down_V hv hd).2.1
       rw [<- hq]
       simp only [this]
     ·rw [if_neg h4] at hq ⊢
      injection hq with hq
      rw [<- hq]
    have l1:=add_len hs hx
    have l2:=add_len hy hz
    exact⟨_,H1,H2,ht,by show x.top=z.top; rw [htop hs hx,htop hy hz,h.top,h.time],.inr (.inr ⟨by show (entsR x).length+3<=_; omega,by show (entsR z).length+3<=_; omega⟩)⟩
   ·have non:∀ {q:Sr},q.time=s.time->doR q d=none:=fun {q} hq=>by
     rw [do_put k12]
     unfold addR
     rw [if_neg]
     rw [hq]
     simp only [Bool.and_eq_true]
     exact fun hc=>he hc.2
    rw [non rfl,non h.time.symm]
    exact⟨all,h.hs,h.hy,h.time,h.top,.inr (.inr ⟨by show (entsR s).length+3<=_; omega,by show (entsR y).length+3<=_; omega⟩)⟩
 have n1:d.kind≠1:=fun e=>k12 (.inl e)
 have n2:d.kind≠2:=fun e=>k12 (.inr e)
 rw [wr1_none n1 n2,List.append_nil] at H1 H2
 refine⟨all,H1,H2,?_,?_,?_⟩
 all_goals clear H1 H2
 all_goals
  unfold doR
  rw [if_neg n1,if_neg n1,if_neg n2,if_neg n2]
 ·
  by_cases k3:d.kind=3
  ·rw [if_pos k3,if_pos k3,hold_getD hs.ok,hold_getD hy.ok]
   exact h.time
  rw [if_neg k3,if_neg k3]
  by_cases k4:d.kind=4
  ·rw [if_pos k4,if_pos k4,free_getD hs.ok,free_getD hy.ok]
   exact h.time
  rw [if_neg k4,if_neg k4]
  have ht:∀ {p:Sr},Val p->((letR p).getD p).time=p.time:=fun {p} hp=>by
   cases hq:letR p with
   | none=>rfl
   | some q=>exact (down_past hp hq).2.2.1
  have hj:∀ {p:Sr},Val p->((joinR p d.num).getD p).time=p.time:=fun {p} hp=>by
   cases hq:joinR p d.num with
   | none=>rfl
   | some q=>exact (join_past hp hq).2.2.1
  by_cases k5:d.kind=5
  ·rw [if_pos k5,if_pos k5,ht hs,ht hy,h.time]
  rw [if_neg k5,if_neg k5]
  by_cases k6:d.kind=6
  ·rw [if_pos k6,if_pos k6,hj hs,hj hy,h.time]
  rw [if_neg k6,if_neg k6]
  exact h.time
 ·
  by_cases k3:d.kind=3
  ·rw [if_pos k3,if_pos k3,hold_getD hs.ok,hold_getD hy.ok]
   exact h.top
  rw [if_neg k3,if_neg k3]
  by_cases k4:d.kind=4
  ·rw [if_pos k4,if_pos k4,free_getD hs.ok,free_getD hy.ok]
   exact h.top
  rw [if_neg k4,if_neg k4]
  by_cases k5:d.kind=5
  ·rw [if_pos k5,if_pos k5]
   rcases R with ⟨hl,hr⟩ | ⟨r1,r2⟩
   ·have hD:LikeO (letR s) (letR y):=by
     unfold letR
     rw [if_pos hs.ok,if_pos hy.ok]
     exact down_like hl hs.ok
    exact (hD.getD hl).top
   ·obtain⟨x,hx⟩:=down_few hs (by omega)
    obtain⟨z,hz⟩:=down_few hy (by omega)
    have g1:letR s=some x:=by unfold letR; rw [if_pos hs.ok,hx]
    have g2:letR y=some z:=by unfold letR; rw [if_pos hy.ok,hz]
    rw [g1,g2]
    show x.top=z.top
    rw [(down_past hs g1).2.1,(down_past hy g2).2.1]
  rw [if_neg k5,if_neg k5]
  have hj:∀ {p:Sr},Val p->((joinR p d.num).getD p).top=p.top:=fun {p} hp=>by
   cases hq:joinR p d.num with
   | none=>rfl
   | some q=>exact (join_past hp hq).2.1
  by_cases k6:d.kind=6
  ·rw [if_pos k6,if_pos k6,hj hs,hj hy,h.top]
  rw [if_neg k6,if_neg k6]
  exact h.top
 ·
  by_cases k3:d.kind=3
  ·rw [if_pos k3,if_pos k3,hold_getD hs.ok,hold_getD hy.ok]
   have es:entsR { s with tms:=holdT s }=entsR s:=rfl
   have ey:entsR { y with tms:=holdT y }=entsR y:=rfl
   rw [es,ey]
   rcases R with ⟨hl,hr⟩ | ⟨r1,r2⟩
   ·rcases hold_like hl hs hy with ⟨g1,g2⟩ | g
    ·exact .inl ⟨hl.setT g1,by show (entsR s).length+(holdT y).length<=_; omega⟩
    ·rw [<- entsR_like hl]
     exact .inr (.inr ⟨by omega,by omega⟩)
   ·exact .inr (.inr ⟨by omega,by omega⟩)
  rw [if_neg k3,if_neg k3]
  by_cases k4:d.kind=4
  ·rw [if_pos k4,if_pos k4,free_getD hs.ok,free_getD hy.ok]
   rcases R with ⟨hl,hr⟩ | ⟨r1,r2⟩
   ·have g2:=List.length_filter_le (fun y=>!decide (y=d.num)) y.tms
    refine .inl ⟨hl.setT ?_,by show (entsR s).length+(y.tms.filter _).length<=_; omega⟩
    rcases hl.tms with e | e
    ·exact .inl (by rw [e])
    ·rw [e]
     by_cases hz:(0:Int)=d.num
     ·left
      rw [List.filter_cons_of_neg (by simp [hz])]
     ·right
      rw [List.filter_cons_of_pos (by simp [hz])]
   ·exact .inr (.inr ⟨by show (entsR s).length+3<=_; omega,by show (entsR y).length+3<=_; omega⟩)
  rw [if_neg k4,if_neg k4]
  have hld:∀ {p:Sr},Val p->(entsR ((letR p).getD p)).length<=(entsR p).length/\((letR p).getD p).tms=p.tms:=fun {p} hp=>by
   cases hq:letR p with
   | none=>exact⟨Nat.le_refl _,rfl⟩
   | some q =>
    refine⟨?_,(down_past hp hq).2.2.2.1⟩
    unfold letR at hq
    rw [if_pos hp.ok] at hq
    exact down_len hp hq
  have hlj:∀ {p:Sr},Val p->(entsR ((joinR p d.num).getD p)).length<=(entsR p).length/\((joinR p d.num).getD p).tms=p.tms:=fun {p} hp=>by
   cases hq:joinR p d.num with
   | none=>exact⟨Nat.le_refl _,rfl⟩
   | some q=>exact⟨join_len hp hq,(join_past hp hq).2.2.2.1⟩
  by_cases k5:d.kind=5
  ·rw [if_pos k5,if_pos k5]
   obtain⟨a1,a2⟩:=hld hs
   obtain⟨b1,b2⟩:=hld hy
   rcases R with ⟨hl,hr⟩ | ⟨r1,r2⟩
   ·have hD:LikeO (letR s) (letR y):=by
     unfold letR
     rw [if_pos hs.ok,if_pos hy.ok]
     exact down_like hl hs.ok
    exact .inl ⟨hD.getD hl,by rw [b2]; omega⟩
   ·exact .inr (.inr ⟨by omega,by omega⟩)
  rw [if_neg k5,if_neg k5]
  by_cases k6:d.kind=6
  ·rw [if_pos k6,if_pos k6]
   obtain⟨a1,a2⟩:=hlj hs
   obtain⟨b1,b2⟩:=hlj hy
   rcases R with ⟨hl,hr⟩ | ⟨r1,r2⟩
   ·exact .inl ⟨(join_like hl hs.ok hy.ok d.num).getD hl,by rw [b2]; omega⟩
   ·exact .inr (.inr ⟨by omega,by omega⟩)
  rw [if_neg k6,if_neg k6]
  rcases R with ⟨hl,hr⟩ | ⟨r1,r2⟩
  ·exact .inl ⟨hl,by show (entsR s).length+y.tms.length<=_; omega⟩
  ·exact .inr (.inr ⟨by show (entsR s).length+3<=_; omega,by show (entsR y).length+3<=_; omega⟩)
theorem tw_all {s y:Sr} {ds:List Dd} {all:List Ent} (h0:Tw s y all 0) (hl:ds.length<=37):∀ i,i<=ds.length->∃ al,Tw (doAll s (ds.take i)) (doAll y (ds.take i)) al i
 | 0,_=>⟨all,h0⟩
 | i+1,hi=>by
  obtain⟨al,h⟩:=tw_all h0 hl i (by omega)
  have hi':i<ds.length:=by omega
  rw [doAll_step s ds hi',doAll_step y ds hi']
  exact tw_step h (by omega) _
theorem past_keep {s y:Sr} {q:Int} {ds:List Dd} (hs:Val s) (ht:s.time<=0) (hy:newR q=some y) (hl:ds.length<=37):∃ x z,pastR s ds=some x/\pastR y ds=some z/\Val x/\Val z/\x.top=z.top/\x.time=z.time/\SameAt x z x.time z.time:=by
 have hs0:=hs
 obtain⟨a,b,c,u,v,w,hv⟩:=hs0
 have hyv:=newR_V hy
 have hn:entsR s=[]:=by
  cases he:entsR s with
  | nil=>rfl
  | cons e r =>
   have h1:=hs.late e (by rw [he]; simp)
   have h2:=hs.ent e (by rw [he]; simp)
   simp only [entOk,Bool.and_eq_true,decide_eq_true_eq] at h2
   omega
 have hy2:=hy
 unfold newR at hy2
 split at hy2
 case isFalse=>cases hy2
 rename_i hq
 injection hy2 with hy2
 have hst:s.time=0:=by have:=hv.time.1; omega
 have htms:s.tms=[]\/s.tms=[0]:=by
  have h1:=hs.tmo.1
  have h2:=hs.tms
  have h3:∀ t∈s.tms,0<=t:=fun t ht=>by
   have:=hv.tms
   simp only [timesR,Bool.and_eq_true] at this
   exact (asc1_bnd _ _ _ this.1 t ht).1
  cases hm:s.tms with
  | nil=>exact .inl rfl
  | cons t ts =>
   have a1:=h2 t (by rw [hm]; simp)
   have a2:=h3 t (by rw [hm]; simp)
   have:t=0:=by omega
   subst this
   cases ts with
   | nil=>exact .inr rfl
   | cons t2 ts =>
    have a3:=h2 t2 (by rw [hm]; simp)
    rw [hm] at h1
    have a4:=(List.pairwise_cons.1 h1).1 t2 (by simp)
    omega
 have hnil:s.top=[]/\a=[]/\b=[]/\c=[]:=by
  rw [entsR_of hv.lev] at hn
  simpa using hn
 have hlike:Like s y:=by
  rw [<- hy2]
  exact⟨hnil.1,by rw [hv.lev,hnil.2.1,hnil.2.2.1,hnil.2.2.2],hst,hv.keep,hq,htms⟩
 have h0:Tw s y [] 0:=⟨Hist.start hs ht,Hist.start hyv (by rw [<- hy2]; exact Int.le_refl _),hlike.time,hlike.top,.inl ⟨hlike,by rw [hn,<- hy2]; simp⟩⟩
 obtain⟨al,h⟩:=tw_all h0 hl ds.length (Nat.le_refl _)
 rw [List.take_length] at h
 have hp:∀ {p:Sr},Val p->pastR p ds=some (doAll p ds):=fun hp=>by
  unfold pastR
  rw [if_pos (by rw [hp.ok]; simp; omega)]
 refine⟨_,_,hp hs,hp hyv,h.hs.val,h.hy.val,h.top,h.time,SameAt.of h.hs.val h.hy.val (by rw [known_now,known_now]) (fun _ k f hf=>?_)⟩
 have e1:=h.hs.same _ (known_now _) k f hf
 have e2:=h.hy.same _ (known_now _) k f hf
 rw [e1,e2,h.time]
end Go.Proofs.YtgoeenodllmdpaaGreat.B

namespace Go.Proofs.YtgoeenodllmdpaaGreat.B
open Go.RowKit Go.Proofs
set_option linter.unusedVariables false
set_option linter.unusedSimpArgs false
variable {E:Env}
set_option maxHeartbeats 3200000 in
theorem lawPastKeep_ok (c c2:AV) (bs bs2:List Int) (H:Hp) (hc:Bytes H c bs) (hn:bs.length<4611686018427387904) (hc2:Bytes H c2 bs2) (hn2:bs2.length<4611686018427387904) :
  AC Tryz.prog E 3 [c,c2] H (fun v H'=>v=.bool true):=by
 refine AC_by fol (tC_le tabJ_ok) h_laws_FnPastKeep ?_
 have l1:=hc.len
 have l2:=hc2.len
 simp [c_laws_FnPastKeep,l1,l2,hc.1.slc,hc2.1.slc]
 by_cases q1:1048576<bs.length
 ·have q1I:(1048576:Int)<bs.length:=by omega
  simp [q1,q1I]
 by_cases q2:1048576<bs2.length
 ·have q1I:¬(1048576:Int)<bs.length:=by omega
  have q2I:(1048576:Int)<bs2.length:=by omega
  simp [q1,q1I,q2,q2I,l2,hc2.1.slc]
 have q1I:¬(1048576:Int)<bs.length:=by omega
 have q2I:¬(1048576:Int)<bs2.length:=by omega
 simp [q1,q1I,q2,q2I,l2,hc2.1.slc]
 refine cg_ex (DrawPastAll_ok c bs H hc hn) ?_
 rintro v H1 ⟨w,dv,s,ds,rfl,hle1,hs,hsb,hsp,hds,hdl,hdk⟩
 have hkk:∀ d∈ds,d.key.size<4611686018427387904:=fun d hd=>by have:=hdk d hd; omega
 obtain⟨xa,xb,xc,xd,rfl,n1,n2,n3,n4,_⟩:=hs.shape
 obtain⟨H2,hH2⟩:∃ H2:Hp,H2=H1++[some ⟨[[xa,xb,xc,.int .i64 s.keep,.int .i64 s.time,xd]],6,28,false⟩]:=⟨_,rfl⟩
 obtain⟨hle2,b2,hs2⟩:=St.box hs hH2
 have hds2:Dds H2 dv ds:=Rows.le hds hle2
 obtain⟨R,hR⟩:∃ R,R=((pastI s ds).map (·.2)).getD []:=⟨_,rfl⟩
 have hRl:R.length<=41:=by
  have:=pastI_len (s:=s) (ds:=ds)
  rw [hR]
  omega
 simp [n1,n2,n3,n4,<- hH2,b2]
 refine cg_ex (implPastAll_ok _ dv s ds H2 hs2 hsb hds2 hkk) ?_
 rw [<- hR]
 rintro g H4 ⟨hle4,hg⟩
 have b4:=hle4.2 _ _ b2
 have hs4:=hs2.le hle4
 have hds4:Dds H4 dv ds:=Rows.le hds2 hle4
 simp [b4]
 refine cg_ex (PastAll_ok _ dv s ds H4 hs4 hsb hds4 hkk) ?_
 rw [<- hR]
 rintro v5 H5 ⟨hle5,hv5⟩
 have b5:=hle5.2 _ _ b4
 have hs5:=hs4.le hle5
 have hds5:Dds H5 dv ds:=Rows.le hds4 hle5
 have hg5:=hg.le hle5
 simp [-RgP_both]
 refine cg_use (ltRuns_same hg5.ents hv5.ents (by omega)) ?_
 simp [b5]
 refine cg_use (StoreOk_ok _ s H5 hs5 hsb) ?_
 by_cases hgood:storeOk s=true/\s.time<=0
 rotate_left
 ·have fin:AC Tryz.prog E 18 [.ag [xa,xb,xc,.int .i64 s.keep,.int .i64 s.time,xd],dv] H5 (fun w H'=>HLe H5 H'/\OwnE H5 H' w R):=by
   rw [hR]
   exact PastAll_ok _ dv s ds H5 hs5 hsb hds5 hkk
  cases hso:storeOk s with
  | false =>
   simp [b5]
   refine cg_ex fin ?_
   rintro v6 H6 ⟨hle6,hv6⟩
   simp [-RgP_both]
   refine cg_use (ltRuns_same (hg5.le hle6).ents hv6.ents (by omega)) ?_
   simp [-RgP_both]
  | true =>
   have ht:0<s.time:=by
    by_cases h:0<s.time
    ·exact h
    ·exact absurd ⟨hso,by omega⟩ hgood
   simp [b5,ht]
   refine cg_ex fin ?_
   rintro v6 H6 ⟨hle6,hv6⟩
   simp [-RgP_both]
   refine cg_use (ltRuns_same (hg5.le hle6).ents hv6.ents (by omega)) ?_
   simp [-RgP_both]
 obtain⟨hso,ht⟩:=hgood
 have htn:¬0<s.time:=by omega
 simp [hso,b5,htn,l2,hc2.1.slc]
 obtain⟨q,hq,hqm⟩:∃ q:Int,(0<=q/\q<=5)/\q=(bs2.length:Int) % 6:=⟨_,by omega,rfl⟩
 have hqm2:((bs2.length % 6:Nat):Int)=q:=by omega
 have hqt:Int.tmod (bs2.length:Int) 6=q:=by rw [hqm,Int.tmod_eq_emod_of_nonneg (by omega)]
 simp only [hqt]
 refine cg_ex (implNew_ok q hq H5) ?_
 rintro v K1 ⟨hleK1,w0,y0,hy0,rfl,hst0⟩
 have hsm0:=newR_small hy0
 obtain⟨va,vb,vc,vd,rfl,k1,k2,k3,k4,_⟩:=hst0.shape
 obtain⟨K2,hK2⟩:∃ K2:Hp,K2=K1++[some ⟨[[va,vb,vc,.int .i64 y0.keep,.int .i64 y0.time,vd]],6,28,false⟩]:=⟨_,rfl⟩
 obtain⟨hleK2,o2,hst2⟩:=St.box hst0 hK2
 have h5K:=hleK1.trans hleK2
 have bK:=h5K.2 _ _ b5
 have hsK:=hs5.le h5K
 have hdsK:Dds K2 dv ds:=Rows.le hds5 h5K
 obtain⟨x,z,hx,hz,hxv,hzv,htop,htime,hsame⟩:=past_keep (hsp.val hso) ht hy0 hdl
 simp [k1,k2,k3,k4,<- hK2,bK]
 refine cg_ex (implPastDo_ok _ dv s ds K2 hsK hsb hdsK hkk) ?_
 intro v K3 hret
 rw [hx] at hret
 obtain⟨hle3,hxb,ya,yb,yc,yd,rfl,m1,m2,m3,m4,hxs⟩:=hret.vl (fun x' hx'=>pastR_small (s:=s) (ds:=ds) (by rw [hx]; exact hx'))
 simp only [Option.getD_some,Option.isSome_some] at hxb hxs ⊢
 obtain⟨K4,hK4⟩:∃ K4:Hp,K4=K3++[some ⟨[[ya,yb,yc,.int .i64 x.keep,.int .i64 x.time,yd]],6,28,false⟩]:=⟨_,rfl⟩
 obtain⟨hle4',p4,hxs4⟩:=St.box hxs hK4
 have h24:=hle3.trans hle4'
 have o4:=h24.2 _ _ o2
 have hst4:=hst2.le h24
 have hds4':Dds K4 dv ds:=Rows.le hdsK h24
 simp [m1,m2,m3,m4,<- hK4,o4]
 refine cg_ex (implPastDo_ok _ dv y0 ds K4 hst4 hsm0.stB hds4' hkk) ?_
 intro v K5 hret2
 rw [hz] at hret2
 obtain⟨hle5',hzb,wa,wb,wc,wd,rfl,r1,r2,r3,r4,hzs⟩:=hret2.vl (fun x' hx'=>pastR_small (s:=y0) (ds:=ds) (by rw [hz]; exact hx'))
 simp only [Option.getD_some,Option.isSome_some] at hzb hzs ⊢
 obtain⟨K6,hK6⟩:∃ K6:Hp,K6=K5++[some ⟨[[wa,wb,wc,.int .i64 z.keep,.int .i64 z.time,wd]],6,28,false⟩]:=⟨_,rfl⟩
 obtain⟨hle6,s6,hzs6⟩:=St.box hzs hK6
 have h46:=hle5'.trans hle6
 have p6:=h46.2 _ _ p4
 have hxs6:=hxs4.le h46
 have ex:=hxs6.parts.1
 have ez:=hzs6.parts.1
 rw [<- htop] at ez
 have hxl:x.top.length<=4:=by
  obtain⟨_,_,_,_,_,_,hV⟩:=hxv
  exact hV.top4
 have e0:(⟨#[]⟩:ByteArray).size<4611686018427387904:=by decide
 have e5:(⟨#[100,100,100,100,100]⟩:ByteArray).size<4611686018427387904:=by decide
 simp [r1,r2,r3,r4,<- hK6,p6,s6]
 refine cg_use (ltRuns_same ex ez (by omega)) ?_
 simp [p6,s6,htime]
 rw [htime] at hxs6 p6 hsame
 refine cg_ex (StoreList_ok _ x _ _ z.time K6 hxs6 hxb (fun _=>hxv) e0 e5) ?_
 rintro u K7 ⟨hle7,out,hu,hL,hl⟩
 have s7:=hle7.2 _ _ s6
 have p7:=hle7.2 _ _ p6
 simp [p7,s7]
 refine cg_ex (StoreList_ok _ z _ _ z.time K7 (hzs6.le hle7) hzb (fun _=>hzv) e0 e5) ?_
 rintro u2 K8 ⟨hle8,out2,hu2,hL2,hl2⟩
 have heq:=hsame _ _ _ _ hL hL2
 subst heq
 simp
 refine cg_use (ltRuns_same (hu.le hle8).ents hu2.ents (by omega)) ?_
 simp
end Go.Proofs.YtgoeenodllmdpaaGreat.B

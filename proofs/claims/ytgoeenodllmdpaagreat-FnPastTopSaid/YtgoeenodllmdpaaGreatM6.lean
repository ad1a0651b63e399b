/- A part of the proof: slices.Sort of strings, out of its contract in the library. slices.Compact of strings. slices.Compact of strings. The program's KeysSort. What is listed of a store, in plain Lean. The program's StoreList. The laws' ltPast: two stores, listed at some times. The program's PastList. The law FnPastTop. There is no condition. -/
import Derived.Shelf.SortM.Plain
import Derived.Shelf.SortM.SortNone
import Derived.Test.YtgoeenodllmdpaaGreatM0
import Derived.Test.YtgoeenodllmdpaaGreatM1
import Derived.Test.YtgoeenodllmdpaaGreatM2
import Derived.Test.YtgoeenodllmdpaaGreatM3
import Derived.Test.YtgoeenodllmdpaaGreatM4
import Derived.Test.YtgoeenodllmdpaaGreatM5
namespace Go.Proofs.YtgoeenodllmdpaaGreat.B
open Go.RowKit Go.Proofs
set_option linter.unusedVariables false
set_option linter.unusedSimpArgs false
variable {E:Env}
theorem SortS_ok (v:AV) (xs:List ByteArray) (H:Hp) (h:Own 1 9 H v (xs.map strRow)) (hn:xs.length<4611686018427387904) :
  AC Tryz.prog E 86 [v] H (fun u H'=>u=.tu []/\∃ ys,SortOf xs ys/\Own 1 9 H' v (ys.map strRow)/\Fr v.of H H'):=by
 refine⟨⟨_,_,Tryz.func86,by kernel_rfl,rfl⟩,fun φ w vals hv hH=>?_⟩
 obtain⟨u,vs,rfl,h1,h2⟩:=hv
 have h2:vs=[]:=h2
 subst h2
 have none_case:∀ (a:Option Addr) (c:Nat),u=.slice a 0 c->xs=[]->Calls Tryz.prog 86 [u].toArray w (fun
  | .returned u,w'=>∃ φ' H' v',PLe φ φ'/\HR E φ' H' w'/\Below E.B0 w w'/\VR φ' v' u/\(v'=.tu []/\∃ ys,SortOf xs ys/\Own 1 9 H' v (ys.map strRow)/\Fr v.of H H')
  | _,_=>False):=by
  rintro a c rfl rfl
  refine Calls.mono (AnyM.slices_Sort_string_none Tryz.laysSort a c w) ?_
  rintro e w' ⟨rfl,rfl⟩
  exact⟨φ,H,.tu [],fun _ _ h=>h,hH,Below.refl _ _,⟨[],rfl,rfl⟩,rfl,[],⟨.refl _,.nil⟩,h,Fr.refl _ _⟩
 rcases h with ⟨rfl,hR⟩ | ⟨rfl,hR⟩ | ⟨o,ob,rfl,ho,hro,hes,het,hle,htk⟩
 ·have h1:u=.slice none 0 0:=h1
  exact none_case _ _ h1 (by simpa using hR)
 ·obtain⟨a,h1⟩:=h1
  exact none_case _ _ h1 (by simpa using hR)
 obtain⟨p,a,c,hp,h1,hnc,hc⟩:=h1
 rw [List.length_map] at h1 hnc hle htk
 by_cases hz:xs.length=0
 ·rw [hz] at h1
  exact none_case _ _ h1 (List.length_eq_zero_iff.1 hz)
 have hob:ob=⟨xs.map strRow++ob.rows.drop xs.length,1,9,false⟩:=by
  obtain⟨r,e1,e2,e3⟩:=ob
  subst hes het hro
  simp only at htk ⊢
  congr 1
  rw [<- htk,List.take_append_drop]
 have ho':=Hp.at_some ho
 rw [hob] at ho'
 obtain⟨q1,q2,cells,ee,fr,hblk,hrw,hrows⟩:=hH.obj _ _ ho' p hp
 obtain⟨rfl,rfl,hpsz,hbase,hB⟩:=hrw rfl
 have hpe:p.esz=1:=q2
 obtain⟨rfl,_⟩:a=⟨p.b,p.base+0 * p.esz,none⟩/\_:=by
  rcases hc with hc | hc
  ·omega
  ·exact hc
 rw [hbase] at h1
 simp only [Nat.zero_mul,Nat.add_zero] at h1
 subst h1
 have hHolds:Sort.Holds encStr w p.b 0 (xs.map strL).toArray:=by
  intro j hj
  simp only [List.size_toArray,List.length_map] at hj
  have hr:(xs.map strRow++ob.rows.drop xs.length)[j]?=some (strRow xs[j]):=by
   rw [List.getElem?_append_left (by simpa using hj),List.getElem?_map,List.getElem?_eq_getElem hj]
   rfl
  obtain⟨_,g⟩:=hrows j _ hr
  obtain⟨_,x,hx,hX⟩:=g 0 (.str xs[j]) rfl
  have hX:x=.string xs[j]:=hX
  subst hX
  rw [hbase] at hx
  simp only [Nat.zero_add,Nat.mul_one,Nat.add_zero] at hx
  refine⟨?_,by simp [World.frozen?,hblk]⟩
  rw [getElem!_pos (xs.map strL).toArray j (by simpa using hj)]
  simp only [List.getElem_toArray,List.getElem_map]
  rw [encStr_eq,Nat.zero_add]
  simp [World.cell?,hblk,hx]
 have hcall:=AnyM.slices_Sort_string Tryz.laysSort p.b 0 c (xs.map strL) w hHolds (hH.blk o p hp) (by simpa using hn)
 rw [List.length_map] at hcall
 refine Calls.mono hcall ?_
 rintro e w' ⟨rfl,n,os,rfl⟩
 obtain⟨ys,hys,hso⟩:=sort_of xs
 rw [hys]
 have hl:xs.length=ys.length:=hso.1.length_eq.symm
 obtain⟨hA,hbA⟩:=hH.ahead n
 obtain⟨hbP,hP⟩:=HR.puts hA hp ys ys.length xs ho' hl (Nat.le_refl _) (Sort.holds_ahead _ w n _ _ _ hHolds)
 rw [List.take_length,<- hl,List.drop_length,List.append_nil] at hbP hP
 obtain⟨hG,hbG⟩:=hP.grew (below_grown _ os)
 refine⟨φ,_,.tu [],fun _ _ h=>h,hG,(hbA.trans hbP).trans hbG,⟨[],rfl,rfl⟩,rfl,ys,hso,?_,?_⟩
 ·refine .inr (.inr ⟨o,⟨ys.map strRow++ob.rows.drop xs.length,1,9,false⟩,by simp [hl],Hp.at_set _ (Hp.at_lt ho),rfl,rfl,rfl,by simp,by simp⟩)
 ·exact (Fr.refl _ H).set (.inl rfl) _
end Go.Proofs.YtgoeenodllmdpaaGreat.B

namespace Go.Proofs.YtgoeenodllmdpaaGreat.B
open Go.RowKit Go.Proofs
set_option linter.unusedVariables false
set_option linter.unusedSimpArgs false
variable {E:Env}
def cpL:Option ByteArray->List ByteArray->List ByteArray
 | _,[]=>[]
 | p,x :: r=>if p=some x then cpL p r else x :: cpL (some x) r
theorem cpL_snoc (z x:ByteArray):∀ (l:List ByteArray) (p:Option ByteArray),cpL p (l++[z,x])=cpL p (l++[z])++if x=z then [] else [x]
 | [],p=>by
  by_cases h:p=some z<;>by_cases h2:z=x
  ·simp [cpL,h,h2]
  ·simp [cpL,h,h2,Ne.symm h2]
  ·simp [cpL,h,h2]
  ·simp [cpL,h,h2,Ne.symm h2]
 | y :: l,p=>by
  simp only [List.cons_append,cpL]
  by_cases h:p=some y
  ·rw [if_pos h,if_pos h,cpL_snoc z x l p]
  ·rw [if_neg h,if_neg h,cpL_snoc z x l (some y),List.cons_append]
theorem cpL_mem:∀ (l:List ByteArray) (p:Option ByteArray) (x:ByteArray),x∈cpL p l\/p=some x↔x∈l\/p=some x
 | [],p,x=>by simp [cpL]
 | y :: l,p,x=>by
  rw [cpL]
  by_cases h:p=some y
  ·rw [if_pos h,cpL_mem l p x]
   constructor
   ·rintro (h1 | h1)
    ·exact .inl (List.mem_cons_of_mem _ h1)
    ·exact .inr h1
   ·rintro (h1 | h1)
    ·rcases List.mem_cons.1 h1 with rfl | h1
     ·exact .inr h
     ·exact .inl h1
    ·exact .inr h1
  ·rw [if_neg h]
   have ih:=cpL_mem l (some y) x
   simp only [List.mem_cons]
   constructor
   ·rintro ((h1 | h1) | h1)
    ·exact .inl (.inl h1)
    ·rcases ih.1 (.inl h1) with h2 | h2
     ·exact .inl (.inr h2)
     ·exact .inl (.inl (Option.some.inj h2).symm)
    ·exact .inr h1
   ·rintro ((h1 | h1) | h1)
    ·exact .inl (.inl h1)
    ·rcases ih.2 (.inl h1) with h2 | h2
     ·exact .inl (.inr h2)
     ·exact .inl (.inl (Option.some.inj h2).symm)
    ·exact .inr h1
theorem cpL_strict:∀ (l:List ByteArray) (p:Option ByteArray),l.Pairwise (fun a b=>sless b a=false)->(∀ q,p=some q->∀ x∈l,sless x q=false)->(cpL p l).Pairwise (fun a b=>sless a b=true)/\∀ q,p=some q->∀ x∈cpL p l,sless q x=true
 | [],p,_,_=>⟨.nil,fun q _ x hx=>by cases hx⟩
 | y :: l,p,h,hp=>by
  obtain⟨h1,h2⟩:=List.pairwise_cons.1 h
  rw [cpL]
  by_cases hy:p=some y
  ·rw [if_pos hy]
   exact cpL_strict l p h2 (fun q hq x hx=>hp q hq x (List.mem_cons_of_mem _ hx))
  ·rw [if_neg hy]
   obtain⟨i1,i2⟩:=cpL_strict l (some y) h2 (fun q hq x hx=>by
    obtain rfl:=Option.some.inj hq
    exact h1 x hx)
   have hlt:∀ q,p=some q->sless q y=true:=fun q hq=>by
    have:=hp q hq y (by simp)
    rcases sless_total q y with h3 | h3 | h3
    ·exact h3
    ·rw [h3] at hq
     exact absurd hq hy
    ·rw [this] at h3
     cases h3
   refine⟨List.pairwise_cons.2 ⟨fun x hx=>i2 y rfl x hx,i1⟩,fun q hq x hx=>?_⟩
   rcases List.mem_cons.1 hx with rfl | hx
   ·exact hlt q hq
   ·exact sless_trans (hlt q hq) (i2 y rfl x hx)
def OS (H:Hp) (o n:Nat) (l:List ByteArray):Prop:=Own 1 9 H (.sl o 0 n) (l.map strRow)
theorem OS.get {H:Hp} {o n:Nat} {l:List ByteArray} (h:OS H o n l) {i:Nat} {x:ByteArray} (hi:l[i]?=some x):∃ ob,H.at o=some ob/\ob.ro=false/\ob.esz=1/\i<n/\ob.rows[i]?=some [.str x]:=by
 obtain⟨e,ob,q1,q2,q3,q4,q5,q6⟩:=Own.ob h
 rw [List.length_map] at e q5 q6
 have hl:i<l.length:=(List.getElem?_eq_some_iff.1 hi).1
 refine⟨ob,q1,q2,q3,by omega,?_⟩
 have:(ob.rows.take l.length)[i]?=(l.map strRow)[i]?:=by rw [q6]
 rw [List.getElem?_take,if_pos hl,List.getElem?_map,hi] at this
 exact this
theorem OS.set {H H':Hp} {o n:Nat} {l:List ByteArray} (h:OS H o n l) {ob:Ob} (ho:H.at o=some ob) (i:Nat) (x:ByteArray) (h':H'.at o=some { ob with rows:=ob.rows.set i [.str x] }):OS H' o n (l.set i x):=by
 have:=Own.setRow h ho i [.str x] h'
 unfold OS
 rw [List.map_set]
 exact this
theorem OS.clr {o n:Nat}:∀ (k:Nat) {H H':Hp} {l:List ByteArray} {i:Nat} {ob:Ob},OS H o n l->H.at o=some ob->H'.at o=some { ob with rows:=clrR ob.rows i k (.str ⟨#[]⟩) }->∃ l',OS H' o n l'/\l'.length=l.length/\l'.take i=l.take i
 | 0,H,H',l,i,ob,h,ho,h'=>by
  have hlen:l.length<=ob.rows.length:=by
   obtain⟨e,ob',q1,q2,q3,q4,q5,q6⟩:=Own.ob h
   rw [ho] at q1
   cases q1
   simpa using q5
  have:=h.set ho ob.rows.length ⟨#[]⟩ (h'.trans (by rw [List.set_eq_of_length_le (Nat.le_refl _)]; rfl))
  rw [List.set_eq_of_length_le hlen] at this
  exact⟨l,this,rfl,rfl⟩
 | k+1,H,H',l,i,ob,h,ho,h'=>by
  have h1:=Hp.at_set (some { ob with rows:=ob.rows.set i [.str ⟨#[]⟩] }) (Hp.at_lt ho)
  obtain⟨l',e1,e2,e3⟩:=OS.clr k (i:=i+1) (h.set ho i ⟨#[]⟩ h1) h1 h'
  refine⟨l',e1,by simpa using e2,?_⟩
  have:=congrArg (List.take i) e3
  rw [List.take_take,List.take_take,Nat.min_eq_left (by omega),List.take_set_of_le (Nat.le_refl _)] at this
  exact this
end Go.Proofs.YtgoeenodllmdpaaGreat.B

namespace Go.Proofs.YtgoeenodllmdpaaGreat.B
open Go.RowKit Go.Proofs
set_option linter.unusedVariables false
set_option linter.unusedSimpArgs false
variable {E:Env}
def CpI (xs:List ByteArray) (i n o:Nat) (H':Hp) (m:Nat) (t:Tm) (K:Hp):Prop:=∃ (pre:List ByteArray) (z:ByteArray) (mid tl:List ByteArray) (kl p q:Nat),xs=pre++z :: tl/\tl.length=m/\kl=(cpL none (pre++[z])).length/\kl+mid.length=pre.length/\p=pre.length/\i+q=p+1/\1<=q/\t 0=.sl o 0 n/\t 3=.int .i64 kl/\t 4=.sl o i (n-i)/\t 5=.int .i64 q/\Fr (fun y=>y=o) H' K/\OS K o n (cpL none (pre++[z])++(mid++z :: tl))
set_option maxHeartbeats 1600000 in
theorem CompactS_ok (v:AV) (xs:List ByteArray) (H0 H:Hp) (hv:OwnS H0 H v xs) (hn:xs.length<1099511627776) :
  AC Tryz.prog E 87 [v] H (fun u H'=>Fr v.of H H'/\OwnS H0 H' u (cpL none xs)/\∀ y,u.of y->v.of y):=by
 refine AC_by fol (tC_le tabJ_ok) h_slices_Compact_Sstring_string ?_
 have l1:=hv.len
 simp [c_slices_Compact_Sstring_string,l1,hv.slc]
 by_cases h2:xs.length<2
 ·have h2I:(xs.length:Int)<2:=by omega
  have e:cpL none xs=xs:=by
   match xs,h2 with
   | [],_=>rfl
   | [x],_=>rfl
  simp [h2I,e]
  exact⟨Fr.refl _ _,hv⟩
 have h2I:¬(xs.length:Int)<2:=by omega
 obtain⟨o,rfl⟩:=hv.1.sl (by rw [List.length_map]; omega)
 rw [List.length_map] at hv ⊢
 have hlo:H0.length<=o:=hv.2 o rfl
 obtain⟨n,hn0⟩:∃ n,n=xs.length:=⟨_,rfl⟩
 rw [<- hn0] at hv h2 h2I hn ⊢
 have hO0:OS H o n xs:=hv.1
 simp [h2I]
 refine W_for (fun m t H'=>∃ i:Nat,1<=i/\i+m=n/\t 0=.sl o 0 n/\t 3=.int .i64 i/\H'=H/\cpL none (xs.take i)=xs.take i) (n-1) ?_ (tC_mono AC_mono) ?_
 ·refine⟨1,Nat.le_refl _,by omega,by simp,by simp,rfl,?_⟩
  cases xs with
  | nil=>rfl
  | cons x r=>rfl
 rintro m t H' ⟨i,hi1,him,t0,t3,rfl,hP⟩
 simp [t0,t3]
 refine c_split (fun hq=>?_) (fun hq=>?_)<;>simp at hq
 ·obtain⟨j,rfl⟩:∃ j,i=j+1:=⟨i-1,by omega⟩
  obtain⟨i,hij⟩:∃ i,i=j+1:=⟨_,rfl⟩
  rw [<- hij] at hi1 him t3 hq hP
  have hil:i<xs.length:=by omega
  have hjl:j<xs.length:=by omega
  have hw1:IntKind.i64.wrap ((i:Int)-1)=(j:Int):=by
   rw [wrap64 (by omega) (by omega)]
   omega
  have hw:=wrapN (i:=i) (by omega)
  obtain⟨ob,q1,q2,q3,q4,q5⟩:=hO0.get (List.getElem?_eq_getElem hil)
  obtain⟨ob',r1,r2,r3,r4,r5⟩:=hO0.get (List.getElem?_eq_getElem hjl)
  rw [q1] at r1
  cases r1
  have u1:=Hp.at_lt q1
  have ej:xs.take i=xs.take j++[xs[j]]:=by rw [hij,List.take_succ_eq_append_getElem hjl]
  have ei:xs.take (i+1)=xs.take j++[xs[j],xs[i]]:=by rw [List.take_succ_eq_append_getElem hil,ej,List.append_assoc]; rfl
  simp [t0,t3,hw1,q1,q3,q4,q5,r4,r5]
  by_cases he:xs[i]=xs[j]
  ·simp [he,t0,t3]
   refine cutG_sl (l:=i) q1 q3 (by
    obtain⟨_,ob2,z1,_,_,_,z5,_⟩:=Own.ob hO0
    rw [q1] at z1
    cases z1
    rw [List.length_map] at z5
    omega) (by omega) ?_
   simp [t0,t3]
   clear hw hw1 r4 r5
   refine W_for (CpI xs i n o H') (n-(i+1)) ?_ (tC_mono AC_mono) ?_
   ·have hk:cpL none (xs.take (i+1))=xs.take i:=by rw [ei,cpL_snoc,if_pos he,List.append_nil,<- ej,hP]
    have e2:xs.take i++[xs[i]]=xs.take (i+1):=(List.take_succ_eq_append_getElem hil).symm
    have e3:xs=xs.take i++xs[i] :: xs.drop (i+1):=by rw [<- List.drop_eq_getElem_cons hil,List.take_append_drop]
    refine⟨xs.take i,xs[i],[],xs.drop (i+1),i,i,1,e3,by rw [List.length_drop]; omega,by rw [e2,hk,List.length_take]; omega,by rw [List.length_take,List.length_nil]; omega,by rw [List.length_take]; omega,by omega,Nat.le_refl _,by simp [t0],by simp [t3],by simp,by simp,Fr.refl _ _,?_⟩
    rw [e2,hk,List.nil_append,<- e3]
    exact hO0
   rintro m t K ⟨pre,z,mid,tl,kl,p,q,hxs,hm,hkl,hlen,hp,hiq,hq1,t0,t3,t4,t5,hF,hO⟩
   have hnl:n=p+1+tl.length:=by rw [hn0,hxs,List.length_append,List.length_cons,hp]; omega
   obtain⟨qm,rfl⟩:∃ qm,q=qm+1:=⟨q-1,by omega⟩
   obtain⟨q,hqq⟩:∃ q,q=qm+1:=⟨_,rfl⟩
   rw [<- hqq] at hiq hq1 t5
   have hni:((n-i:Nat):Int)=((n-i:Nat):Int):=rfl
   obtain⟨nl,hnl2⟩:∃ nl,nl=n-i:=⟨_,rfl⟩
   rw [<- hnl2] at t4
   simp [t0,t3,t4,t5]
   refine c_split (fun hq=>?_) (fun hq=>?_)<;>simp at hq
   ·obtain⟨x,tl,rfl⟩:∃ x X',tl=x :: X':=List.exists_cons_of_length_pos (by omega)
    simp only [List.length_cons] at hm hnl
    have hw1:IntKind.i64.wrap ((q:Int)-1)=(qm:Int):=by
     rw [wrap64 (by omega) (by omega)]
     omega
    have hw:=wrapN (i:=q) (by omega)
    have hw3:=wrapN (i:=kl) (by omega)
    have g1:(cpL none (pre++[z])++(mid++z :: x :: tl))[i+q]?=some x:=by
     rw [show cpL none (pre++[z])++(mid++z :: x :: tl)=(cpL none (pre++[z])++(mid++[z]))++x :: tl by simp]
     exact get_mid _ _ _ (by rw [List.length_append,List.length_append,List.length_singleton,<- hkl]; omega)
    have g2:(cpL none (pre++[z])++(mid++z :: x :: tl))[i+qm]?=some z:=by
     rw [show cpL none (pre++[z])++(mid++z :: x :: tl)=(cpL none (pre++[z])++mid)++z :: x :: tl by simp]
     exact get_mid _ _ _ (by rw [List.length_append,<- hkl]; omega)
    obtain⟨y,mid2,hmz⟩:∃ y X',mid++[z]=y :: X':=List.exists_cons_of_length_pos (by simp)
    have hml:mid2.length=mid.length:=by
     have:=congrArg List.length hmz
     simp at this
     omega
    have hall:cpL none (pre++[z])++(mid++z :: x :: tl)=cpL none (pre++[z])++y :: (mid2++x :: tl):=by
     rw [show mid++z :: x :: tl=(mid++[z])++x :: tl by simp,hmz,List.cons_append]
    have g3:(cpL none (pre++[z])++(mid++z :: x :: tl))[kl]?=some y:=by
     rw [hall]
     exact get_mid _ _ _ hkl
    obtain⟨ob,a1,a2,a3,a4,a5⟩:=hO.get g1
    obtain⟨ob2,b1,b2,b3,b4,b5⟩:=hO.get g2
    rw [a1] at b1
    cases b1
    obtain⟨ob2,b1,_,_,c4,c5⟩:=hO.get g3
    rw [a1] at b1
    cases b1
    have u1:=Hp.at_lt a1
    have qn:q<nl:=by omega
    have qn2:qm<nl:=by omega
    have hc2:=cpL_snoc z x pre none
    have exs:xs=(pre++[z])++x :: tl:=by rw [hxs]; simp
    simp [t0,t3,t4,t5,hw1,a1,a3,qn,qn2,a5,b5]
    by_cases hxz:x=z
    ·rw [if_pos hxz,List.append_nil] at hc2
     simp [hxz,t0,t3,t4,t5,hw]
     refine⟨m-1,by omega,pre++[z],x,mid++[z],tl,kl,p+1,q+1,exs,by omega,?_,by simp; omega,by simp [hp],by omega,by omega,by simp [t0],by simp [t3],by simp [t4,hnl2],by simp,hF,?_⟩
     ·rw [List.append_assoc,List.singleton_append,hc2,hkl]
     ·rw [List.append_assoc,List.singleton_append,hc2]
      simpa using hO
    ·rw [if_neg hxz] at hc2
     simp [hxz,t0,t3,t4,t5,hw,hw3,a1,a2,a3,a5,c4,c5,qn,u1]
     have hs:=hO.set (H':=List.set K o (some { ob with rows:=ob.rows.set kl [.str x] })) a1 kl x (Hp.at_set _ u1)
     rw [hall,set_mid _ _ _ _ hkl,a3,a2] at hs
     refine⟨m-1,by omega,pre++[z],x,mid2,tl,kl+1,p+1,q+1,exs,by omega,?_,by simp; omega,by simp [hp],by omega,by omega,by simp [t0],by simp [t3],by simp [t4,hnl2],by simp,hF.set (.inl rfl) _,?_⟩
     ·rw [List.append_assoc,List.singleton_append,hc2,List.length_append,List.length_singleton,hkl]
     ·rw [List.append_assoc,List.singleton_append,hc2,List.append_assoc]
      simpa using hs
   ·have:tl=[]:=List.length_eq_zero_iff.1 (by omega)
    subst this
    obtain⟨e1,ob,a1,a2,a3,a4,a5,a6⟩:=Own.ob hO
    rw [List.length_map] at e1 a5
    rw [<- e1] at a5
    have u1:=Hp.at_lt a1
    simp [t0,t3]
    refine cutG_sl (l:=kl) a1 a3 (by omega) (by omega) ?_
    obtain⟨l',z1,z2,z3⟩:=OS.clr (n-kl) (H':=List.set K o (some { ob with rows:=clrR ob.rows kl (n-kl) (.str ⟨#[]⟩) })) (i:=kl) hO a1 (Hp.at_set _ u1)
    have z4:l'.take kl=cpL none (pre++[z]):=by rw [z3,hkl,List.take_left]
    have z5:(l'.map strRow).take kl=(cpL none xs).map strRow:=by
     rw [<- List.map_take,z4,hxs]
    have z6:(l'.map strRow).length=n:=by
     obtain⟨e,_⟩:=Own.ob z1
     exact e.symm
    have b1:kl+(n-kl)<=ob.rows.length:=by omega
    simp [t0,t3,a1,a2,a3,b1]
    rw [a2,a3] at z1
    refine cutG_upto (rows:=l'.map strRow) (Own.rows z1) kl rfl (by omega) (fun u g1 g2 g3=>?_)
    have g4:=g3 _ z1
    rw [z5] at g4
    simp
    exact⟨hF.set (.inl rfl) _ |>.mono (fun y hy=>.inl hy.symm),⟨g4,fun y hy=>by have:o=y:=g2 y hy; omega⟩,fun y hy=>g2 y hy⟩
  ·simp [he,t0,t3,hw]
   refine⟨m-1,by omega,i+1,by omega,by omega,by simp,?_⟩
   rw [ei,cpL_snoc,if_neg he,<- ej,hP,ej,List.append_assoc]
   rfl
 ·have:i=n:=by omega
  subst this
  rw [hn0,List.take_length] at hP
  simp [t0,hP]
  exact⟨Fr.refl _ _,hn0 ▸ hv⟩
end Go.Proofs.YtgoeenodllmdpaaGreat.B

namespace Go.Proofs.YtgoeenodllmdpaaGreat.B
open Go.RowKit Go.Proofs
set_option linter.unusedVariables false
set_option linter.unusedSimpArgs false
variable {E:Env}
theorem cpL_len:∀ (l:List ByteArray) (p:Option ByteArray),(cpL p l).length<=l.length
 | [],p=>Nat.le_refl _
 | y :: l,p=>by
  rw [cpL]
  split
  ·have:=cpL_len l p
   rw [List.length_cons]
   omega
  ·have:=cpL_len l (some y)
   rw [List.length_cons,List.length_cons]
   omega
structure KeysOf (ks zs:List ByteArray):Prop where
 asc:zs.Pairwise (fun a b=>sless a b=true)
 mem:∀ k,k∈zs↔k∈ks/\keyOk k=true
 len:zs.length<=ks.length
theorem KeysOf.of {ks ys:List ByteArray} (h:SortOf (ks.filter keyOk) ys):KeysOf ks (cpL none ys):=by
 refine⟨(cpL_strict ys none h.2 (fun q hq=>by cases hq)).1,fun k=>?_,?_⟩
 ·have:=cpL_mem ys none k
  simp only [reduceCtorEq,or_false] at this
  rw [this,h.1.mem_iff,List.mem_filter]
 ·have h1:=cpL_len ys none
  have h2:=h.1.length_eq
  have h3:=List.length_filter_le keyOk ks
  omega
theorem KeysSort_ok (v:AV) (ks:List ByteArray) (H:Hp) (hv:Strs H v ks) (hn:ks.length<1099511627776) (hks:∀ k∈ks,k.size<4611686018427387904) :
  AC Tryz.prog E 84 [v] H (fun u H'=>HLe H H'/\∃ zs,OwnS H H' u zs/\KeysOf ks zs):=by
 refine AC_by fol (tC_le tabJ_ok) h_impl_KeysSort ?_
 have l1:=hv.len
 simp [c_impl_KeysSort,l1,hv.slc]
 refine W_for (fun m t H'=>∃ i u,i+m=ks.length/\t 6=v/\t 3=u/\t 7=.int .i64 ks.length/\t 8=.int .i64 (i:Nat)/\HLe H H'/\OwnS H H' u ((ks.take i).filter keyOk)) ks.length ?_ (tC_mono AC_mono) ?_
 ·exact⟨0,.nils,by omega,by simp,by simp,by simp,by simp,HLe.refl _,OwnM.nils⟩
 rintro m t H' ⟨i,u,him,t6,t3,t7,t8,hle,hu⟩
 simp [t6,t3,t7,t8,l1,hv.slc]
 refine c_split (fun hq=>?_) (fun hq=>?_)<;>simp at hq
 ·have hw:=wrapN (i:=i) (by omega)
  obtain⟨o,i0,ob,rfl,a1,a2,a3⟩:=hv.get hq
  have a1':=hle.2 _ _ a1
  have hkey:∀ {C:CallP} {d:Option Nat} {ag} {p:Plan} {t:Tm} {H:Hp} {K:Tm->Hp->Prop},_:=@fun C d ag p t H K=>tabJ_key C d ag p t H K ks[i] (hks _ (List.getElem_mem hq))
  have es:(ks.take (i+1)).filter keyOk=(ks.take i).filter keyOk++if keyOk ks[i]=true then [ks[i]] else []:=by
   rw [List.take_succ_eq_append_getElem hq,List.filter_append]
   congr 1
   by_cases h:keyOk ks[i]=true<;>simp [h]
  simp [t6,t3,t7,t8,a1',a2,a3,hq,hkey]
  have hfl:=List.length_filter_le keyOk (ks.take i)
  rw [List.length_take] at hfl
  cases hk:keyOk ks[i] with
  | false =>
   rw [hk] at es
   simp [t6,t3,t7,t8,hw]
   exact⟨m-1,by omega,i+1,by omega,by omega,hle,by rw [es]; simpa using hu⟩
  | true =>
   rw [hk] at es
   simp [t6,t3,t7,t8]
   refine appG_add (y:=ks[i]) (row:=strRow) (bytes:=16) (H0:=H) hu hle (by omega) rfl (fun v2 K2 g1 g2 g3 g4=>?_)
   simp [t6,t3,t7,t8,hw]
   exact⟨m-1,by omega,i+1,by omega,by omega,g1,by rw [es]; exact g2⟩
 ·have:i=ks.length:=by omega
  subst this
  rw [List.take_length] at hu
  have hfl:=List.length_filter_le keyOk ks
  simp [t3]
  refine cg_ex (SortS_ok u _ H' hu.1 (by omega)) ?_
  rintro _ K ⟨rfl,ys,hys,hoy,hF⟩
  have hl:=hys.1.length_eq
  have hK:=hle.fr_le hF hu.2
  simp [t3]
  refine cg_ex (CompactS_ok u ys H K ⟨hoy,hu.2⟩ (by omega)) ?_
  rintro w G ⟨hF2,hw,hsub⟩
  have hG:=hK.fr_le hF2 hu.2
  have hcl:=cpL_len ys none
  simp
  refine appG_cat (row:=strRow) (xs:=[]) (H0:=H) OwnM.nils hw.rows hG (by simp; omega) (fun v H2 g1 g2 g3 g4=>?_)
  simp
  exact⟨g1,_,g2,KeysOf.of hys⟩
end Go.Proofs.YtgoeenodllmdpaaGreat.B

namespace Go.Proofs.YtgoeenodllmdpaaGreat.B
open Go.RowKit Go.Proofs
set_option linter.unusedVariables false
set_option linter.unusedSimpArgs false
def btwK (fr to k:ByteArray):Bool:=!sless k fr&&!sless to k
def pickL (s:Sr) (fr to:ByteArray) (t:Int) (k:ByteArray):Option Ent:=match getR s k t with
 | some e=>if e.gone=false/\btwK fr to k=true then some e else none
 | none=>none
structure Listed (L:List Ent) (fr to:ByteArray) (t:Int) (out:List Ent):Prop where
 asc:out.Pairwise (fun a b=>sless a.key b.key=true)
 mem:∀ e,e∈out↔Best L e.key t e/\e.gone=false/\btwK fr to e.key=true
theorem asc_ext:∀ {a b:List Ent},a.Pairwise (fun a b=>sless a.key b.key=true)->b.Pairwise (fun a b=>sless a.key b.key=true)->(∀ e,e∈a↔e∈b)->a=b
 | [],[],_,_,_=>rfl
 | [],y :: b,_,_,h=>absurd ((h y).2 (by simp)) (by simp)
 | x :: a,[],_,_,h=>absurd ((h x).1 (by simp)) (by simp)
 | x :: a,y :: b,h1,h2,h=>by
  obtain⟨p1,p2⟩:=List.pairwise_cons.1 h1
  obtain⟨q1,q2⟩:=List.pairwise_cons.1 h2
  have hxy:x=y:=by
   rcases List.mem_cons.1 ((h x).1 (by simp)) with e | e
   ·exact e
   ·rcases List.mem_cons.1 ((h y).2 (by simp)) with e2 | e2
    ·exact e2.symm
    ·have a1:=q1 x e
     have a2:=p1 y e2
     have:=sless_trans a1 a2
     rw [sless_irrefl] at this
     cases this
  subst hxy
  have hx:∀ {l:List Ent},(∀ z∈l,sless x.key z.key=true)->x ∉ l:=fun hl hm=>by
   have:=hl x hm
   rw [sless_irrefl] at this
   cases this
  rw [asc_ext p2 q2 (fun e=>by
   have h3:=h e
   rw [List.mem_cons,List.mem_cons] at h3
   constructor
   ·intro he
    rcases h3.1 (.inr he) with e4 | e4
    ·subst e4
     exact absurd he (hx p1)
    ·exact e4
   ·intro he
    rcases h3.2 (.inr he) with e4 | e4
    ·subst e4
     exact absurd he (hx q1)
    ·exact e4)]
theorem Listed.ext {L L':List Ent} {fr to fr' to':ByteArray} {t t':Int} {a b:List Ent} (ha:Listed L fr to t a) (hb:Listed L' fr' to' t' b) (h:∀ e:Ent,e.gone=false->(Best L e.key t e/\btwK fr to e.key=true↔Best L' e.key t' e/\btwK fr' to' e.key=true)):a=b:=by
 refine asc_ext ha.asc hb.asc (fun e=>?_)
 rw [ha.mem,hb.mem]
 constructor
 ·rintro ⟨h1,h2,h3⟩
  obtain⟨h4,h5⟩:=(h e h2).1 ⟨h1,h3⟩
  exact⟨h4,h2,h5⟩
 ·rintro ⟨h1,h2,h3⟩
  obtain⟨h4,h5⟩:=(h e h2).2 ⟨h1,h3⟩
  exact⟨h4,h2,h5⟩
structure Cov (s:Sr) (fr to:ByteArray) (i:Nat) (ks:List ByteArray):Prop where
 top:∀ e∈s.top,e.key∈ks
 lev:∀ (j:Nat) (h:j<s.lev.length),j<i->∀ e∈s.lev[j],btwK fr to e.key=true->e.key∈ks
 ok:∀ k∈ks,keyOk k=true
 len:ks.length<=100000 * (i+1)
theorem keys_ent {r:List Ent} (h:∀ e∈r,entOk e=true):∀ k∈keysR r,keyOk k=true:=by
 intro k hk
 obtain⟨e,he,rfl⟩:=keys1_mem none r k hk
 have:=h e he
 simp only [entOk,Bool.and_eq_true] at this
 exact this.1.1.1
theorem Cov.zero {s:Sr} {fr to:ByteArray} (hs:Val s) (hn:s.top.length<=100000):Cov s fr to 0 (keysR s.top) :=
 ⟨fun e he=>keysR_mem he,fun j h hj=>by omega,keys_ent (fun e he=>hs.ent e (List.mem_append_left _ he)),by have:=keysR_len s.top; omega⟩
theorem Cov.add {s:Sr} {fr to:ByteArray} {i:Nat} {ks:List ByteArray} (h:Cov s fr to i ks) (hs:Val s) (hi:i<s.lev.length) (hn:s.lev[i].length<=100000):Cov s fr to (i+1) (ks++keysR s.lev[i]):=by
 refine⟨fun e he=>List.mem_append_left _ (h.top e he),fun j hj hji e he hb=>?_,fun k hk=>?_,?_⟩
 ·rcases Nat.lt_or_ge j i with h1 | h1
  ·exact List.mem_append_left _ (h.lev j hj h1 e he hb)
  ·have:j=i:=by omega
   subst this
   exact List.mem_append_right _ (keysR_mem he)
 ·rcases List.mem_append.1 hk with h1 | h1
  ·exact h.ok k h1
  ·exact keys_ent (fun e he=>hs.ent e (List.mem_append_right _ (List.mem_flatten.2 ⟨_,List.getElem_mem hi,he⟩))) k h1
 ·have:=keysR_len s.lev[i]
  have:=h.len
  rw [List.length_append]
  omega
theorem Cov.skip {s:Sr} {fr to:ByteArray} {i:Nat} {ks:List ByteArray} (h:Cov s fr to i ks) (hi:i<s.lev.length) (hn:∀ e∈s.lev[i],btwK fr to e.key=true->False):Cov s fr to (i+1) ks:=by
 refine⟨h.top,fun j hj hji e he hb=>?_,h.ok,by have:=h.len; omega⟩
 rcases Nat.lt_or_ge j i with h1 | h1
 ·exact h.lev j hj h1 e he hb
 ·have:j=i:=by omega
  subst this
  exact (hn e he hb).elim
theorem listed_of {s:Sr} {fr to:ByteArray} {t:Int} {ks zs:List ByteArray} (hs:Val s) (hc:Cov s fr to s.lev.length ks) (hz:KeysOf ks zs):Listed (entsR s) fr to t (zs.filterMap (pickL s fr to t)):=by
 have hp:∀ {k:ByteArray} {e:Ent},pickL s fr to t k=some e↔Best (entsR s) k t e/\e.gone=false/\btwK fr to k=true:=by
  intro k e
  unfold pickL
  constructor
  ·intro h
   split at h
   ·rename_i e' he
    split at h
    ·rename_i hc
     obtain rfl:=Option.some.inj h
     exact⟨hs.best.1 he,hc⟩
    ·cases h
   ·cases h
  ·rintro ⟨h1,h2⟩
   rw [hs.best.2 h1]
   simp [h2]
 have hkey:∀ {k:ByteArray} {e:Ent},pickL s fr to t k=some e->e.key=k:=fun h=>(hp.1 h).1.key
 refine⟨?_,fun e=>?_⟩
 ·rw [List.pairwise_filterMap]
  refine hz.asc.imp (fun {a b} hab x hx y hy=>?_)
  rw [hkey hx,hkey hy]
  exact hab
 ·rw [List.mem_filterMap]
  constructor
  ·rintro ⟨k,hk,he⟩
   have:=hkey he
   subst this
   exact hp.1 he
  ·rintro ⟨h1,h2,h3⟩
   refine⟨e.key,(hz.mem _).2 ?_,hp.2 ⟨h1,h2,h3⟩⟩
   have hin:e.key∈ks:=by
    rcases List.mem_append.1 h1.mem with h4 | h4
    ·exact hc.top e h4
    ·obtain⟨l,hl,he⟩:=List.mem_flatten.1 h4
     obtain⟨j,hj,rfl⟩:=List.getElem_of_mem hl
     exact hc.lev j hj hj e he h3
   exact⟨hin,hc.ok _ hin⟩
def ListOf (s:Sr) (fr to:ByteArray) (t:Int) (out:List Ent):Prop :=
 if storeOk s=true/\keyOk fr=true/\keyOk to=true/\knownR s t=true then Listed (entsR s) fr to t out else out=[]
end Go.Proofs.YtgoeenodllmdpaaGreat.B

namespace Go.Proofs.YtgoeenodllmdpaaGreat.B
open Go.RowKit Go.Proofs
set_option linter.unusedVariables false
set_option linter.unusedSimpArgs false
variable {E:Env}
def GaI (s:Sr) (fr to:ByteArray) (time:Int) (a b c d:AV) (H H1:Hp) (m:Nat) (t:Tm) (K:Hp):Prop:=∃ (i:Nat) (ks:List ByteArray) (u:AV),i+m=3/\t 1=.str fr/\t 2=.str to/\t 3=.int .i64 time/\t 4=.pt H.length 0 0/\t 9=u/\t 40=b/\t 41=.int .i64 3/\t 42=.int .i64 i/\HLe H1 K/\OwnS H1 K u ks/\Cov s fr to i ks
def LiI (s:Sr) (fr to:ByteArray) (time:Int) (H H1 H2:Hp) (zs:List ByteArray) (w:AV) (m:Nat) (t:Tm) (K:Hp):Prop:=∃ (i:Nat) (u:AV),i+m=zs.length/\t 1=.str fr/\t 2=.str to/\t 3=.int .i64 time/\t 4=.pt H.length 0 0/\t 12=u/\t 61=w/\t 62=.int .i64 zs.length/\t 63=.int .i64 i/\HLe H2 K/\OwnE H2 K u ((zs.take i).filterMap (pickL s fr to time))
set_option maxHeartbeats 1600000 in
theorem StoreList_ok (v:AV) (s:Sr) (fr to:ByteArray) (time:Int) (H:Hp) (hs:St H v s) (hb:StB s) (hv:storeOk s=true->Val s) (hfs:fr.size<4611686018427387904) (hts:to.size<4611686018427387904) :
  AC Tryz.prog E 22 [v,.str fr,.str to,.int .i64 time] H (fun u H'=>HLe H H'/\∃ out,OwnE H H' u out/\ListOf s fr to time out/\out.length<=400000):=by
 have hs0:=hs
 obtain⟨a,b,c,d,lr,sr,rfl,ha,hb1,hlr,hc,hsr,hd⟩:=hs
 refine AC_by fol (tC_le tabJ_ok) h_impl_StoreList ?_
 obtain⟨H1,hH1⟩:∃ H1:Hp,H1=H++[some ⟨[[a,b,c,.int .i64 s.keep,.int .i64 s.time,d]],6,28,false⟩]:=⟨_,rfl⟩
 have hle1:HLe H H1:=by rw [hH1]; exact HLe.self _ _
 have b0:H1.at H.length=some ⟨[[a,b,c,.int .i64 s.keep,.int .i64 s.time,d]],6,28,false⟩:=by rw [hH1]; simp
 simp [c_impl_StoreList,stAV,Rows.one ha,hb1.one,hc.one,Rows.one hd,<- hH1,b0]
 have hkeyF:∀ {C:CallP} {d:Option Nat} {ag} {p:Plan} {t:Tm} {H:Hp} {K:Tm->Hp->Prop},_:=@fun C d ag p t H K=>tabJ_key C d ag p t H K fr hfs
 have hkeyT:∀ {C:CallP} {d:Option Nat} {ag} {p:Plan} {t:Tm} {H:Hp} {K:Tm->Hp->Prop},_:=@fun C d ag p t H K=>tabJ_key C d ag p t H K to hts
 have non:(¬(storeOk s=true/\keyOk fr=true/\keyOk to=true/\knownR s time=true))->HLe H H1/\∃ out,OwnE H H1 .nils out/\ListOf s fr to time out/\out.length<=400000:=fun h=>⟨hle1,[],OwnM.nils,by unfold ListOf; rw [if_neg h],Nat.zero_le _⟩
 have cok:=implStoreOk_ok (E:=E) _ s H1 (hs0.le hle1) hb
 have ckn:=known_ok (E:=E) _ s time H1 (hs0.le hle1) hb
 simp only [stAV] at cok ckn
 refine cg_use cok ?_
 cases ho:storeOk s with
 | false =>
  simp
  exact non (fun h=>by rw [ho] at h; cases h.1)
 | true =>
  simp [hkeyF]
  cases hf:keyOk fr with
  | false =>
   simp
   exact non (fun h=>by rw [hf] at h; cases h.2.1)
  | true =>
   simp [hkeyT]
   cases ht:keyOk to with
   | false =>
    simp
    exact non (fun h=>by rw [ht] at h; cases h.2.2.1)
   | true =>
    simp [b0]
    refine cg_use ckn ?_
    cases hk:knownR s time with
    | false =>
     simp
     exact non (fun h=>by rw [hk] at h; cases h.2.2.2)
    | true =>
     have hval:=hv ho
     have hsm:=storeOk_small ho
     have e3:s.lev.length=3:=hsm.2.2.2.2.2.2.2.1
     have s3:s.sv.length=3:=hsm.2.2.2.2.2.2.2.2
     have ll:=hlr.length
     have ls:=hsr.length
     have l1:=hb1.len
     rw [ll,e3] at l1
     have tn:s.top.length<=1000:=hsm.1.1
     simp [b0]
     refine cg_ex (keysOf_ok a s.top H1 (ha.le hle1) (by omega)) ?_
     rintro u0 H2 ⟨hle2,hu0⟩
     have b2:=hle2.2 _ _ b0
     simp [b2,l1,hb1.slc]
     refine W_for (GaI s fr to time a b c d H H1) 3 ?_ (tC_mono AC_mono) ?_
     ·exact⟨0,keysR s.top,u0,by omega,by simp,by simp,by simp,by simp,by simp,by simp,by simp,by simp,hle2,hu0,Cov.zero hval (by omega)⟩
     rintro m t K ⟨i,ks,u,him,t1,t2,t3,t4,t9,t40,t41,t42,hle,hu,hcov⟩
     have hleH:=hle1.trans hle
     have bK:=hle.2 _ _ b0
     have hkl:=hcov.len
     simp [t1,t2,t3,t4,t9,t40,t41,t42]
     refine c_split (fun hq=>?_) (fun hq=>?_)<;>simp at hq
     ·have hi3:i<3:=by omega
      have hil:i<s.lev.length:=by omega
      have his:i<s.sv.length:=by omega
      have hw:=wrapN (i:=i) (by omega)
      obtain⟨o1,i1,ob1,rfl,x1,x2,x3⟩:=hb1.get (j:=i) (by omega)
      obtain⟨y,hy,hye⟩:=hlr.get i (by omega) hil
      rw [hy] at x3
      obtain⟨o2,i2,ob2,rfl,y1,y2,y3⟩:=hc.get (j:=i) (by omega)
      obtain⟨r,hr,hrs,_⟩:=hsr.get i (by omega) his
      rw [hr] at y3
      have x1':=hleH.2 _ _ x1
      have y1':=hleH.2 _ _ y1
      have q1:i<lr.length:=by omega
      have q2:i<sr.length:=by omega
      have hso:=storeOk_level ho hi3 hil his
      obtain⟨v1,v2,v3,v4⟩:=sieveO_some hso
      have hln:s.lev[i].length<=1000:=(hsm.2.1 _ (List.getElem_mem hil)).1
      simp [t1,t2,t3,t4,t9,t40,t41,t42,bK,x1',x2,x3,y1',y2,y3,q1,q2]
      have cM:=SieveMeets_ok (E:=E) (keysR s.lev[i]) s.keep r fr to K v1 ⟨v2,v3⟩ (by rw [<- v4]; exact hrs.le hleH) hfs hts
      rw [<- v4] at cM
      simp only [svAV] at cM
      refine cg_use cM ?_
      cases hm:meetsR (keysR s.lev[i]) s.keep fr to with
      | false =>
       simp [t1,t2,t3,t4,t9,t40,t41,t42,hw]
       refine⟨m-1,by omega,i+1,ks,u,by omega,by simp [t1],by simp [t2],by simp [t3],by simp [t4],by simp [t9],by simp [t40],by simp [t41],by simp,hle,hu,hcov.skip hil (fun e he hbt=>?_)⟩
       simp only [btwK,Bool.and_eq_true,Bool.not_eq_true'] at hbt
       have:=meets_sound (keep:=s.keep) v1 v2 hf ht (keysR_mem he) hbt.1 hbt.2
       rw [hm] at this
       cases this
      | true =>
       simp [t1,t2,t3,t4,t9,t40,t41,t42]
       refine cg_ex (keysOf_ok y s.lev[i] K (hye.le hleH) (by omega)) ?_
       rintro w K2 ⟨hleK,hw2⟩
       have hkk:=keysR_len s.lev[i]
       simp [t1,t2,t3,t4,t9,t40,t41,t42]
       refine appG_cat (row:=strRow) (bytes:=16) (H0:=H1) (hu.le hleK) hw2.rows (hle.trans hleK) (by omega) (fun v2 K3 g1 g2 g3 g4=>?_)
       simp [t1,t2,t3,t4,t9,t40,t41,t42,hw]
       exact⟨m-1,by omega,i+1,ks++keysR s.lev[i],v2,by omega,by simp [t1],by simp [t2],by simp [t3],by simp [t4],by simp,by simp [t40],by simp [t41],by simp,g1,g2,hcov.add hval hil (by omega)⟩
     ·have:i=3:=by omega
      subst this
      simp [t1,t2,t3,t4,t9]
      refine cg_ex (KeysSort_ok u ks K hu.rows (by omega) (fun k hk=>by have:=keyOk_size (hcov.ok k hk); omega)) ?_
      rintro w K2 ⟨hleK,zs,hzs,hkz⟩
      have hzl:=hkz.len
      have lz:=hzs.len
      rw [<- e3] at hcov
      have hL:=listed_of (fr:=fr) (to:=to) (t:=time) hval hcov hkz
      have hle12:=hle.trans hleK
      have bK2:=hleK.2 _ _ bK
      simp [t1,t2,t3,t4,lz,hzs.slc]
      refine W_for (LiI s fr to time H H1 K2 zs w) zs.length ?_ (tC_mono AC_mono) ?_
      ·exact⟨0,.nils,by omega,by simp [t1],by simp [t2],by simp [t3],by simp [t4],by simp,by simp,by simp,by simp,HLe.refl _,OwnM.nils⟩
      clear t1 t2 t3 t4 t9 t40 t41 t42
      rintro m t K3 ⟨i,y,him,t1,t2,t3,t4,t12,t61,t62,t63,hle3,hy⟩
      simp [t1,t2,t3,t4,t12,t61,t62,t63]
      refine c_split (fun hq=>?_) (fun hq=>?_)<;>simp at hq
      ·have hw:=wrapN (i:=i) (by omega)
       obtain⟨o1,i1,ob1,rfl,x1,x2,x3⟩:=(OwnS.strs hzs).get hq
       have x1':=hle3.2 _ _ x1
       have b3:=hle3.2 _ _ bK2
       have hkz2:keyOk zs[i]=true:=((hkz.mem _).1 (List.getElem_mem hq)).2
       simp [t1,t2,t3,t4,t12,t61,t62,t63,hq,x1',x2,x3,b3]
       have cF:=find_ok (E:=E) _ s zs[i] time K3 (hs0.le ((hle1.trans hle12).trans hle3)) hb ho hkz2
       simp only [stAV] at cF
       refine cg_use cF ?_
       have ez:(zs.take (i+1)).filterMap (pickL s fr to time)=(zs.take i).filterMap (pickL s fr to time)++(pickL s fr to time zs[i]).toList:=by
        rw [List.take_succ_eq_append_getElem hq,List.filterMap_append]
        congr 1
       cases hg:getR s zs[i] time with
       | none =>
        have hp:pickL s fr to time zs[i]=none:=by unfold pickL; rw [hg]
        rw [hp] at ez
        obtain⟨G,hG⟩:∃ G:Hp,G=K3++[some ⟨[[.str ⟨#[]⟩,.int .i64 0,.bool false,.int .i64 0]],4,99,false⟩]:=⟨_,rfl⟩
        have hleG:HLe K3 G:=by rw [hG]; exact HLe.self _ _
        simp [entAV,entRow]
        simp only [<- hG]
        simp [t1,t2,t3,t4,t12,t61,t62,t63,hw]
        exact⟨m-1,by omega,i+1,y,by omega,by simp [t1],by simp [t2],by simp [t3],by simp [t4],by simp [t12],by simp [t61],by simp [t62],by simp,hle3.trans hleG,by rw [ez]; simpa using hy.le hleG⟩
       | some e =>
        have hek:=(hval.best.1 hg).key
        obtain⟨ek,ev,eg,et⟩:=e
        have hek:ek=zs[i]:=hek
        obtain⟨G,hG⟩:∃ G:Hp,G=K3++[some ⟨[[.str ek,.int .i64 ev,.bool eg,.int .i64 et]],4,99,false⟩]:=⟨_,rfl⟩
        have hleG:HLe K3 G:=by rw [hG]; exact HLe.self _ _
        have bG:G.at K3.length=some ⟨[[.str ek,.int .i64 ev,.bool eg,.int .i64 et]],4,99,false⟩:=by rw [hG]; simp
        have hyl:=List.length_filterMap_le (pickL s fr to time) (zs.take i)
        rw [List.length_take] at hyl
        simp [entAV,entRow]
        simp only [<- hG]
        have hpn:¬(eg=false/\btwK fr to zs[i]=true)->(zs.take (i+1)).filterMap (pickL s fr to time)=(zs.take i).filterMap (pickL s fr to time):=fun h=>by
         have hp:pickL s fr to time zs[i]=none:=by unfold pickL; rw [hg]; simp only; rw [if_neg h]
         rw [ez,hp]
         simp
        cases heg:eg with
        | true =>
         simp [t1,t2,t3,t4,t12,t61,t62,t63,hw]
         exact⟨m-1,by omega,i+1,y,by omega,by simp [t1],by simp [t2],by simp [t3],by simp [t4],by simp [t12],by simp [t61],by simp [t62],by simp,hle3.trans hleG,by rw [hpn (by simp [heg])]; exact hy.le hleG⟩
        | false =>
         cases hl1:sless zs[i] fr with
         | true =>
          simp [t1,t2,t3,t4,t12,t61,t62,t63,hw,hl1]
          exact⟨m-1,by omega,i+1,y,by omega,by simp [t1],by simp [t2],by simp [t3],by simp [t4],by simp [t12],by simp [t61],by simp [t62],by simp,hle3.trans hleG,by rw [hpn (by simp [btwK,hl1])]; exact hy.le hleG⟩
         | false =>
          cases hl2:sless to zs[i] with
          | true =>
           simp [t1,t2,t3,t4,t12,t61,t62,t63,hw,hl1,hl2]
           exact⟨m-1,by omega,i+1,y,by omega,by simp [t1],by simp [t2],by simp [t3],by simp [t4],by simp [t12],by simp [t61],by simp [t62],by simp,hle3.trans hleG,by rw [hpn (by simp [btwK,hl1,hl2])]; exact hy.le hleG⟩
          | false =>
           subst heg
           have hp:pickL s fr to time zs[i]=some ⟨ek,ev,false,et⟩:=by unfold pickL; rw [hg]; simp [btwK,hl1,hl2]
           rw [hp] at ez
           simp [t1,t2,t3,t4,t12,t61,t62,t63,hw,hl1,hl2,bG]
           refine appG_add (y:=⟨ek,ev,false,et⟩) (row:=entRow) (bytes:=40) (H0:=K2) (hy.le hleG) (hle3.trans hleG) (by omega) rfl (fun v2 K4 g1 g2 g3 g4=>?_)
           simp [t1,t2,t3,t4,t12,t61,t62,t63,hw]
           exact⟨m-1,by omega,i+1,v2,by omega,by simp [t1],by simp [t2],by simp [t3],by simp [t4],by simp,by simp [t61],by simp [t62],by simp,g1,by rw [ez]; exact g2⟩
      ·have:i=zs.length:=by omega
       subst this
       rw [List.take_length] at hy
       simp [t12]
       exact⟨(hle1.trans hle12).trans hle3,_,hy.base (by have:=(hle1.trans hle12).1; omega),by unfold ListOf; rw [if_pos ⟨ho,hf,ht,hk⟩]; exact hL,by have:=List.length_filterMap_le (pickL s fr to time) zs; have:=hcov.len; omega⟩
end Go.Proofs.YtgoeenodllmdpaaGreat.B

namespace Go.Proofs.YtgoeenodllmdpaaGreat.B
open Go.RowKit Go.Proofs
set_option linter.unusedVariables false
set_option linter.unusedSimpArgs false
variable {E:Env}
end Go.Proofs.YtgoeenodllmdpaaGreat.B

namespace Go.Proofs.YtgoeenodllmdpaaGreat.B
open Go.RowKit Go.Proofs
set_option linter.unusedVariables false
set_option linter.unusedSimpArgs false
variable {E:Env}
def lateL (all:List Ent) (t:Int) (k:ByteArray):Option Ent:=match lastR k t all with
 | some e=>if e.gone=false then some e else none
 | none=>none
def keysB (all:List Ent) (fr to:ByteArray):List ByteArray:=(all.filter (fun e=>btwK fr to e.key)).map Ent.key
theorem keysB_step {all:List Ent} {fr to:ByteArray} {i:Nat} (hi:i<all.length):keysB (all.take (i+1)) fr to=if btwK fr to all[i].key=true then keysB (all.take i) fr to++[all[i].key] else keysB (all.take i) fr to:=by
 rw [List.take_succ_eq_append_getElem hi,keysB,List.filter_append,List.map_append]
 by_cases h:btwK fr to all[i].key=true<;>simp [h,keysB]
theorem keysB_len (all:List Ent) (fr to:ByteArray):(keysB all fr to).length<=all.length:=by
 unfold keysB
 rw [List.length_map]
 exact List.length_filter_le _ _
theorem past_listed {all:List Ent} {fr to:ByteArray} {t:Int} {ys:List ByteArray} (ha:all.Pairwise (fun a b=>a.time<b.time)) (hy:SortOf (keysB all fr to) ys):Listed all fr to t ((cpL none ys).filterMap (lateL all t)):=by
 have hp:∀ {k:ByteArray} {e:Ent},lateL all t k=some e↔Best all k t e/\e.gone=false:=by
  intro k e
  unfold lateL
  constructor
  ·intro h
   split at h
   ·rename_i e' he
    split at h
    ·rename_i hc
     obtain rfl:=Option.some.inj h
     exact⟨(lastR_best ha).1 he,hc⟩
    ·cases h
   ·cases h
  ·rintro ⟨h1,h2⟩
   rw [(lastR_best ha).2 h1]
   simp [h2]
 have hmem:∀ k,k∈cpL none ys↔∃ e∈all,btwK fr to e.key=true/\e.key=k:=by
  intro k
  have:=cpL_mem ys none k
  simp only [reduceCtorEq,or_false] at this
  rw [this,hy.1.mem_iff]
  unfold keysB
  rw [List.mem_map]
  constructor
  ·rintro ⟨e,he,rfl⟩
   exact⟨e,(List.mem_filter.1 he).1,(List.mem_filter.1 he).2,rfl⟩
  ·rintro ⟨e,he,hb,rfl⟩
   exact⟨e,List.mem_filter.2 ⟨he,hb⟩,rfl⟩
 refine⟨?_,fun e=>?_⟩
 ·rw [List.pairwise_filterMap]
  refine (cpL_strict ys none hy.2 (fun q hq=>by cases hq)).1.imp (fun {a b} hab x hx y hy=>?_)
  rw [(hp.1 hx).1.key,(hp.1 hy).1.key]
  exact hab
 ·rw [List.mem_filterMap]
  constructor
  ·rintro ⟨k,hk,he⟩
   obtain⟨h1,h2⟩:=hp.1 he
   obtain⟨z,_,hz,hzk⟩:=(hmem k).1 hk
   have hek:=h1.key
   subst hek
   exact⟨h1,h2,by rw [<- hzk]; exact hz⟩
  ·rintro ⟨h1,h2,h3⟩
   exact⟨e.key,(hmem _).2 ⟨e,h1.mem,h3,rfl⟩,hp.2 ⟨h1,h2⟩⟩
def PgI (a:AV) (all:List Ent) (fr to:ByteArray) (time:Int) (H:Hp) (m:Nat) (t:Tm) (K:Hp):Prop:=∃ (i:Nat) (u:AV),i+m=all.length/\t 0=a/\t 1=.str fr/\t 2=.str to/\t 3=.int .i64 time/\t 9=u/\t 17=a/\t 18=.int .i64 all.length/\t 19=.int .i64 i/\HLe H K/\OwnS H K u (keysB (all.take i) fr to)
def PlI (a:AV) (all:List Ent) (time:Int) (H2:Hp) (zs:List ByteArray) (w:AV) (m:Nat) (t:Tm) (K:Hp):Prop:=∃ (i:Nat) (u:AV),i+m=zs.length/\t 0=a/\t 3=.int .i64 time/\t 12=u/\t 42=w/\t 43=.int .i64 zs.length/\t 44=.int .i64 i/\HLe H2 K/\OwnE H2 K u ((zs.take i).filterMap (lateL all time))
set_option maxHeartbeats 1600000 in
theorem PastList_ok (a:AV) (all:List Ent) (fr to:ByteArray) (time:Int) (H:Hp) (ha:Ents H a all) (hn:all.length<1000000) :
  AC Tryz.prog E 23 [a,.str fr,.str to,.int .i64 time] H (fun u H'=>HLe H H'/\∃ ys,SortOf (keysB all fr to) ys/\OwnE H H' u ((cpL none ys).filterMap (lateL all time))/\((cpL none ys).filterMap (lateL all time)).length<1000000):=by
 refine AC_by fol (tC_le tabJ_ok) h_impl_PastList ?_
 have l1:=ha.len
 simp [c_impl_PastList,l1,ha.slc]
 refine W_for (PgI a all fr to time H) all.length ?_ (tC_mono AC_mono) ?_
 ·exact⟨0,.nils,by omega,by simp,by simp,by simp,by simp,by simp,by simp,by simp,by simp,HLe.refl _,OwnM.nils⟩
 rintro m t K ⟨i,u,him,t0,t1,t2,t3,t9,t17,t18,t19,hle,hu⟩
 simp [t0,t1,t2,t3,t9,t17,t18,t19]
 refine c_split (fun hq=>?_) (fun hq=>?_)<;>simp at hq
 ·have hw:=wrapN (i:=i) (by omega)
  obtain⟨o1,i1,ob1,rfl,x1,x2,x3⟩:=ha.get hq
  have x1':=hle.2 _ _ x1
  have hst:=keysB_step (fr:=fr) (to:=to) hq
  have hkl:=keysB_len (all.take i) fr to
  rw [List.length_take] at hkl
  obtain⟨e,hee⟩:∃ e,e=all[i]:=⟨_,rfl⟩
  rw [<- hee] at x3 hst
  obtain⟨ek,ev,eg,et⟩:=e
  simp only at hst
  obtain⟨G,hG⟩:∃ G:Hp,G=K++[some ⟨[[.str ek,.int .i64 ev,.bool eg,.int .i64 et]],4,99,false⟩]:=⟨_,rfl⟩
  have hleG:HLe K G:=by rw [hG]; exact HLe.self _ _
  have bG:G.at K.length=some ⟨[[.str ek,.int .i64 ev,.bool eg,.int .i64 et]],4,99,false⟩:=by rw [hG]; simp
  simp [t0,t1,t2,t3,t9,t17,t18,t19,hq,x1',x2,x3]
  simp only [<- hG]
  have no:btwK fr to ek=false->keysB (all.take (i+1)) fr to=keysB (all.take i) fr to:=fun h=>by rw [hst,if_neg (by simp [h])]
  cases hl1:sless ek fr with
  | true =>
   simp [t0,t1,t2,t3,t9,t17,t18,t19,bG,hl1,hw]
   exact⟨m-1,by omega,i+1,u,by omega,by simp [t0],by simp [t1],by simp [t2],by simp [t3],by simp [t9],by simp [t17],by simp [t18],by simp,hle.trans hleG,by rw [no (by simp [btwK,hl1])]; exact hu.le hleG⟩
  | false =>
   cases hl2:sless to ek with
   | true =>
    simp [t0,t1,t2,t3,t9,t17,t18,t19,bG,hl1,hl2,hw]
    exact⟨m-1,by omega,i+1,u,by omega,by simp [t0],by simp [t1],by simp [t2],by simp [t3],by simp [t9],by simp [t17],by simp [t18],by simp,hle.trans hleG,by rw [no (by simp [btwK,hl1,hl2])]; exact hu.le hleG⟩
   | false =>
    simp [t0,t1,t2,t3,t9,t17,t18,t19,bG,hl1,hl2]
    refine appG_add (y:=ek) (row:=strRow) (bytes:=16) (H0:=H) (hu.le hleG) (hle.trans hleG) (by omega) rfl (fun v2 K4 g1 g2 g3 g4=>?_)
    simp [t0,t1,t2,t3,t17,t18,t19,hw]
    exact⟨m-1,by omega,i+1,v2,by omega,by simp [t0],by simp [t1],by simp [t2],by simp [t3],by simp,by simp [t17],by simp [t18],by simp,g1,by rw [hst,if_pos (by simp [btwK,hl1,hl2])]; exact g2⟩
 ·have:i=all.length:=by omega
  subst this
  rw [List.take_length] at hu
  have hkl:=keysB_len all fr to
  simp [t0,t1,t2,t3,t9]
  refine cg_ex (SortS_ok u _ K hu.1 (by omega)) ?_
  rintro _ K1 ⟨rfl,ys,hys,hoy,hF⟩
  have hl:=hys.1.length_eq
  have hK:=hle.fr_le hF hu.2
  simp [t0,t1,t2,t3,t9]
  refine cg_ex (CompactS_ok u ys H K1 ⟨hoy,hu.2⟩ (by omega)) ?_
  rintro w K2 ⟨hF2,hw2,hsub⟩
  have hK2:=hK.fr_le hF2 hu.2
  have hcl:=cpL_len ys none
  obtain⟨zs,hzs⟩:∃ zs,zs=cpL none ys:=⟨_,rfl⟩
  have hw2s:=hw2.strs
  rw [<- hzs] at hw2s hcl
  have lz:=hw2s.len
  suffices hfin:∀ {u:AV} {G:Hp},HLe K2 G->OwnE K2 G u (zs.filterMap (lateL all time))->HLe H G/\∃ ys,SortOf (keysB all fr to) ys/\OwnE H G u ((cpL none ys).filterMap (lateL all time))/\((cpL none ys).filterMap (lateL all time)).length<1000000 by
   simp [t0,t3,lz,hw2s.slc]
   refine W_for (PlI a all time K2 zs w) zs.length ?_ (tC_mono AC_mono) ?_
   ·exact⟨0,.nils,by omega,by simp [t0],by simp [t3],by simp,by simp,by simp,by simp,HLe.refl _,OwnM.nils⟩
   clear t0 t1 t2 t3 t9 t17 t18 t19
   rintro m t K3 ⟨i,y,him,t0,t3,t12,t42,t43,t44,hle3,hy⟩
   simp [t0,t3,t12,t42,t43,t44]
   refine c_split (fun hq=>?_) (fun hq=>?_)<;>simp at hq
   ·have hw:=wrapN (i:=i) (by omega)
    obtain⟨o1,i1,ob1,rfl,x1,x2,x3⟩:=hw2s.get hq
    have x1':=hle3.2 _ _ x1
    simp [t0,t3,t12,t42,t43,t44,hq,x1',x2,x3]
    refine cg_use (latest_ok a all zs[i] time K3 (ha.le (hK2.trans hle3)) (by omega)) ?_
    have ez:(zs.take (i+1)).filterMap (lateL all time)=(zs.take i).filterMap (lateL all time)++(lateL all time zs[i]).toList:=by
     rw [List.take_succ_eq_append_getElem hq,List.filterMap_append]
     congr 1
    cases hg:lastR zs[i] time all with
    | none =>
     have hp:lateL all time zs[i]=none:=by unfold lateL; rw [hg]
     rw [hp] at ez
     obtain⟨G,hG⟩:∃ G:Hp,G=K3++[some ⟨[[.str ⟨#[]⟩,.int .i64 0,.bool false,.int .i64 0]],4,99,false⟩]:=⟨_,rfl⟩
     have hleG:HLe K3 G:=by rw [hG]; exact HLe.self _ _
     simp [lateAV,entRow]
     simp only [<- hG]
     simp [t0,t3,t12,t42,t43,t44,hw]
     exact⟨m-1,by omega,i+1,y,by omega,by simp [t0],by simp [t3],by simp [t12],by simp [t42],by simp [t43],by simp,hle3.trans hleG,by rw [ez]; simpa using hy.le hleG⟩
    | some e =>
     obtain⟨ek,ev,eg,et⟩:=e
     obtain⟨G,hG⟩:∃ G:Hp,G=K3++[some ⟨[[.str ek,.int .i64 ev,.bool eg,.int .i64 et]],4,99,false⟩]:=⟨_,rfl⟩
     have hleG:HLe K3 G:=by rw [hG]; exact HLe.self _ _
     have bG:G.at K3.length=some ⟨[[.str ek,.int .i64 ev,.bool eg,.int .i64 et]],4,99,false⟩:=by rw [hG]; simp
     have hyl:=List.length_filterMap_le (lateL all time) (zs.take i)
     rw [List.length_take] at hyl
     simp [lateAV,entRow]
     simp only [<- hG]
     cases heg:eg with
     | true =>
      have hp:lateL all time zs[i]=none:=by unfold lateL; rw [hg]; simp [heg]
      rw [hp] at ez
      simp [t0,t3,t12,t42,t43,t44,hw]
      exact⟨m-1,by omega,i+1,y,by omega,by simp [t0],by simp [t3],by simp [t12],by simp [t42],by simp [t43],by simp,hle3.trans hleG,by rw [ez]; simpa using hy.le hleG⟩
     | false =>
      subst heg
      have hp:lateL all time zs[i]=some ⟨ek,ev,false,et⟩:=by unfold lateL; rw [hg]; simp
      rw [hp] at ez
      simp [t0,t3,t12,t42,t43,t44,bG]
      refine appG_add (y:=⟨ek,ev,false,et⟩) (row:=entRow) (bytes:=40) (H0:=K2) (hy.le hleG) (hle3.trans hleG) (by omega) rfl (fun v2 K4 g1 g2 g3 g4=>?_)
      simp [t0,t3,t42,t43,t44,hw]
      exact⟨m-1,by omega,i+1,v2,by omega,by simp [t0],by simp [t3],by simp,by simp [t42],by simp [t43],by simp,g1,by rw [ez]; exact g2⟩
   ·have:i=zs.length:=by omega
    subst this
    rw [List.take_length] at hy
    simp [t12]
    exact hfin hle3 hy
  intro u G h1 h2
  have hll:=List.length_filterMap_le (lateL all time) zs
  refine⟨hK2.trans h1,ys,hys,?_,?_⟩
  ·rw [<- hzs]
   exact h2.base hK2.1
  ·rw [<- hzs]
   omega
end Go.Proofs.YtgoeenodllmdpaaGreat.B

namespace Go.Proofs.YtgoeenodllmdpaaGreat.B
open Go.RowKit Go.Proofs
set_option linter.unusedVariables false
set_option linter.unusedSimpArgs false
variable {E:Env}
def TmJ2 (g:AV) (L:Nat) (H:Hp) (ts:List Int) (t:Tm) (K:Hp):Prop:=∃ v,t 5=g/\t 6=.pt L 0 0/\t 8=v/\HLe H K/\Ints K v ts
def PtI (g:AV) (L:Nat) (v:AV) (n:Nat) (H:Hp) (m:Nat) (t:Tm) (K:Hp):Prop:=∃ i:Nat,i+m=n/\t 5=g/\t 6=.pt L 0 0/\t 8=v/\t 9=.int .i64 i/\HLe H K
set_option maxHeartbeats 3200000 in
theorem lawPastTop_ok (c:AV) (bs:List Int) (H:Hp) (hc:Bytes H c bs) (hn:bs.length<4611686018427387904) :
  AC Tryz.prog E 4 [c] H (fun v H'=>v=.bool true):=by
 refine AC_by fol (tC_le tabJ_ok) h_laws_FnPastTop ?_
 have l1:=hc.len
 simp [-RgP_both,c_laws_FnPastTop,l1,hc.1.slc]
 by_cases q1:1048576<bs.length
 ·have q1I:(1048576:Int)<bs.length:=by omega
  simp [-RgP_both,q1,q1I]
 have q1I:¬(1048576:Int)<bs.length:=by omega
 simp [-RgP_both,q1,q1I]
 refine cg_ex (DrawPastAll_ok c bs H hc hn) ?_
 rintro v H1 ⟨w,dv,s,ds,rfl,hle1,hs,hsb,hsp,hds,hdl,hdk⟩
 have hkk:∀ d∈ds,d.key.size<4611686018427387904:=fun d hd=>by have:=hdk d hd; omega
 obtain⟨xa,xb,xc,xd,rfl,n1,n2,n3,n4,_⟩:=hs.shape
 obtain⟨H2,hH2⟩:∃ H2:Hp,H2=H1++[some ⟨[[xa,xb,xc,.int .i64 s.keep,.int .i64 s.time,xd]],6,28,false⟩]:=⟨_,rfl⟩
 obtain⟨hle2,b2,hs2⟩:=St.box hs hH2
 have hds2:Dds H2 dv ds:=Rows.le hds hle2
 obtain⟨R,hR⟩:∃ R,R=((pastI s ds).map (·.2)).getD []:=⟨_,rfl⟩
 have hRl:R.length<=41:=by
  have:=pastI_len (s:=s) (ds:=ds)
  rw [hR]
  omega
 simp [-RgP_both,n1,n2,n3,n4,<- hH2,b2]
 refine cg_ex (implPastAll_ok _ dv s ds H2 hs2 hsb hds2 hkk) ?_
 rw [<- hR]
 rintro g H4 ⟨hle4,hg⟩
 have b4:=hle4.2 _ _ b2
 have hs4:=hs2.le hle4
 have hds4:Dds H4 dv ds:=Rows.le hds2 hle4
 simp [-RgP_both,b4]
 refine cg_ex (PastAll_ok _ dv s ds H4 hs4 hsb hds4 hkk) ?_
 rw [<- hR]
 rintro v5 H5 ⟨hle5,hv5⟩
 have b5:=hle5.2 _ _ b4
 have hs5:=hs4.le hle5
 have hds5:Dds H5 dv ds:=Rows.le hds4 hle5
 have hg5:=hg.le hle5
 simp [-RgP_both]
 refine cg_use (ltRuns_same hg5.ents hv5.ents (by omega)) ?_
 simp [-RgP_both,b5]
 refine cg_use (StoreOk_ok _ s H5 hs5 hsb) ?_
 by_cases hgood:storeOk s=true/\s.time<=0
 rotate_left
 ·have fin:AC Tryz.prog E 18 [.ag [xa,xb,xc,.int .i64 s.keep,.int .i64 s.time,xd],dv] H5 (fun w H'=>HLe H5 H'/\OwnE H5 H' w R):=by
   rw [hR]
   exact PastAll_ok _ dv s ds H5 hs5 hsb hds5 hkk
  cases hso:storeOk s with
  | false =>
   simp [-RgP_both,b5]
   refine cg_ex fin ?_
   rintro v6 H6 ⟨hle6,hv6⟩
   simp [-RgP_both]
   refine cg_use (ltRuns_same (hg5.le hle6).ents hv6.ents (by omega)) ?_
   simp [-RgP_both]
  | true =>
   have ht:0<s.time:=by
    by_cases h:0<s.time
    ·exact h
    ·exact absurd ⟨hso,by omega⟩ hgood
   simp [-RgP_both,b5,ht]
   refine cg_ex fin ?_
   rintro v6 H6 ⟨hle6,hv6⟩
   simp [-RgP_both]
   refine cg_use (ltRuns_same (hg5.le hle6).ents hv6.ents (by omega)) ?_
   simp [-RgP_both]
 obtain⟨hso,ht⟩:=hgood
 have htn:¬0<s.time:=by omega
 simp [-RgP_both,hso,b5,htn]
 refine cg_ex (implPastDo_ok _ dv s ds H5 hs5 hsb hds5 hkk) ?_
 intro v H6 hret
 obtain⟨hle6,hB6,ya,yb,yc,yd,rfl,m1,m2,m3,m4,hx6⟩:=hret.vl (fun x hx=>pastR_small hx)
 obtain⟨x,hx⟩:∃ x,x=(pastR s ds).getD sNil:=⟨_,rfl⟩
 rw [<- hx] at hB6 hx6 ⊢
 obtain⟨H7,hH7⟩:∃ H7:Hp,H7=H6++[some ⟨[[ya,yb,yc,.int .i64 x.keep,.int .i64 x.time,yd]],6,28,false⟩]:=⟨_,rfl⟩
 obtain⟨hle7,d7,hx7⟩:=St.box hx6 hH7
 have hg7:=hg5.le (hle6.trans hle7)
 simp [-RgP_both,m1,m2,m3,m4,<- hH7]
 cases ho:pastR s ds with
 | none =>
  have hR0:R=[]:=by
   rw [hR]
   have:=pastI_fst s ds
   rw [ho] at this
   cases hp:pastI s ds with
   | none=>rfl
   | some q=>rw [hp] at this; cases this
  have hgl:=hg7.len
  rw [hR0] at hgl
  simp [-RgP_both,hgl,hg7.slc]
 | some x' =>
  have hxx:x=x':=by rw [hx,ho]; rfl
  have hp:x=doAll s ds/\R=wrAll s ds:=by
   have h1:x'=doAll s ds:=by
    unfold pastR at ho
    split at ho
    ·exact (Option.some.inj ho).symm
    ·cases ho
   have h2:=pastI_fst s ds
   rw [ho] at h2
   refine⟨hxx.trans h1,?_⟩
   rw [hR]
   unfold pastI at h2 ⊢
   split
   ·rfl
   ·rename_i hno
    rw [if_neg hno] at h2
    cases h2
  have hH:=Hist.all ds (Hist.start (hsp.val hso) ht)
  rw [List.nil_append,<- hp.1,<- hp.2] at hH
  simp [-RgP_both,d7]
  have hyd:Ints H7 yd x.tms:=by
   obtain⟨a1,a2,a3,a4,e,_,_,_,_,_,hd⟩:=hx7.shape
   simp only [AV.ag.injEq,List.cons.injEq,and_true,true_and] at e
   obtain⟨rfl,rfl,rfl,rfl⟩:=e
   exact hd
  have htl:x.tms.length<=3:=by
   obtain⟨a,b,c,u,v,w,hv⟩:=hH.val
   have:=hv.tms
   simp only [timesR,Bool.and_eq_true,decide_eq_true_eq] at this
   exact this.2
  refine RgP_then (tC_mono AC_mono) (TmJ2 g H6.length H7 (x.tms++[x.time])) ?_ ?_
  ·have l67:=Hp.at_lt d7
   -- the empty slice first
   obtain⟨G1,hG1⟩:∃ G:Hp,G=H7++[some ⟨[],1,3,false⟩]:=⟨_,rfl⟩
   have hleG1:HLe H7 G1:=by rw [hG1]; exact HLe.self _ _
   have hlit1:OwnI H7 G1 (.sl H7.length 0 0) []:=by rw [hG1]; exact OwnM.lit0 (HLe.refl _)
   have dG1:=hleG1.2 _ _ d7
   rw [RgP_both]
   refine⟨?_,?_⟩
   ·simp [-RgP_both,<- hG1,dG1]
    rw [RgP_both]
    refine⟨?_,?_⟩
    ·simp
     refine appG_cat (bytes:=8) hlit1 (Ints.le hyd hleG1) hleG1 (by simp; omega) (fun v1 K1 g1 g2 g3 g4=>?_)
     rw [List.nil_append] at g2
     have dK1:=g1.2 _ _ d7
     have dK2:=(HLe.self K1 [some ⟨[[.int .i64 x.time]],1,3,false⟩]).2 _ _ dK1
     simp [dK1,dK2]
     refine appG_add (y:=x.time) (row:=intRow) (bytes:=8) (H0:=H7) g2 g1 (by omega) rfl (fun v2 K2 k1 k2 k3 k4=>?_)
     simp
     exact⟨v2,by simp,by simp,by simp,k1,k2.ints⟩
    ·obtain⟨G2,hG2⟩:∃ G:Hp,G=G1++[some ⟨[[.int .i64 x.time]],1,3,false⟩]:=⟨_,rfl⟩
     have hleG2:HLe G1 G2:=by rw [hG2]; exact HLe.self _ _
     have dG2:=hleG2.2 _ _ dG1
     have tG2:G2.at G1.length=some ⟨[[.int .i64 x.time]],1,3,false⟩:=by rw [hG2]; simp
     simp [<- hG2,dG2]
     have hleT:=hleG1.trans hleG2
     refine appG_cat (bytes:=8) (hlit1.le hleG2) (Ints.le hyd hleT) hleT (by simp; omega) (fun v1 K1 g1 g2 g3 g4=>?_)
     rw [List.nil_append] at g2
     have dK1:=g1.2 _ _ d7
     have lG1:H7.length<G1.length:=by rw [hG1]; simp
     have tK1:=g3.2 _ _ (show ¬(AV.sl H7.length 0 0).of G1.length by simp; omega) tG2
     have hyt:Ints K1 (.sl G1.length 0 1) [x.time]:=Rows.whole tK1
     simp [dK1]
     refine appG_cat (bytes:=8) g2 hyt g1 (by simp; omega) (fun v2 K2 k1 k2 k3 k4=>?_)
     simp
     exact⟨v2,by simp,by simp,by simp,k1,k2.ints⟩
   ·obtain⟨G2,hG2⟩:∃ G:Hp,G=H7++[some ⟨[[.int .i64 x.time]],1,3,false⟩]:=⟨_,rfl⟩
    have hleG2:HLe H7 G2:=by rw [hG2]; exact HLe.self _ _
    have dG2:=hleG2.2 _ _ d7
    have tG2:G2.at H7.length=some ⟨[[.int .i64 x.time]],1,3,false⟩:=by rw [hG2]; simp
    obtain⟨G3,hG3⟩:∃ G:Hp,G=G2++[some ⟨[],1,3,false⟩]:=⟨_,rfl⟩
    have hleG3:HLe G2 G3:=by rw [hG3]; exact HLe.self _ _
    have dG3:=hleG3.2 _ _ dG2
    have tG3:=hleG3.2 _ _ tG2
    have hleT:=hleG2.trans hleG3
    have hlit3:OwnI H7 G3 (.sl G2.length 0 0) []:=by rw [hG3]; exact OwnM.lit0 hleG2
    simp [<- hG2,dG2]
    simp [<- hG3,dG3]
    refine appG_cat (bytes:=8) hlit3 (Ints.le hyd hleT) hleT (by simp; omega) (fun v1 K1 g1 g2 g3 g4=>?_)
    rw [List.nil_append] at g2
    have dK1:=g1.2 _ _ d7
    have lG2:H7.length<G2.length:=by rw [hG2]; simp
    have tK1:=g3.2 _ _ (show ¬(AV.sl G2.length 0 0).of H7.length by simp; omega) tG3
    have hyt:Ints K1 (.sl H7.length 0 1) [x.time]:=Rows.whole tK1
    simp [dK1]
    refine appG_cat (bytes:=8) g2 hyt g1 (by simp; omega) (fun v2 K2 k1 k2 k3 k4=>?_)
    simp
    exact⟨v2,by simp,by simp,by simp,k1,k2.ints⟩
  ·rintro t K ⟨v,tg,tx,tt,hleK,hv⟩
   have hvl:=hv.len
   have hts:(x.tms++[x.time]).length<=4:=by simp; omega
   obtain⟨ts,hts2⟩:∃ ts,ts=x.tms++[x.time]:=⟨_,rfl⟩
   have hkn:∀ z∈ts,knownR x z=true:=by
    intro z hz
    rw [hts2] at hz
    rcases List.mem_append.1 hz with h | h
    ·exact known_iff.2 (.inl h)
    ·exact known_iff.2 (.inr (List.mem_singleton.1 h))
   have e0:(⟨#[]⟩:ByteArray).size<4611686018427387904:=by decide
   have e5:(⟨#[100,100,100,100,100]⟩:ByteArray).size<4611686018427387904:=by decide
   rw [<- hts2] at hv hvl hts
   show W _ _ _ _ _
   simp [tg,tx,tt]
   refine W_for (PtI g H6.length v ts.length K) ts.length ?_ (tC_mono AC_mono) ?_
   ·exact⟨0,by omega,by simp [tg],by simp [tx],by simp [tt],by simp,HLe.refl _⟩
   clear tg tx tt
   rintro m t K' ⟨i,him,tg,tx,tt,ti,hle'⟩
   have hleK':=hleK.trans hle'
   have hvK:=Ints.le hv hle'
   have dK:=hleK'.2 _ _ d7
   simp [tg,tx,tt,ti,hvl,hvK.slc]
   refine c_split (fun hq=>?_) (fun hq=>?_)<;>simp at hq
   ·have hi:i<ts.length:=by omega
    have hw:=wrapN (i:=i) (by omega)
    obtain⟨o1,i1,ob1,rfl,z1,z2,z3⟩:=hvK.get hi
    simp [tg,tx,tt,ti,dK,z1,z2,z3,hi]
    refine cg_ex (StoreList_ok _ x _ _ ts[i] K' (hx7.le hleK') hB6 (fun _=>hH.val) e0 e5) ?_
    rintro u K2 ⟨hle2',out,hu,hL,hl⟩
    have z1':=hle2'.2 _ _ z1
    have dK2:=hle2'.2 _ _ dK
    simp [tg,tx,tt,ti,z1',z2,z3,hi]
    refine cg_ex (PastList_ok g R _ _ ts[i] K2 (hg7.le (hleK'.trans hle2')).ents (by omega)) ?_
    rintro u2 K3 ⟨hle3',ys,hys,hu2,hl2⟩
    have hLs:Listed (entsR x) ⟨#[]⟩ ⟨#[100,100,100,100,100]⟩ ts[i] out:=by
     unfold ListOf at hL
     rwa [if_pos ⟨hH.val.ok,by decide,by decide,hkn _ (List.getElem_mem hi)⟩] at hL
    have hLp:=past_listed (t:=ts[i]) hH.asc hys
    have heq:=hLs.ext hLp (fun e he=>by rw [hH.same _ (hkn _ (List.getElem_mem hi)) e.key e he])
    rw [<- heq] at hu2
    simp
    refine cg_use (ltRuns_same (hu.le hle3').ents hu2.ents (by omega)) ?_
    simp [tg,tx,tt,ti,hw]
    exact⟨m-1,by omega,i+1,by omega,by simp [tg],by simp [tx],by simp [tt],by simp,(hle'.trans hle2').trans hle3'⟩
   ·simp [tg,tx,tt,ti,dK]
    refine cg_use (implStoreOk_ok _ x K' (hx7.le hleK') hB6) ?_
    simp [hH.val.ok]
end Go.Proofs.YtgoeenodllmdpaaGreat.B

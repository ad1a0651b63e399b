/- A part of the proof: The reference's stores: the past. The program's deeds and its past. The program's past. The program's past, alone and with what is written; a new store. The reference's stores: a new one. The reference's draws: stores. The reference's draws: stores. What is found of a key at a time, in plain Lean: trimming leaves it. A run that is let into a level leaves what is found, in plain Lean. Stores that are as they must be; what deeds leave of what is found, in plain Lean. Stores that are drawn, and spoilt; runs and stores are compared. Stores that are spoilt. Stores are compared. Stores are compared, whole. What changes nothing may be left out, in plain Lean. Deeds that change something. A store and deeds are drawn. The law FnDeedDo. There is no condition. -/
import Derived.Test.YtdncpcghiooeoaaGreatDoorM0
import Derived.Test.YtdncpcghiooeoaaGreatDoorM1
import Derived.Test.YtdncpcghiooeoaaGreatDoorM2
import Derived.Test.YtdncpcghiooeoaaGreatDoorM3
import Derived.Test.YtdncpcghiooeoaaGreatDoorM4
namespace Go.Proofs.YtdncpcghiooeoaaGreatDoor.B
open Go.RowKit Go.Proofs
set_option linter.unusedVariables false
set_option linter.unusedSimpArgs false
variable {E:Env}
def ddRow (d:Dd):List AV:=[.int .i64 d.kind,.str d.key,.int .i64 d.num]
def Dds (H:Hp) (v:AV) (ds:List Dd):Prop:=Rows 3 H v (ds.map ddRow)
theorem Dds.get {H:Hp} {v:AV} {ds:List Dd} (h:Dds H v ds) {j:Nat} (hj:j<ds.length):∃ o i ob,v=.sl o i ds.length/\H.at o=some ob/\ob.esz=3/\ob.rows[i+j]?=some [.int .i64 ds[j].kind,.str ds[j].key,.int .i64 ds[j].num]:=by
 obtain⟨o,i,ob,h1,h2,h3,h4⟩:=Rows.get h (j:=j) (by simpa using hj)
 exact⟨o,i,ob,by simpa using h1,h2,h3,by simpa [ddRow] using h4⟩
theorem doAll_step (s:Sr) (ds:List Dd) {i:Nat} (hi:i<ds.length):doAll s (ds.take (i+1))=(doR (doAll s (ds.take i)) ds[i]).getD (doAll s (ds.take i)):=by
 rw [List.take_succ_eq_append_getElem hi,doAll,List.foldl_append]
 rfl
theorem PastDo_ok (v u:AV) (s:Sr) (ds:List Dd) (H:Hp) (hs:St H v s) (hb:StB s) (hu:Dds H u ds) (hk:∀ d∈ds,d.key.size<4611686018427387904) :
  AC Tryz.prog E 66 [v,u] H (fun w H'=>RetS H H' w (pastR s ds)):=by
 have hs0:=hs
 obtain⟨a,b,c,d,rfl,n1,n2,n3,n4,hea,hed⟩:=hs.shape
 refine AC_by fol (tC_le tab2_ok) h_spec_PastDo ?_
 obtain⟨H1,hH1⟩:∃ H1:Hp,H1=H++[some ⟨[[a,b,c,.int .i64 s.keep,.int .i64 s.time,d]],6,31,false⟩,some ⟨[[.nils,.nils,.nils,.int .i64 0,.int .i64 0,.nils]],6,31,false⟩]:=⟨_,rfl⟩
 have hle1:HLe H H1:=by rw [hH1]; exact HLe.self _ _
 have b0:H1.at H.length=some ⟨[[a,b,c,.int .i64 s.keep,.int .i64 s.time,d]],6,31,false⟩:=by rw [hH1]; simp
 have b1:H1.at (H.length+1)=some ⟨[[.nils,.nils,.nils,.int .i64 0,.int .i64 0,.nils]],6,31,false⟩:=by rw [hH1]; simp
 have hl1:H1.length=H.length+2:=by rw [hH1]; simp
 have u1:=Hp.at_lt b1
 have hlen:lenV u=.int .i64 ds.length:=by simpa using Rows.len hu
 have hslc:slC u:=Rows.slc hu
 simp [c_spec_PastDo,n1,n2,n3,n4,<- hH1,b0]
 refine cg_use (StoreOk_ok _ s H1 (hs0.le hle1) hb) ?_
 cases hso:storeOk s with
 | false =>
  simp [b1,Hp.at_set,u1,pastR,hso,RetS]
  exact hle1.set (by omega) _
 | true =>
 have hsm:=storeOk_small hso
 simp [hlen,hslc]
 refine c_split (fun hq=>?_) (fun hq=>?_)<;>simp at hq
 ·have hp:pastR s ds=none:=by simp [pastR,hso]; omega
  simp [b1,Hp.at_set,u1,hp,RetS]
  exact hle1.set (by omega) _
 have hp:pastR s ds=some (doAll s ds):=by simp [pastR,hso]; omega
 simp [b0]
 refine cg_ex (l12Copy_ok _ s H1 (hs0.le hle1) hb hsm.2.2.2.2.2.2.2.1 hsm.2.2.2.2.2.2.2.2) ?_
 rintro v2 H2 ⟨hle2,hm2⟩
 obtain⟨xa,xl,xs,xd,rfl,xn1,xn2,xdi⟩:=hm2.shape
 have b02:=hle2.2 _ _ b0
 have b12:=hle2.2 _ _ b1
 have u0:=Hp.at_lt b02
 have m01:H.length≠H.length+1:=by omega
 obtain⟨H3,hH3⟩:∃ H3:Hp,H3=List.set H2 H.length (some ⟨[[xa,.sl xl 0 3,.sl xs 0 3,.int .i64 s.keep,.int .i64 s.time,xd]],6,31,false⟩):=⟨_,rfl⟩
 have hF3:Fr (fun x=>x=H.length) H2 H3:=by rw [hH3]; exact Fr.one _ _ _
 have hm3:=(hm2.fr hF3 (fun x ob hx ho=>by rw [hx,b02] at ho; cases ho; rfl)).base hle1.1
 have hle3:HLe H H3:=(hle1.trans hle2).fr_le hF3 (fun x hx=>by rw [hx]; exact Nat.le_refl _)
 have b03:H3.at H.length=some ⟨[[xa,.sl xl 0 3,.sl xs 0 3,.int .i64 s.keep,.int .i64 s.time,xd]],6,31,false⟩:=by rw [hH3]; exact Hp.at_set _ u0
 have b13:=hF3.2 _ _ m01.symm b12
 simp [xn1,xn2,b02,Hp.at_set,u0,<- hH3]
 refine W_for (fun m t H'=>∃ (i:Nat) (x:Sr) (wa:AV) (wl ws:Nat) (wd:AV),i+m=ds.length/\t 1=u/\t 2=.pt H.length 0 0/\t 4=.pt (H.length+1) 0 0/\t 6=.int .i64 i/\HLe H H' /\
  H'.at H.length=some ⟨[[wa,.sl wl 0 3,.sl ws 0 3,.int .i64 x.keep,.int .i64 x.time,wd]],6,31,false⟩/\H'.at (H.length+1)=some ⟨[[.nils,.nils,.nils,.int .i64 0,.int .i64 0,.nils]],6,31,false⟩ /\
  one wa=true/\one wd=true/\MSt H H' (.ag [wa,.sl wl 0 3,.sl ws 0 3,.int .i64 x.keep,.int .i64 x.time,wd]) x/\Small x/\x=doAll s (ds.take i)) ds.length ?_ (tC_mono AC_mono) ?_
 ·exact⟨0,s,xa,xl,xs,xd,by omega,by simp,by simp,by simp,by simp,hle3,b03,b13,xn1,xn2,hm3,hsm,by simp [doAll]⟩
 rintro m t H' ⟨i,x,wa,wl,ws,wd,him,h1,h2,h4,h6,hle',c0,c1,wn1,wn2,hm,hsx,hx⟩
 have t0:=Hp.at_lt c0
 have t1:=Hp.at_lt c1
 simp [h1,h2,h4,h6,hlen,hslc]
 refine c_split (fun hq2=>?_) (fun hq2=>?_)<;>simp at hq2
 ·have hi:i<ds.length:=by omega
  obtain⟨o1,i1,ob1,rfl,a1,a2,a3⟩:=Dds.get (Rows.le hu hle') hi
  have hw:=wrapN (i:=i) (by omega)
  simp [h1,h2,h4,h6,c0,a1,a2,a3,hi]
  refine⟨?_,?_⟩
  ·refine cg_ex (l13Do_ok _ x (ds[i]) H' (hm.st) hsx.stB (hk _ (List.getElem_mem hi))) ?_
   rintro v5 H5 hret
   have hle5:HLe H' H5:=hret.1
   have c05:=hle5.2 _ _ c0
   have c15:=hle5.2 _ _ c1
   have a15:=hle5.2 _ _ a1
   have t05:=Hp.at_lt c05
   have t15:=Hp.at_lt c15
   have ta5:=Hp.at_lt a15
   cases hd:doR x ds[i] with
   | none =>
    rw [hd] at hret
    obtain⟨hle5',rfl⟩:=hret
    simp [h1,h2,h4,h6,c05,c15,a15,a2,a3,hi,hw,Hp.at_app,Hp.at_set,Hp.at_set_ne,List.length_set,t05,t15,ta5,m01,m01.symm,set_in']
    refine⟨m-1,by omega,i+1,by omega,by omega,(hle'.trans hle5').app _,x,wa,wl,ws,wd,by simp,wn1,wn2,(hm.le hle5').le (HLe.self _ _),hsx,?_⟩
    rw [doAll_step s ds hi,<- hx,hd]
    rfl
   | some y =>
    rw [hd] at hret
    obtain⟨hle5',w5,rfl,hm5⟩:=hret
    obtain⟨ya,yl,ys,yd,hy,yn1,yn2,ydi⟩:=hm5.shape
    subst hy
    simp [yn1,yn2,h1,h2,h4,h6,c05,c15,a15,a2,a3,hi,hw,Hp.at_app,Hp.at_set,Hp.at_set_ne,List.length_set,t05,t15,ta5,m01,m01.symm,set_in']
    have hF:=(Fr.one H5 H.length (some ⟨[[ya,.sl yl 0 3,.sl ys 0 3,.int .i64 y.keep,.int .i64 y.time,yd]],6,31,false⟩)).app [some ⟨[[ya,.sl yl 0 3,.sl ys 0 3,.int .i64 y.keep,.int .i64 y.time,yd]],6,31,false⟩]
    refine⟨m-1,by omega,i+1,by omega,by omega,(hle'.trans hle5').fr_le hF (fun z hz=>by rw [hz]; exact Nat.le_refl _),y,ya,yl,ys,yd,by simp,yn1,yn2,(hm5.fr hF (fun z ob hz ho=>by rw [hz,c05] at ho; cases ho; rfl)).base hle'.1,doR_small hd,?_⟩
    rw [doAll_step s ds hi,<- hx,hd]
    rfl
  ·have ta:=Hp.at_lt a1
   simp [Hp.at_app,t0,t1,ta,c0,a1,a2,a3,hi]
   refine cg_ex (l13Do_ok _ x (ds[i]) _ ((hm.le (HLe.self _ _)).st) hsx.stB (hk _ (List.getElem_mem hi))) ?_
   rintro v5 H5 hret
   have hle5:HLe H' H5:=(HLe.self H' _).trans hret.1
   have c05:=hle5.2 _ _ c0
   have c15:=hle5.2 _ _ c1
   have a15:=hle5.2 _ _ a1
   have t05:=Hp.at_lt c05
   have t15:=Hp.at_lt c15
   have ta5:=Hp.at_lt a15
   have c75:=hret.1.2 _ _ (Hp.at_app_0.trans Hp.at_0)
   have t75:=Hp.at_lt c75
   have m70:H'.length≠H.length:=by omega
   have m71:H'.length≠H.length+1:=by omega
   have m7a:H'.length≠o1:=by have:=Hp.at_lt a1; omega
   cases hd:doR x ds[i] with
   | none =>
    rw [hd] at hret
    obtain⟨hle5',rfl⟩:=hret
    simp [h1,h2,h4,h6,c05,c15,a15,a2,a3,hi,hw,Hp.at_app,Hp.at_set,Hp.at_set_ne,List.length_set,t05,t15,ta5,m01,m01.symm,c75,t75,m70,m71,m7a,m70.symm,m71.symm,m7a.symm]
    have hF:=Fr.one H5 H'.length (some ⟨[[.nils,.nils,.nils,.int .i64 0,.int .i64 0,.nils]],6,31,false⟩)
    refine⟨m-1,by omega,i+1,by omega,by omega,(hle'.trans hle5).fr_le hF (fun z hz=>by rw [hz]; exact hle'.1),x,wa,wl,ws,wd,by simp,wn1,wn2,(hm.le hle5).fr hF (fun z ob hz ho=>by rw [hz,c75] at ho; cases ho; rfl),hsx,?_⟩
    rw [doAll_step s ds hi,<- hx,hd]
    rfl
   | some y =>
    rw [hd] at hret
    obtain⟨hle5',w5,rfl,hm5⟩:=hret
    obtain⟨ya,yl,ys,yd,hy,yn1,yn2,ydi⟩:=hm5.shape
    subst hy
    simp [yn1,yn2,h1,h2,h4,h6,c05,c15,a15,a2,a3,hi,hw,Hp.at_app,Hp.at_set,Hp.at_set_ne,List.length_set,t05,t15,ta5,m01,m01.symm,c75,t75,m70,m71,m7a,m70.symm,m71.symm,m7a.symm]
    have hF:=((Fr.refl (fun z=>z=H'.length\/z=H.length) H5).set (o:=H'.length) (.inl (.inl rfl)) (some ⟨[[ya,.sl yl 0 3,.sl ys 0 3,.int .i64 y.keep,.int .i64 y.time,yd]],6,31,false⟩)).set (o:=H.length) (.inl (.inr rfl)) (some ⟨[[ya,.sl yl 0 3,.sl ys 0 3,.int .i64 y.keep,.int .i64 y.time,yd]],6,31,false⟩)
    refine⟨m-1,by omega,i+1,by omega,by omega,(hle'.trans hle5).fr_le hF (fun z hz=>by have:=hle'.1; rcases hz with h | h<;>omega),y,ya,yl,ys,yd,by simp,yn1,yn2,(hm5.fr hF (fun z ob hz ho=>by rcases hz with h | h<;>rw [h] at ho<;>simp only [c75,c05] at ho<;>cases ho<;>rfl)).base (Nat.le_trans hle'.1 (by simp)),doR_small hd,?_⟩
    rw [doAll_step s ds hi,<- hx,hd]
    rfl
 ·have hie:i=ds.length:=by omega
  subst hie
  rw [List.take_of_length_le (Nat.le_refl _)] at hx
  simp [h2,h4,c0,c1,wn1,wn2,Hp.at_set,t1,hp,<- hx]
  have hF:=Fr.one H' (H.length+1) (some ⟨[[wa,.sl wl 0 3,.sl ws 0 3,.int .i64 x.keep,.int .i64 x.time,wd]],6,31,false⟩)
  exact⟨hle'.fr_le hF (fun y hy=>by rw [hy]; omega),_,rfl,MSt.fr hm hF (fun y ob hy ho=>by rw [hy,c1] at ho; cases ho; rfl)⟩
end Go.Proofs.YtdncpcghiooeoaaGreatDoor.B

namespace Go.Proofs.YtdncpcghiooeoaaGreatDoor.B
open Go.RowKit Go.Proofs
set_option linter.unusedVariables false
set_option linter.unusedSimpArgs false
variable {E:Env}
theorem DeedDo_ok (v:AV) (s:Sr) (e:Dd) (H:Hp) (hs:St H v s) (hb:StB s) (hk:e.key.size<4611686018427387904) :
  AC Tryz.prog E 54 [ddAV e,v] H (fun u H'=>RetQ H H' u (doR s e)):=by
 have hs0:=hs
 obtain⟨a,b,c,d,rfl,n1,n2,n3,n4,hea,hed⟩:=hs.shape
 refine AC_by fol (tC_le tabJ_ok) h_impl_Deed_do ?_
 obtain⟨H1,hH1⟩:∃ H1:Hp,H1=H++[some ⟨[[.int .i64 e.kind,.str e.key,.int .i64 e.num]],3,24,false⟩,some ⟨[[a,b,c,.int .i64 s.keep,.int .i64 s.time,d]],6,31,false⟩,some ⟨[[.nils,.nils,.nils,.int .i64 0,.int .i64 0,.nils]],6,31,false⟩]:=⟨_,rfl⟩
 have hle1:HLe H H1:=by rw [hH1]; exact HLe.self _ _
 have b0:H1.at (H.length+1)=some ⟨[[a,b,c,.int .i64 s.keep,.int .i64 s.time,d]],6,31,false⟩:=by rw [hH1]; simp
 have b1:H1.at H.length=some ⟨[[.int .i64 e.kind,.str e.key,.int .i64 e.num]],3,24,false⟩:=by rw [hH1]; simp
 have b2:H1.at (H.length+2)=some ⟨[[.nils,.nils,.nils,.int .i64 0,.int .i64 0,.nils]],6,31,false⟩:=by rw [hH1]; simp
 have hl1:H1.length=H.length+3:=by rw [hH1]; simp
 have u2:=Hp.at_lt b2
 have hs1:=hs0.le hle1
 simp [c_impl_Deed_do,ddAV,n1,n2,n3,n4,<- hH1,b1]
 refine c_split (fun q0=>?_) (fun q0=>?_)<;>simp at q0
 ·have hd:doR s e=putR s e.key e.num:=by simp [doR,q0]
  simp [b0,b1]
  refine cg_ex (implPut_ok _ s e.key e.num H1 hs1 hb hk) ?_
  intro v2 H2 hret
  obtain⟨xa,xb,xc,xk,xt,xd,rfl,o1,o2,o3,o4,o5,o6⟩:=hret.shape
  have b22:=hret.1.2 _ _ b2
  have u22:=Hp.at_lt b22
  simp [o1,o2,o3,o4,o5,o6,b22,Hp.at_set,u22]
  rw [hd]
  have hF:=Fr.one H2 (H.length+2) (some ⟨[[xa,xb,xc,xk,xt,xd]],6,31,false⟩)
  exact hret.fin hle1 hF (fun x ob hx ho=>by rw [hx,b22] at ho; cases ho; rfl) (fun x hx=>by rw [hx]; omega)
 simp
 refine c_split (fun q1=>?_) (fun q1=>?_)<;>simp at q1
 ·have hd:doR s e=takeR s e.key:=by simp [doR,q1]
  simp [b0,b1]
  refine cg_ex (implTake_ok _ s e.key H1 hs1 hb hk) ?_
  intro v2 H2 hret
  obtain⟨xa,xb,xc,xk,xt,xd,rfl,o1,o2,o3,o4,o5,o6⟩:=hret.shape
  have b22:=hret.1.2 _ _ b2
  have u22:=Hp.at_lt b22
  simp [o1,o2,o3,o4,o5,o6,b22,Hp.at_set,u22]
  rw [hd]
  have hF:=Fr.one H2 (H.length+2) (some ⟨[[xa,xb,xc,xk,xt,xd]],6,31,false⟩)
  exact hret.fin hle1 hF (fun x ob hx ho=>by rw [hx,b22] at ho; cases ho; rfl) (fun x hx=>by rw [hx]; omega)
 simp
 refine c_split (fun q2=>?_) (fun q2=>?_)<;>simp at q2
 ·have hd:doR s e=holdR s:=by simp [doR,q2]
  simp [b0,b1]
  refine cg_ex (implHold_ok _ s H1 hs1 hb) ?_
  intro v2 H2 hret
  obtain⟨w,n,ok,hv2,hret'⟩:=hret.toS
  subst hv2
  clear hret
  have hret:=hret'
  clear hret'
  obtain⟨xa,xb,xc,xk,xt,xd,hw,o1,o2,o3,o4,o5,o6⟩:=hret.shape
  cases hw
  have b22:=hret.1.2 _ _ b2
  have u22:=Hp.at_lt b22
  simp [o1,o2,o3,o4,o5,o6,b22,Hp.at_set,u22,Hp.at_app,set_in']
  rw [hd]
  have hF:=(Fr.one H2 (H.length+2) (some ⟨[[xa,xb,xc,xk,xt,xd]],6,31,false⟩)).app [some ⟨[[xa,xb,xc,xk,xt,xd]],6,31,false⟩]
  exact hret.fin hle1 hF (fun x ob hx ho=>by rw [hx,b22] at ho; cases ho; rfl) (fun x hx=>by rw [hx]; omega)
 simp
 refine c_split (fun q3=>?_) (fun q3=>?_)<;>simp at q3
 ·have hd:doR s e=freeR s e.num:=by simp [doR,q3]
  simp [b0,b1]
  refine cg_ex (implFree_ok _ s e.num H1 hs1 hb) ?_
  intro v2 H2 hret
  obtain⟨xa,xb,xc,xk,xt,xd,rfl,o1,o2,o3,o4,o5,o6⟩:=hret.shape
  have b22:=hret.1.2 _ _ b2
  have u22:=Hp.at_lt b22
  simp [o1,o2,o3,o4,o5,o6,b22,Hp.at_set,u22]
  rw [hd]
  have hF:=Fr.one H2 (H.length+2) (some ⟨[[xa,xb,xc,xk,xt,xd]],6,31,false⟩)
  exact hret.fin hle1 hF (fun x ob hx ho=>by rw [hx,b22] at ho; cases ho; rfl) (fun x hx=>by rw [hx]; omega)
 simp
 refine c_split (fun q4=>?_) (fun q4=>?_)<;>simp at q4
 ·have hd:doR s e=letR s:=by simp [doR,q4]
  simp [b0,b1]
  refine cg_ex (implDown_ok _ s H1 hs1 hb) ?_
  intro v2 H2 hret
  obtain⟨xa,xb,xc,xk,xt,xd,rfl,o1,o2,o3,o4,o5,o6⟩:=hret.shape
  have b22:=hret.1.2 _ _ b2
  have u22:=Hp.at_lt b22
  simp [o1,o2,o3,o4,o5,o6,b22,Hp.at_set,u22]
  rw [hd]
  have hF:=Fr.one H2 (H.length+2) (some ⟨[[xa,xb,xc,xk,xt,xd]],6,31,false⟩)
  exact hret.fin hle1 hF (fun x ob hx ho=>by rw [hx,b22] at ho; cases ho; rfl) (fun x hx=>by rw [hx]; omega)
 simp
 refine c_split (fun q5=>?_) (fun q5=>?_)<;>simp at q5
 ·have hd:doR s e=joinR s e.num:=by simp [doR,q5]
  simp [b0,b1]
  refine cg_ex (implJoin_ok _ s e.num H1 hs1 hb) ?_
  intro v2 H2 hret
  obtain⟨xa,xb,xc,xk,xt,xd,rfl,o1,o2,o3,o4,o5,o6⟩:=hret.shape
  have b22:=hret.1.2 _ _ b2
  have u22:=Hp.at_lt b22
  simp [o1,o2,o3,o4,o5,o6,b22,Hp.at_set,u22]
  rw [hd]
  have hF:=Fr.one H2 (H.length+2) (some ⟨[[xa,xb,xc,xk,xt,xd]],6,31,false⟩)
  exact hret.fin hle1 hF (fun x ob hx ho=>by rw [hx,b22] at ho; cases ho; rfl) (fun x hx=>by rw [hx]; omega)
 have hd:doR s e=none:=by simp [doR,q0,q1,q2,q3,q4,q5]
 simp [b2,Hp.at_set,u2,hd,RetQ]
 exact hle1.set (by omega) _
end Go.Proofs.YtdncpcghiooeoaaGreatDoor.B

namespace Go.Proofs.YtdncpcghiooeoaaGreatDoor.B
open Go.RowKit Go.Proofs
set_option linter.unusedVariables false
set_option linter.unusedSimpArgs false
variable {E:Env}
def wr1 (s:Sr) (d:Dd):List Ent:=match doR s d with
 | none=>[]
 | some y=>if d.kind=1 then [⟨d.key,d.num,false,y.time⟩] else if d.kind=2 then [⟨d.key,0,true,y.time⟩] else []
def wrAll:Sr->List Dd->List Ent
 | s,[]=>[]
 | s,d :: ds=>wr1 s d++wrAll ((doR s d).getD s) ds
theorem wrAll_app (ds es:List Dd):∀ s,wrAll s (ds++es)=wrAll s ds++wrAll (doAll s ds) es:=by
 induction ds with
 | nil=>intro s; rfl
 | cons d ds ih =>
  intro s
  show wr1 s d++wrAll ((doR s d).getD s) (ds++es)=(wr1 s d++wrAll ((doR s d).getD s) ds)++_
  rw [ih,List.append_assoc]
  rfl
theorem wrAll_step (s:Sr) (ds:List Dd) {i:Nat} (hi:i<ds.length):wrAll s (ds.take (i+1))=wrAll s (ds.take i)++wr1 (doAll s (ds.take i)) ds[i]:=by
 rw [List.take_succ_eq_append_getElem hi,wrAll_app]
 simp [wrAll]
theorem wr1_len (s:Sr) (d:Dd):(wr1 s d).length<=1:=by
 unfold wr1
 cases doR s d with
 | none=>simp
 | some y =>
  simp only
  split
  ·simp
  ·split<;>simp
theorem wrAll_len (ds:List Dd):∀ s,(wrAll s ds).length<=ds.length:=by
 induction ds with
 | nil=>intro s; simp [wrAll]
 | cons d ds ih =>
  intro s
  have:=ih ((doR s d).getD s)
  have:=wr1_len s d
  simp only [wrAll,List.length_append,List.length_cons]
  omega
def RetP (H0 H:Hp) (u:AV) (o:Option (Sr × List Ent)):Prop:=HLe H0 H/\match o with
 | some x=>∃ w e,u=.tu [w,e,.bool true]/\FarS H0.length H w x.1/\OwnE H0 H e x.2
 | none=>u=.tu [zst,.nils,.bool false]
def pastI (s:Sr) (ds:List Dd):Option (Sr × List Ent):=if (storeOk s&&decide (ds.length<=40))=true then some (doAll s ds,wrAll s ds) else none
theorem St.far {H:Hp} {v:AV} {s:Sr} (h:St H v s):FarP false (fun _ _ _=>True) 0 H v s:=by
 obtain⟨a,b,c,d,lr,sr,e,h1,h2,h3,h4,h5,h6⟩:=h
 exact⟨a,b,c,d,lr,sr,e,h1,h2,All2.mono (fun _ _ ⟨u,k1,k2⟩=>⟨u,k1,k2,fun _ _=>Nat.zero_le _⟩) h3,h4,All2.mono (fun _ _ ⟨u,k1,k2,k3⟩=>⟨u,k1,k2,fun _ _=>Nat.zero_le _⟩) h5,h6,fun _ _=>Nat.zero_le _,trivial⟩
theorem St.fr6 {S:Nat->Prop} {H H':Hp} {v:AV} {s:Sr} (h:St H v s) (hf:Fr S H H') (hS:∀ y ob,S y->H.at y=some ob->ob.esz=6):St H' v s:=(h.far.fr hf (fun y hy=>.inr (fun ob ho=>hS y ob hy ho))).st
theorem OwnM.fr6 {H0 H H':Hp} {v:AV} {es:List Ent} {S:Nat->Prop} (h:OwnE H0 H v es) (hf:Fr S H H') (hS:∀ y ob,S y->H.at y=some ob->ob.esz=6):OwnE H0 H' v es:=⟨h.1.fr hf (fun y hy hs=>by
 obtain⟨ob,ho⟩:∃ ob,H.at y=some ob:=by
  rcases h.1 with ⟨rfl,_⟩ | ⟨rfl,_⟩ | ⟨o',ob,rfl,k,_⟩
  ·exact hy.elim
  ·exact hy.elim
  ·have:o'=y:=hy
   subst this
   exact⟨ob,k⟩
 have:=hS y ob hs ho
 have:=h.1.esz hy ho
 omega),h.2⟩
def PsI (H:Hp) (u:AV) (ds:List Dd) (s:Sr) (m:Nat) (t:Tm) (H':Hp):Prop:=∃ (i:Nat) (x:Sr) (L7:Nat) (wa:AV) (wl ws:Nat) (wd v8:AV) (es:List Ent),i+m=ds.length/\t 4=.pt (H.length+1) 0 0/\t 7=.pt L7 0 0/\t 8=v8/\t 24=u/\t 25=.int .i64 ds.length/\t 26=.int .i64 i/\HLe H H'/\H.length+2<=L7 /\
  H'.at L7=some ⟨[[wa,.sl wl 0 3,.sl ws 0 3,.int .i64 x.keep,.int .i64 x.time,wd]],6,31,false⟩/\H'.at (H.length+1)=some ⟨[[.nils,.nils,.nils,.int .i64 0,.int .i64 0,.nils]],6,31,false⟩ /\
  one wa=true/\one wd=true/\FarS H.length H' (.ag [wa,.sl wl 0 3,.sl ws 0 3,.int .i64 x.keep,.int .i64 x.time,wd]) x/\Small x/\x=doAll s (ds.take i)/\OwnE H H' v8 es/\es=wrAll s (ds.take i)
set_option maxHeartbeats 1600000 in
theorem past_ok (v u:AV) (s:Sr) (ds:List Dd) (H:Hp) (hs:St H v s) (hb:StB s) (hu:Dds H u ds) (hk:∀ d∈ds,d.key.size<4611686018427387904) :
  AC Tryz.prog E 31 [v,u] H (fun w H'=>RetP H H' w (pastI s ds)):=by
 have hs0:=hs
 obtain⟨a,b,c,d,rfl,n1,n2,n3,n4,hea,hed⟩:=hs.shape
 refine AC_by fol (tC_le tabJ_ok) h_impl_past ?_
 obtain⟨H1,hH1⟩:∃ H1:Hp,H1=H++[some ⟨[[a,b,c,.int .i64 s.keep,.int .i64 s.time,d]],6,31,false⟩,some ⟨[[.nils,.nils,.nils,.int .i64 0,.int .i64 0,.nils]],6,31,false⟩]:=⟨_,rfl⟩
 have hle1:HLe H H1:=by rw [hH1]; exact HLe.self _ _
 have b0:H1.at H.length=some ⟨[[a,b,c,.int .i64 s.keep,.int .i64 s.time,d]],6,31,false⟩:=by rw [hH1]; simp
 have b1:H1.at (H.length+1)=some ⟨[[.nils,.nils,.nils,.int .i64 0,.int .i64 0,.nils]],6,31,false⟩:=by rw [hH1]; simp
 have hl1:H1.length=H.length+2:=by rw [hH1]; simp
 have u1:=Hp.at_lt b1
 have hlen:lenV u=.int .i64 ds.length:=by simpa using Rows.len hu
 have hslc:slC u:=Rows.slc hu
 simp [c_impl_past,n1,n2,n3,n4,<- hH1,b0]
 refine cg_use (implStoreOk_ok _ s H1 (hs0.le hle1) hb) ?_
 cases hso:storeOk s with
 | false =>
  simp [b1,Hp.at_set,u1,pastI,hso,RetP]
  exact hle1.set (by omega) _
 | true =>
 have hsm:=storeOk_small hso
 simp [hlen,hslc]
 refine c_split (fun hq=>?_) (fun hq=>?_)<;>simp at hq
 ·have hp:pastI s ds=none:=by simp [pastI,hso]; omega
  simp [b1,Hp.at_set,u1,hp,RetP]
  exact hle1.set (by omega) _
 have hp:pastI s ds=some (doAll s ds,wrAll s ds):=by simp [pastI,hso]; omega
 simp [b0]
 refine cg_ex (clone_ok _ s H1 (hs0.le hle1) hb hsm.2.2.2.2.2.2.2.1 hsm.2.2.2.2.2.2.2.2) ?_
 rintro v2 H2 ⟨hle2,hm2,hq2⟩
 obtain⟨xa,xl,xs,xd,rfl,xn1,xn2,xdi⟩:=hm2.shape
 have b02:=hle2.2 _ _ b0
 have b12:=hle2.2 _ _ b1
 obtain⟨G,hG⟩:∃ G:Hp,G=H2++[some ⟨[[xa,.sl xl 0 3,.sl xs 0 3,.int .i64 s.keep,.int .i64 s.time,xd]],6,31,false⟩]:=⟨_,rfl⟩
 have hleG:HLe H2 G:=by rw [hG]; exact HLe.self _ _
 have bG:G.at H2.length=some ⟨[[xa,.sl xl 0 3,.sl xs 0 3,.int .i64 s.keep,.int .i64 s.time,xd]],6,31,false⟩:=by rw [hG]; simp
 have b1G:=hleG.2 _ _ b12
 simp [xn1,xn2,hlen,hslc,<- hG]
 refine W_for (fun m t H'=>PsI H u ds s m t H') ds.length ?_ (tC_mono AC_mono) ?_
 ·exact⟨0,s,H2.length,xa,xl,xs,xd,.nils,[],by omega,by simp,by simp,by simp,by simp,by simp,by simp,(hle1.trans hle2).trans hleG,by have:=hle2.1; omega,bG,b1G,xn1,xn2,(hq2.fr (S:=fun _=>False) hleG.fr (fun y h=>h.elim)).base hle1.1,hsm,by simp [doAll],OwnM.nils,by simp [wrAll]⟩
 rintro m t H' ⟨i,x,L7,wa,wl,ws,wd,v8,es,him,h4,h7,h8,h24,h25,h26,hle',hL7,c7,c4,wn1,wn2,hst,hsx,hx,hv8,hes⟩
 simp [h4,h7,h8,h24,h25,h26]
 refine c_split (fun hq2=>?_) (fun hq2=>?_)<;>simp at hq2
 ·have hi:i<ds.length:=by omega
  obtain⟨o1,i1,ob1,rfl,a1,a2,a3⟩:=Dds.get (Rows.le hu hle') hi
  have hw:=wrapN (i:=i) (by omega)
  obtain⟨dd,hdd⟩:∃ dd,dd=ds[i]:=⟨_,rfl⟩
  have hkd:dd.key.size<4611686018427387904:=by rw [hdd]; exact hk _ (List.getElem_mem hi)
  rw [<- hdd] at a3
  obtain⟨K,hK⟩:∃ K:Hp,K=H'++[some ⟨[[.int .i64 dd.kind,.str dd.key,.int .i64 dd.num]],3,24,false⟩]:=⟨_,rfl⟩
  have hleK:HLe H' K:=by rw [hK]; exact HLe.self _ _
  have bK:K.at H'.length=some ⟨[[.int .i64 dd.kind,.str dd.key,.int .i64 dd.num]],3,24,false⟩:=by rw [hK]; simp
  have c7K:=hleK.2 _ _ c7
  simp [h4,h7,h8,h24,h25,h26,a1,a2,a3,hi,<- hK,bK,c7K]
  refine cg_ex (DeedDo_ok _ x dd K (hst.st.le hleK) hsx.stB hkd) ?_
  rintro v5 H5 hret
  have hle5:HLe K H5:=hret.1
  have b5:=hle5.2 _ _ bK
  have c75:=hle5.2 _ _ c7K
  have c45:=hle5.2 _ _ (hleK.2 _ _ c4)
  have hxs:doAll s (ds.take (i+1))=(doR x dd).getD x:=by rw [doAll_step s ds hi,<- hx,<- hdd]
  have hws:wrAll s (ds.take (i+1))=es++wr1 x dd:=by rw [wrAll_step s ds hi,<- hes,<- hx,<- hdd]
  cases hd:doR x dd with
  | none =>
   rw [hd] at hret hxs
   obtain⟨hle5',rfl⟩:=hret
   simp [h4,h7,h8,h24,h25,h26,hw]
   have hleA:HLe H' (H5++[some ⟨[[.nils,.nils,.nils,.int .i64 0,.int .i64 0,.nils]],6,31,false⟩]):=(hleK.trans hle5).app _
   exact⟨m-1,by omega,i+1,x,L7,wa,wl,ws,wd,v8,es,by omega,by simp [h4],by simp [h7],by simp [h8],by simp [h24],by simp [h25],by simp,hle'.trans hleA,hL7,hleA.2 _ _ c7,hleA.2 _ _ c4,wn1,wn2,hst.fr (S:=fun _=>False) hleA.fr (fun y h=>h.elim),hsx,hxs.symm,hv8.le hleA,by rw [hws]; simp [wr1,hd]⟩
  | some y =>
   rw [hd] at hret hxs
   obtain⟨hle5',w5,rfl,hm5,hq5⟩:=hret
   obtain⟨ya,yl,ys,yd,hy,yn1,yn2,ydi⟩:=hm5.shape
   subst hy
   have u75:=Hp.at_lt c75
   have ne7:L7≠H.length+1:=by omega
   have ne7':L7≠H'.length:=by have:=Hp.at_lt c7; omega
   have l5:=hle5.1
   have lK:=hleK.1
   obtain⟨Q,hQ⟩:∃ Q:Hp,Q=H5++[some ⟨[[ya,.sl yl 0 3,.sl ys 0 3,.int .i64 y.keep,.int .i64 y.time,yd]],6,31,false⟩]:=⟨_,rfl⟩
   have hleQ:HLe H5 Q:=by rw [hQ]; exact HLe.self _ _
   have bQ:Q.at H5.length=some ⟨[[ya,.sl yl 0 3,.sl ys 0 3,.int .i64 y.keep,.int .i64 y.time,yd]],6,31,false⟩:=by rw [hQ]; simp
   have c7Q:=hleQ.2 _ _ c75
   have u7Q:=Hp.at_lt c7Q
   obtain⟨R,hR⟩:∃ R:Hp,R=List.set Q L7 (some ⟨[[ya,.sl yl 0 3,.sl ys 0 3,.int .i64 y.keep,.int .i64 y.time,yd]],6,31,false⟩):=⟨_,rfl⟩
   have FR:Fr (fun y=>y=L7) Q R:=by rw [hR]; exact Fr.one _ _ _
   have cR:R.at L7=some ⟨[[ya,.sl yl 0 3,.sl ys 0 3,.int .i64 y.keep,.int .i64 y.time,yd]],6,31,false⟩:=by rw [hR]; exact Hp.at_set _ u7Q
   have bR:=FR.2 _ _ ne7'.symm (hleQ.2 _ _ b5)
   have c4R:=FR.2 _ _ ne7.symm (hleQ.2 _ _ c45)
   have hqR:=(hq5.fr hleQ.fr (S:=fun _=>False) (fun y hy=>hy.elim)).fr FR (fun y hy=>.inr (fun ob ho=>by rw [hy,c7Q] at ho; cases ho; rfl))
   have hvR:=((hv8.le ((hleK.trans hle5).trans hleQ)).fr6 FR (fun y ob hy ho=>by rw [hy,c7Q] at ho; cases ho; rfl))
   have hleR:HLe H R:=(hle'.trans ((hleK.trans hle5).trans hleQ)).fr_le FR (fun y hy=>by omega)
   have hlv:∀ y,v8.of y->y<K.length:=fun y hy=>by have:=hv8.1.lt hy; omega
   have hle8:es.length<=1000:=by
    have:=wrAll_len (ds.take i) s
    rw [<- hes,List.length_take] at this
    omega
   simp [yn1,yn2,h4,h7,h8,h24,h25,h26,hw,<- hQ,bQ,c7Q,u7Q,<- hR,bR,cR]
   refine c_split (fun q0=>?_) (fun q0=>?_)<;>simp at q0
   ·simp [h4,h7,h8,h24,h25,h26,bR,cR]
    refine appG_add (y:=⟨dd.key,dd.num,false,y.time⟩) (row:=entRow) (bytes:=40) (H0:=H) hvR hleR (by omega) rfl (fun v9 H9 g1 g2 g3 g4=>?_)
    have nd:∀ {z:Nat} {ob:Ob},R.at z=some ob->ob.esz=6->¬v8.of z:=fun ho he hz=>by
     have:=hvR.1.esz hz ho
     omega
    have c79:=g3.2 _ _ (nd cR rfl) cR
    have c49:=g3.2 _ _ (nd c4R rfl) c4R
    have hq9:=hqR.fr g3 (fun y hy=>.inl (hlv y hy))
    simp [h4,h7,h8,h24,h25,h26,hw]
    exact⟨m-1,by omega,i+1,y,L7,ya,yl,ys,yd,v9,es++[⟨dd.key,dd.num,false,y.time⟩],by omega,by simp [h4],by simp [h7],by simp,by simp [h24],by simp [h25],by simp,g1,hL7,c79,c49,yn1,yn2,hq9.base (Nat.le_trans hle'.1 hleK.1),doR_small hd,hxs.symm,g2,by rw [hws]; simp [wr1,hd,q0]⟩
   simp
   refine c_split (fun q1=>?_) (fun q1=>?_)<;>simp at q1
   ·simp [h4,h7,h8,h24,h25,h26,bR,cR]
    refine appG_add (y:=⟨dd.key,0,true,y.time⟩) (row:=entRow) (bytes:=40) (H0:=H) hvR hleR (by omega) rfl (fun v9 H9 g1 g2 g3 g4=>?_)
    have nd:∀ {z:Nat} {ob:Ob},R.at z=some ob->ob.esz=6->¬v8.of z:=fun ho he hz=>by
     have:=hvR.1.esz hz ho
     omega
    have c79:=g3.2 _ _ (nd cR rfl) cR
    have c49:=g3.2 _ _ (nd c4R rfl) c4R
    have hq9:=hqR.fr g3 (fun y hy=>.inl (hlv y hy))
    simp [h4,h7,h8,h24,h25,h26,hw]
    exact⟨m-1,by omega,i+1,y,L7,ya,yl,ys,yd,v9,es++[⟨dd.key,0,true,y.time⟩],by omega,by simp [h4],by simp [h7],by simp,by simp [h24],by simp [h25],by simp,g1,hL7,c79,c49,yn1,yn2,hq9.base (Nat.le_trans hle'.1 hleK.1),doR_small hd,hxs.symm,g2,by rw [hws]; simp [wr1,hd,q1]⟩
   simp [h4,h7,h8,h24,h25,h26,hw]
   exact⟨m-1,by omega,i+1,y,L7,ya,yl,ys,yd,v8,es,by omega,by simp [h4],by simp [h7],by simp [h8],by simp [h24],by simp [h25],by simp,hleR,hL7,cR,c4R,yn1,yn2,hqR.base (Nat.le_trans hle'.1 hleK.1),doR_small hd,hxs.symm,hvR,by rw [hws]; simp [wr1,hd,q0,q1]⟩
 ·have hie:i=ds.length:=by omega
  subst hie
  rw [List.take_of_length_le (Nat.le_refl _)] at hx hes
  have t1:=Hp.at_lt c4
  simp [h4,h7,h8,c7,c4,wn1,wn2,Hp.at_set,t1,hp,<- hx,<- hes]
  have F:=Fr.one H' (H.length+1) (some ⟨[[wa,.sl wl 0 3,.sl ws 0 3,.int .i64 x.keep,.int .i64 x.time,wd]],6,31,false⟩)
  have hS:∀ y ob,y=H.length+1->H'.at y=some ob->ob.esz=6:=fun y ob hy ho=>by rw [hy,c4] at ho; cases ho; rfl
  exact⟨hle'.fr_le F (fun y hy=>by rw [hy]; omega),_,_,rfl,hst.fr F (fun y hy=>.inr (fun ob ho=>hS y ob hy ho)),hv8.fr6 F hS⟩
end Go.Proofs.YtdncpcghiooeoaaGreatDoor.B

namespace Go.Proofs.YtdncpcghiooeoaaGreatDoor.B
open Go.RowKit Go.Proofs
set_option linter.unusedVariables false
set_option linter.unusedSimpArgs false
variable {E:Env}
def RetF (H0 H:Hp) (u:AV) (o:Option Sr):Prop:=HLe H0 H/\match o with
 | some x=>∃ w,u=.tu [w,.bool true]/\FarS H0.length H w x
 | none=>u=.tu [zst,.bool false]
theorem FarS.shape {B:Nat} {H:Hp} {v:AV} {s:Sr} (h:FarS B H v s):∃ a b c d,v=.ag [a,b,c,.int .i64 s.keep,.int .i64 s.time,d]/\one a=true/\one b=true/\one c=true/\one d=true:=by
 obtain⟨a,b,c,d,lr,sr,e,h1,h2,h3,h4,h5,h6,h7⟩:=h
 exact⟨a,b,c,d,e,h1.one,h2.one,h4.one,h6.one⟩
theorem pastI_fst (s:Sr) (ds:List Dd):(pastI s ds).map (·.1)=pastR s ds:=by
 unfold pastI pastR
 split<;>rfl
theorem implPastDo_ok (v u:AV) (s:Sr) (ds:List Dd) (H:Hp) (hs:St H v s) (hb:StB s) (hu:Dds H u ds) (hk:∀ d∈ds,d.key.size<4611686018427387904) :
  AC Tryz.prog E 9 [v,u] H (fun w H'=>RetF H H' w (pastR s ds)):=by
 have hs0:=hs
 obtain⟨a,b,c,d,rfl,n1,n2,n3,n4,hea,hed⟩:=hs.shape
 refine AC_by fol (tC_le tabJ_ok) h_impl_PastDo ?_
 obtain⟨H1,hH1⟩:∃ H1:Hp,H1=H++[some ⟨[[a,b,c,.int .i64 s.keep,.int .i64 s.time,d]],6,31,false⟩,some ⟨[[.nils,.nils,.nils,.int .i64 0,.int .i64 0,.nils]],6,31,false⟩]:=⟨_,rfl⟩
 have hle1:HLe H H1:=by rw [hH1]; exact HLe.self _ _
 have b0:H1.at H.length=some ⟨[[a,b,c,.int .i64 s.keep,.int .i64 s.time,d]],6,31,false⟩:=by rw [hH1]; simp
 have b1:H1.at (H.length+1)=some ⟨[[.nils,.nils,.nils,.int .i64 0,.int .i64 0,.nils]],6,31,false⟩:=by rw [hH1]; simp
 simp [c_impl_PastDo,n1,n2,n3,n4,<- hH1,b0]
 refine cg_ex (past_ok _ u s ds H1 (hs0.le hle1) hb (Rows.le hu hle1) hk) ?_
 rintro v2 H2 hret
 have hp:=pastI_fst s ds
 obtain⟨hle2,hr⟩:=hret
 have b2:=hle2.2 _ _ b1
 have u2:=Hp.at_lt b2
 have hle:=hle1.trans hle2
 cases hx:pastI s ds with
 | none =>
  rw [hx] at hr hp
  obtain rfl:=hr
  rw [<- hp]
  simp [b2,u2,Hp.at_set,RetF,Hp.at_app,at_len,at_in,set_in']
  exact (hle.set (by omega) _).app _
 | some x =>
  rw [hx] at hr hp
  obtain⟨w,e,rfl,hw,he⟩:=hr
  rw [<- hp]
  obtain⟨a',b',c',d',rfl,o1,o2,o3,o4⟩:=hw.shape
  simp [b2,u2,o1,o2,o3,o4,he.1.rows.one,Hp.at_set,RetF,Hp.at_app,at_len,at_in,set_in']
  have F:=(Fr.one H2 (H.length+1) (some ⟨[[a',b',c',.int .i64 x.1.keep,.int .i64 x.1.time,d']],6,31,false⟩)).app [some ⟨[[a',b',c',.int .i64 x.1.keep,.int .i64 x.1.time,d']],6,31,false⟩]
  exact⟨(hle.set (by omega) _).app _,(hw.fr F (fun y hy=>.inr (fun ob ho=>by rw [hy,b2] at ho; cases ho; rfl))).base hle1.1⟩
end Go.Proofs.YtdncpcghiooeoaaGreatDoor.B

namespace Go.Proofs.YtdncpcghiooeoaaGreatDoor.B
open Go.RowKit Go.Proofs
set_option linter.unusedVariables false
set_option linter.unusedSimpArgs false
variable {E:Env}
def sv0 (keep:Int):Sv:=⟨⟨#[]⟩,⟨#[]⟩,⟨#[]⟩,[],keep⟩
theorem StoreNew_ok (keep:Int) (H:Hp):AC Tryz.prog E 65 [.int .i64 keep] H (fun u H'=>RetS H H' u (newR keep)):=by
 refine AC_by fol (tC_le tab2_ok) h_spec_StoreNew ?_
 simp [c_spec_StoreNew]
 refine c_split (fun hq=>?_) (fun hq=>?_)<;>simp at hq
 ·have hn:newR keep=none:=by unfold newR; rw [if_neg (by omega)]
  simp [hn,RetS]
 have hn:newR keep=some ⟨[],List.replicate 3 [],List.replicate 3 (sv0 keep),keep,0,[]⟩:=by
  unfold newR
  rw [if_pos (by omega)]
  rfl
 simp
 refine W_for (fun m t H'=>∃ i lv sv lr sr,i+m=3/\t 0=.int .i64 keep/\t 2=.pt H.length 0 0/\t 4=.pt (H.length+3) 0 0/\t 5=.int .i64 (i:Nat)/\HLe H H' /\
  H'.at H.length=some ⟨[[.nils,.nils,.nils,.int .i64 0,.int .i64 0,.nils]],6,31,false⟩ /\
  H'.at (H.length+3)=some ⟨[[.sl (H.length+1) 0 0,lv,sv,.int .i64 keep,.int .i64 0,.sl (H.length+2) 0 0]],6,31,false⟩ /\
  OwnE H H' (.sl (H.length+1) 0 0) []/\OwnI H H' (.sl (H.length+2) 0 0) []/\Own 1 26 H' lv lr/\(∀ x,lv.of x->H.length+4<=x)/\All2 (LvRow H') lr (List.replicate i [])/\OffB H (.sl (H.length+1) 0 0) lr /\
  Own 5 60 H' sv sr/\(∀ x,sv.of x->H.length+4<=x)/\All2 (SvRow H' (fun x=>lv.of x\/H.length+2=x)) sr (List.replicate i (sv0 keep))) 3 ?_ (tC_mono AC_mono) ?_
 ·refine⟨0,.nils,.nils,[],[],rfl,by simp,by simp,by simp,by simp,HLe.self _ _,by simp,by simp,⟨Own.obj (R:=[]) (by simp) rfl,fun x hx=>by simp at hx; omega⟩,⟨Own.obj (R:=[]) (by simp) rfl,fun x hx=>by simp at hx; omega⟩,Own.nils,fun x hx=>hx.elim,trivial,OffB.nil _ _,Own.nils,fun x hx=>hx.elim,trivial⟩
 rintro m t H' ⟨i,lv,sv,lr,sr,him,h0,h2,h4,h5,hle,k0,k3,htop,htms,hlv,hlva,hlvr,hoff,hsv,hsva,hsvr⟩
 simp [h0,h2,h4,h5]
 refine c_split (fun hq2=>?_) (fun hq2=>?_)<;>simp at hq2
 ·have hi3:i<3:=by omega
  have hw:=wrapN (i:=i) (by omega)
  have u0:=Hp.at_lt k0
  have u3:=Hp.at_lt k3
  simp [h0,h2,h4,h5,k3,Hp.at_app,u3]
  rw [List.append_cons]
  have hA:HLe H' (H'++[some ⟨[],4,68,false⟩]):=HLe.self _ _
  refine appG_one' (bytes:=24) (R:=lr) (by simp) (hlv.le hA) (by have:=All2.length hlvr; simp at this; omega) (fun v5 H5 g1 g2 g3=>?_)
  have hF5:Fr lv.of H' H5:=(hA.fr (S:=lv.of)).same g2
  have nlv:∀ x,x<H.length+4->¬lv.of x:=fun x h1 h2=>by have:=hlva x h2; omega
  have k05:=hF5.2 _ _ (nlv _ (by omega)) k0
  have k35:=hF5.2 _ _ (nlv _ (by omega)) k3
  have ktop:=g2.2 H'.length _ (fun h=>by have:=hlv.lt h; omega) (Hp.at_app_0.trans Hp.at_0)
  have u05:=Hp.at_lt k05
  have u35:=Hp.at_lt k35
  have m03:H.length≠H.length+3:=by omega
  have hl5:=g2.1
  simp at hl5
  simp [h0,h2,h4,h5,k35,g1.rows.one,g1.rows.cells,g1.rows.cells1,Hp.at_set,Hp.at_app,List.length_set,u35]
  obtain⟨X,hX⟩:∃ X:Option Ob,X=some ⟨[[.sl (H.length+1) 0 0,v5,sv,.int .i64 keep,.int .i64 0,.sl (H.length+2) 0 0]],6,31,false⟩:=⟨_,rfl⟩
  rw [<- hX]
  obtain⟨G5,hG5⟩:∃ G5:Hp,G5=List.set H5 (H.length+3) X:=⟨_,rfl⟩
  have hGl:H5.length=G5.length:=by rw [hG5]; simp
  have hG:Fr (fun x=>x=H.length+3) H5 G5:=by rw [hG5]; exact Fr.one _ _ _
  have kG3:G5.at (H.length+3)=X:=by rw [hG5]; exact Hp.at_set _ u35
  rw [<- hG5,hGl,List.append_cons]
  have hB:HLe G5 (G5++[some ⟨[],1,9,false⟩]):=HLe.self _ _
  have hsv5:Own 5 60 H5 sv sr:=hsv.fr hF5 (fun x hx h=>hlv.rows.apart hsv.rows (by simp) h hx)
  have hsvG:Own 5 60 G5 sv sr:=hsv5.fr hG (fun x hx=>by have:=hsva x hx; omega)
  refine appG_one' (bytes:=80) (R:=sr) (by simp) (hsvG.le hB) (by have:=All2.length hsvr; simp at this; omega) (fun v7 H7 p1 p2 p3=>?_)
  have hF7:Fr sv.of G5 H7:=(hB.fr (S:=sv.of)).same p2
  have nsv:∀ x,x<H.length+4->¬sv.of x:=fun x h1 h2=>by have:=hsva x h2; omega
  have kG0:=hG.2 _ _ m03 k05
  have k07:=hF7.2 _ _ (nsv _ (by omega)) kG0
  have k37:=hF7.2 _ _ (nsv _ (by omega)) (kG3.trans hX)
  have u37:=Hp.at_lt k37
  have hl7:=hF7.1
  have hsvl:∀ x,sv.of x->x<H'.length:=fun x hx=>hsv.lt hx
  have hlvl:∀ x,lv.of x->x<H'.length:=fun x hx=>hlv.lt hx
  have ktG:=hG.2 _ _ (show H'.length≠H.length+3 by omega) ktop
  have kt7:=hF7.2 _ _ (fun h=>by have:=hsvl _ h; omega) ktG
  have ks7:=p2.2 G5.length _ (fun h=>by have:=hsvl _ h; omega) (Hp.at_app_0.trans Hp.at_0)
  simp [h0,h2,h4,h5,k37,p1.rows.one,p1.rows.cells,p1.rows.cells1,hw]
  obtain⟨Z,hZ⟩:∃ Z:Option Ob,Z=some ⟨[[.sl (H.length+1) 0 0,v5,v7,.int .i64 keep,.int .i64 0,.sl (H.length+2) 0 0]],6,31,false⟩:=⟨_,rfl⟩
  rw [<- hZ]
  have hS:=Fr.one H7 (H.length+3) Z
  have hF58:Fr (fun x=>x=H.length+3\/sv.of x) H5 (List.set H7 (H.length+3) Z):=((hG.mono (fun x hx=>.inl (.inl hx))).trans hF7 (fun x hx=>.inl (.inr hx))).trans hS (fun x hx=>.inl (.inl hx))
  have hF8:Fr (fun x=>lv.of x\/sv.of x\/x=H.length+3) H' (List.set H7 (H.length+3) Z):=(hF5.mono (fun x hx=>.inl (.inl hx))).trans hF58 (fun x hx=>hx.elim (fun h=>.inl (.inr (.inr h))) (fun h=>.inl (.inr (.inl h))))
  have ns4:∀ x ob,(lv.of x\/sv.of x\/x=H.length+3)->H'.at x=some ob->ob.esz≠4:=fun x ob hs ho=>by
   rcases hs with h | h | h
   ·rw [hlv.esz h ho]; decide
   ·rw [hsv.esz h ho]; decide
   ·subst h; rw [k3] at ho; cases ho; simp
  have v5a:∀ x,v5.of x->lv.of x\/H'.length<=x:=fun x hx=>(g3 x hx).imp id (fun h=>by simp at h; omega)
  have v7a:∀ x,v7.of x->sv.of x\/H5.length<=x:=fun x hx=>(p3 x hx).imp id (fun h=>by simp at h; omega)
  have k0F:=hS.2 _ _ m03 k07
  have ktF:=hS.2 _ _ (show H'.length≠H.length+3 by omega) kt7
  have ksF:=hS.2 _ _ (show G5.length≠H.length+3 by omega) ks7
  refine⟨m-1,by omega,i+1,by omega,by omega,hle.fr_le hF8 (fun x hx=>by rcases hx with h | h | h; (have:=hlva x h; omega); (have:=hsva x h; omega); omega),k0F,v5,v7,(Hp.at_set _ u37).trans hZ,?_,?_,lr++[[.sl H'.length 0 0]],?_,?_,?_,hoff.add (fun y hy hy2=>by have h1:H.length+1=y:=hy; have h2:H'.length=y:=hy2; have:=Hp.at_lt k3; omega) (fun y hy=>by have h2:H'.length=y:=hy; have:=hle.1; omega),sr++[[.str ⟨#[]⟩,.str ⟨#[]⟩,.str ⟨#[]⟩,.sl G5.length 0 0,.int .i64 keep]],?_,?_,?_⟩
  ·exact htop.fr hF8 (fun x hx hs=>by
    have hx':H.length+1=x:=hx
    rcases hs with h | h | h
    ·have:=hlva x h; omega
    ·have:=hsva x h; omega
    ·omega)
  ·exact htms.fr hF8 (fun x hx hs=>by
    have hx':H.length+2=x:=hx
    rcases hs with h | h | h
    ·have:=hlva x h; omega
    ·have:=hsva x h; omega
    ·omega)
  ·exact g1.fr hF58 (fun x hx hs=>by
    rcases hs with h | h
    ·rcases v5a x hx with hh | hh
     ·have:=hlva x hh; omega
     ·omega
    ·exact g1.rows.apart hsv5.rows (by simp) hx h)
  ·intro x hx
   rcases v5a x hx with h | h
   ·exact hlva x h
   ·omega
  ·rw [List.replicate_succ']
   exact (All2.mono (fun row es h=>h.fr hF8 ns4) hlvr).append ⟨⟨_,rfl,Own.rows (ety:=68) (Own.obj (R:=[]) ktF rfl)⟩,trivial⟩
  ·exact p1.fr hS (fun x hx=>by
    rcases v7a x hx with h | h
    ·have:=hsva x h; omega
    ·omega)
  ·intro x hx
   rcases v7a x hx with h | h
   ·exact hsva x h
   ·omega
  ·rw [List.replicate_succ']
   refine (All2.mono (fun row sv' h=>?_) hsvr).append ⟨⟨.sl G5.length 0 0,rfl,Own.rows (ety:=9) (Own.obj (R:=[]) ksF rfl),fun x hx h=>?_⟩,trivial⟩
   ·refine SvRow.fr (X':=fun x=>v5.of x\/H.length+2=x) h hF8 (fun x ob hs ho=>?_) (fun x hx hx'=>hx'.elim (fun h=>(v5a x h).elim .inl (fun h=>by omega)) .inr)
    rcases hs with h | h | h
    ·exact .inr (.inl h)
    ·exact .inl (by rw [hsv.esz h ho]; decide)
    ·exact .inl (by subst h; rw [k3] at ho; cases ho; simp)
   ·have hx':G5.length=x:=hx
    rcases h with h | h
    ·have:=g1.lt h; omega
    ·omega
 ·have hi3:i=3:=by omega
  subst hi3
  have u0:=Hp.at_lt k0
  obtain⟨ol,rfl⟩:=hlv.sl (by rw [hlvr.length]; simp)
  obtain⟨os,rfl⟩:=hsv.sl (by rw [hsvr.length]; simp)
  have hl3:lr.length=3:=by rw [hlvr.length]; simp
  have hs3:sr.length=3:=by rw [hsvr.length]; simp
  rw [hl3] at hlv k3
  rw [hs3] at hsv k3
  simp [h2,h4,k0,k3,Hp.at_set,u0,hn]
  have hF:=Fr.one H' H.length (some ⟨[[.sl (H.length+1) 0 0,.sl ol 0 3,.sl os 0 3,.int .i64 keep,.int .i64 0,.sl (H.length+2) 0 0]],6,31,false⟩)
  have hm:MSt H H' (.ag [.sl (H.length+1) 0 0,.sl ol 0 3,.sl os 0 3,.int .i64 keep,.int .i64 0,.sl (H.length+2) 0 0]) ⟨[],List.replicate 3 [],List.replicate 3 (sv0 keep),keep,0,[]⟩ :=
   ⟨.sl (H.length+1) 0 0,ol,os,.sl (H.length+2) 0 0,lr,sr,rfl,htop,hlv,hlvr,hsv,All2.mono (fun _ _ h=>by
    obtain⟨r,e1,e2,e3⟩:=h
    rw [hl3] at e3
    exact⟨r,e1,e2,e3⟩) hsvr,htms,fun hx=>by have:=hlva ol rfl; simp at hx; omega,by have:=hlva ol rfl; omega,by have:=hsva os rfl; omega,rfl,rfl,hoff⟩
  exact⟨hle.fr_le hF (fun x hx=>by rw [hx]; exact Nat.le_refl _),_,rfl,hm.fr hF (fun y ob hy ho=>by rw [hy,k0] at ho; cases ho; rfl)⟩
end Go.Proofs.YtdncpcghiooeoaaGreatDoor.B

namespace Go.Proofs.YtdncpcghiooeoaaGreatDoor.B
open Go.RowKit Go.Proofs
set_option linter.unusedVariables false
set_option linter.unusedSimpArgs false
variable {E:Env}
abbrev OwnD:=OwnM (α:=Dd) 3 24 ddRow
theorem l71Deeds_ok (o N:Nat) (most:Nat) (H:Hp) (hr:Rd H o N) (hm:most<1000) (hN:N<68719476736) :
  AC Tryz.prog E 16 [.pt o 0 0,.int .i64 most] H (fun v H'=>∃ ds,OwnD H H' v ds/\ds.length<=most+1/\(∀ d∈ds,d.key.size<=5)/\Dr o H H'/\Rd H' o (N+39+10 * most)):=by
 refine AC_by fol (tC_le tab2_ok) h_spec_l71Deeds ?_
 have hw0:=wrapN (i:=most) (by omega)
 simp [c_spec_l71Deeds,hw0]
 refine cg_ex (l71Keys_ok o N 5 H hr (by omega) (by omega)) ?_
 rintro kv H1 ⟨ks,hks,hkl,hksz,hd1,hr1⟩
 simp [hw0]
 refine cg_ex (pick_ok o _ ((most:Int)+1) _ (hr1.le (HLe.self _ _)) (by omega) (by omega)) ?_
 rintro v H2 ⟨n,rfl,hn,hd2,hr2,hlen⟩
 have hd0:Dr o H H2:=(hd1.app _).same hd2
 have hn1:n<=most:=by omega
 have hks2:OwnS H H2 kv ks:=OwnM.dr (hr1.le (HLe.self _ _)) (hks.le (HLe.self _ _)) (by decide) hd2
 simp
 refine W_for (fun m t H'=>∃ ds v,m<=most/\t 0=.pt o 0 0/\t 5=kv/\t 6=v/\t 7=.int .i64 m/\OwnD H H' v ds/\OwnS H H' kv ks/\ds.length+m<=most/\(∀ d∈ds,d.key.size<=5)/\Dr o H H'/\Rd H' o (N+37+10 * (most-m))) n ?_ (tC_mono AC_mono) ?_
 ·refine⟨[],_,hn1,by simp,by simp,by simp; rfl,by simp,?_,hks2,by simpa using hn1,by simp,hd0,hr2.mono (by omega)⟩
  exact (OwnM.dr (hr1.le (HLe.self _ _)) (OwnM.lit0 (HLe.refl H1)) (by decide) hd2).base hd1.len
 rintro m t H' ⟨ds,v,hm5,h0,h5,h6,h7,hv,hkv,hdl,hdk,hd,hr⟩
 simp [h0,h5,h6,h7]
 refine c_split (fun hq=>?_) (fun hq=>?_)<;>simp at hq
 ·have hw:IntKind.i64.wrap ((m:Int)-1)=((m-1:Nat):Int):=by rw [wrap64 (by omega) (by omega)]; omega
  simp [h0,h5,h6,h7]
  refine cg_ex (l71Deed_ok o _ kv ks H' hr hkv.strs (by omega) hksz (by omega)) ?_
  rintro _ H2 ⟨e,rfl,hk5,hd2,hr2⟩
  have hkv2:=OwnM.dr hr hkv (by decide) hd2
  have hv2:=OwnM.dr hr hv (by decide) hd2
  simp [h0,h5,h6,h7,ddAV]
  have hla:=hd.len
  have hl2a:=hd2.len
  refine appG_one' (bytes:=32) (R:=ds.map ddRow) rfl hv2.1 (by simp; omega) (fun v5 H5 g1 g2 g3=>?_)
  have hv5:OwnD H H5 v5 (ds++[e]):=⟨by simpa [ddRow] using g1,fun x hx=>(g3 x hx).elim (hv2.2 x) (fun h=>by omega)⟩
  have hr5:=(hr2.fr g2 (fun h=>hr2.ne hv2.rows (by decide) h rfl) (fun x ob hx ho=>by rw [hv2.1.esz hx ho]; decide))
  have hd5:Dr o H H5:=(hd.same hd2).trans g2 (fun x hx=>.inr (hv2.2 x hx))
  have hkv5:=hkv2.fr g2 (fun x hx hs=>hkv2.rows.apart hv2.rows (by simp) hx hs)
  simp [h0,h5,h6,h7,hw]
  refine⟨m-1,by omega,by omega,rfl,ds++[e],hv5,hkv5,by simp; omega,fun d hd=>?_,hd5,hr5.mono (by omega)⟩
  rcases List.mem_append.1 hd with h | h
  ·exact hdk d h
  ·rw [List.mem_singleton.1 h]; exact hk5
 ·have:m=0:=by omega
  subst this
  simp [h0,h6]
  refine cg_ex (pick_ok o _ 24 _ hr (by omega) (by omega)) ?_
  rintro _ H2 ⟨c,rfl,hc,hd2,hr2,-⟩
  have hv2:=OwnM.dr hr hv (by decide) hd2
  simp [h0,h6]
  refine c_split (fun hq=>?_) (fun hq=>?_)<;>simp at hq
  ·simp [h0,h6]
   refine cg_ex (pick_ok o _ 9 _ hr2 (by omega) (by omega)) ?_
   rintro _ H3 ⟨q,rfl,hq9,hd3,hr3,-⟩
   have hv3:=OwnM.dr hr2 hv2 (by decide) hd3
   simp [h0,h6]
   have hlb:=hd.len
   have hl2b:=hd2.len
   have hl3b:=hd3.len
   refine appG_one' (bytes:=32) (R:=ds.map ddRow) rfl hv3.1 (by simp; omega) (fun v5 H5 g1 g2 g3=>?_)
   have hv5:OwnD H H5 v5 (ds++[⟨IntKind.i64.wrap ((q:Int)-1),⟨#[120]⟩,-1⟩]):=⟨by simpa [ddRow] using g1,fun x hx=>(g3 x hx).elim (hv3.2 x) (fun h=>by omega)⟩
   have hr5:=(hr3.fr g2 (fun h=>hr3.ne hv3.rows (by decide) h rfl) (fun x ob hx ho=>by rw [hv3.1.esz hx ho]; decide))
   have hd5:Dr o H H5:=((hd.same hd2).same hd3).trans g2 (fun x hx=>.inr (hv3.2 x hx))
   simp
   refine⟨_,hv5,by simp; omega,fun d hd=>?_,hd5,hr5.mono (by omega)⟩
   rcases List.mem_append.1 hd with h | h
   ·exact hdk d h
   ·rw [List.mem_singleton.1 h]; show 1<=5; omega
  ·simp [h0,h6]
   exact⟨ds,hv2,by omega,hdk,hd.same hd2,hr2.mono (by omega)⟩
end Go.Proofs.YtdncpcghiooeoaaGreatDoor.B

namespace Go.Proofs.YtdncpcghiooeoaaGreatDoor.B
open Go.RowKit Go.Proofs
set_option linter.unusedVariables false
set_option linter.unusedSimpArgs false
variable {E:Env}
theorem MSt.frn {S:Nat->Prop} {H0 H H':Hp} {v:AV} {s:Sr} (h:MSt H0 H v s) (hf:Fr S H H') (hS:∀ x ob,S x->H.at x=some ob->ob.esz=2\/ob.esz=6):MSt H0 H' v s:=by
 obtain⟨a,ol,os,d,lr,sr,rfl,ha,hlv,hlr,hsv,hsr,hd,hdo,hol,hos,hl3,hs3,hoff⟩:=h
 have no:∀ {esz ety:Nat} {v:AV} {R:List (List AV)},esz≠2/\esz≠6->Own esz ety H v R->∀ x,v.of x->¬S x:=by
  intro esz ety v R hne ho x hx hs
  rcases ho with ⟨rfl,_⟩ | ⟨rfl,_⟩ | ⟨o',ob,rfl,a2,a3,a4,_⟩
  ·exact hx.elim
  ·exact hx.elim
  ·have:o'=x:=hx
   subst this
   rcases hS _ _ hs a2 with h | h
   ·exact hne.1 (a4.symm.trans h)
   ·exact hne.2 (a4.symm.trans h)
 refine⟨a,ol,os,d,lr,sr,rfl,ha.fr hf (no (by omega) ha.1),hlv.fr hf (no (by omega) hlv),All2.mono (fun _ _ h=>h.fr hf (fun x ob hs ho=>by have:=hS x ob hs ho; omega)) hlr,hsv.fr hf (no (by omega) hsv),
  All2.mono (fun _ _ h=>h.fr hf (fun x ob hs ho=>.inl (by have:=hS x ob hs ho; omega)) (fun _ _ h=>h)) hsr,hd.fr hf (no (by omega) hd.1),hdo,hol,hos,hl3,hs3,hoff⟩
theorem doAll_small:∀ (ds:List Dd) {s:Sr},Small s->Small (doAll s ds)
 | [],s,h=>h
 | d :: ds,s,h=>by
  have:doAll s (d :: ds)=doAll ((doR s d).getD s) ds:=rfl
  rw [this]
  refine doAll_small ds ?_
  cases hd:doR s d with
  | none=>exact h
  | some x=>exact doR_small hd
theorem pastR_small {s x:Sr} {ds:List Dd} (h:pastR s ds=some x):Small x:=by
 unfold pastR at h
 split at h
 ·rename_i hc
  cases h
  simp only [Bool.and_eq_true] at hc
  exact doAll_small ds (storeOk_small hc.1)
 ·cases h
end Go.Proofs.YtdncpcghiooeoaaGreatDoor.B

namespace Go.Proofs.YtdncpcghiooeoaaGreatDoor.B
open Go.RowKit
set_option linter.unusedVariables false
set_option linter.unusedSimpArgs false
structure Best (l:List Ent) (k:ByteArray) (t:Int) (e:Ent):Prop where
 mem:e∈l
 key:e.key=k
 le:e.time<=t
 max:∀ y∈l,y.key=k->y.time<=t->y.time<=e.time
theorem Best.congr {l l':List Ent} (h:∀ x,x∈l↔x∈l') {k:ByteArray} {t:Int} {e:Ent} (hb:Best l k t e):Best l' k t e:=⟨(h e).1 hb.mem,hb.key,hb.le,fun y hy=>hb.max y ((h y).2 hy)⟩
theorem best_of {l:List Ent} {k:ByteArray} {t:Int}:∀ {x:Ent},x∈l->x.key=k->x.time<=t->∃ e,Best l k t e/\x.time<=e.time:=by
 induction l with
 | nil=>intro x hx; cases hx
 | cons a l ih =>
  intro x hx hk ht
  by_cases ha:a.key=k/\a.time<=t
  ·by_cases hl:∃ z∈l,z.key=k/\z.time<=t
   ·obtain⟨z,hz,hzk,hzt⟩:=hl
    obtain⟨e,he,hze⟩:=ih hz hzk hzt
    by_cases hc:a.time<=e.time
    ·refine⟨e,⟨by simp [he.mem],he.key,he.le,fun y hy hyk hyt=>?_⟩,?_⟩
     ·rcases List.mem_cons.1 hy with rfl | hy
      ·exact hc
      ·exact he.max y hy hyk hyt
     ·rcases List.mem_cons.1 hx with rfl | hx
      ·exact hc
      ·exact he.max x hx hk ht
    ·refine⟨a,⟨by simp,ha.1,ha.2,fun y hy hyk hyt=>?_⟩,?_⟩
     ·rcases List.mem_cons.1 hy with rfl | hy
      ·exact Int.le_refl _
      ·have:=he.max y hy hyk hyt
       omega
     ·rcases List.mem_cons.1 hx with rfl | hx
      ·exact Int.le_refl _
      ·have:=he.max x hx hk ht
       omega
   ·have hno:∀ y∈l,y.key=k->y.time<=t->False:=fun y hy h1 h2=>hl ⟨y,hy,h1,h2⟩
    refine⟨a,⟨by simp,ha.1,ha.2,fun y hy hyk hyt=>?_⟩,?_⟩
    ·rcases List.mem_cons.1 hy with rfl | hy
     ·exact Int.le_refl _
     ·exact (hno y hy hyk hyt).elim
    ·rcases List.mem_cons.1 hx with rfl | hx
     ·exact Int.le_refl _
     ·exact (hno x hx hk ht).elim
  ·rcases List.mem_cons.1 hx with rfl | hx
   ·exact absurd ⟨hk,ht⟩ ha
   ·obtain⟨e,he,hxe⟩:=ih hx hk ht
    refine⟨e,⟨by simp [he.mem],he.key,he.le,fun y hy hyk hyt=>?_⟩,hxe⟩
    rcases List.mem_cons.1 hy with rfl | hy
    ·exact absurd ⟨hyk,hyt⟩ ha
    ·exact he.max y hy hyk hyt
def Same (t:Int) (l l':List Ent):Prop:=∀ k e,Best l k t e↔Best l' k t e
def Seen (t:Int) (l l':List Ent):Prop:=∀ k e,e.gone=false->(Best l k t e↔Best l' k t e)
theorem Same.seen {t:Int} {l l':List Ent} (h:Same t l l'):Seen t l l':=fun k e _=>h k e
theorem Same.refl (t:Int) (l:List Ent):Same t l l:=fun _ _=>Iff.rfl
theorem Same.trans {t:Int} {a b c:List Ent} (h:Same t a b) (k:Same t b c):Same t a c:=fun x e=>(h x e).trans (k x e)
theorem Seen.trans {t:Int} {a b c:List Ent} (h:Seen t a b) (k:Seen t b c):Seen t a c:=fun x e g=>(h x e g).trans (k x e g)
theorem Seen.symm {t:Int} {a b:List Ent} (h:Seen t a b):Seen t b a:=fun x e g=>(h x e g).symm
theorem same_mem {t:Int} {l l':List Ent} (h:∀ x,x∈l↔x∈l'):Same t l l':=fun k e=>⟨Best.congr h,Best.congr (fun x=>(h x).symm)⟩
theorem same_sub {t:Int} {l l':List Ent} (hs:∀ x∈l',x∈l) (hb:∀ k e,Best l k t e->e∈l'):Same t l l':=fun k e=>by
 constructor
 ·intro h
  exact⟨hb k e h,h.key,h.le,fun y hy=>h.max y (hs y hy)⟩
 ·intro h
  refine⟨hs e h.mem,h.key,h.le,fun y hy hyk hyt=>?_⟩
  obtain⟨g,hg,hyg⟩:=best_of hy hyk hyt
  have:=h.max g (hb k g hg) hg.key hg.le
  omega
def Newer (a b:List Ent):Prop:=∀ x∈a,∀ y∈b,x.key=y.key->y.time<x.time
theorem best_app {a b:List Ent} (h:Newer a b) {k:ByteArray} {t:Int} {e:Ent}:Best (a++b) k t e↔Best a k t e\/((∀ x∈a,x.key=k->¬x.time<=t)/\Best b k t e):=by
 constructor
 ·intro hb
  by_cases hx:∃ x∈a,x.key=k/\x.time<=t
  ·obtain⟨x,hxa,hxk,hxt⟩:=hx
   have hm:=hb.max x (by simp [hxa]) hxk hxt
   rcases List.mem_append.1 hb.mem with hea | heb
   ·exact .inl ⟨hea,hb.key,hb.le,fun y hy=>hb.max y (by simp [hy])⟩
   ·have:=h x hxa e heb (hxk.trans hb.key.symm)
    omega
  ·have hno:∀ x∈a,x.key=k->¬x.time<=t:=fun x h1 h2 h3=>hx ⟨x,h1,h2,h3⟩
   rcases List.mem_append.1 hb.mem with hea | heb
   ·exact absurd hb.le (hno e hea hb.key)
   ·exact .inr ⟨hno,heb,hb.key,hb.le,fun y hy=>hb.max y (by simp [hy])⟩
 ·rintro (hb | ⟨hno,hb⟩)
  ·refine⟨by simp [hb.mem],hb.key,hb.le,fun y hy hyk hyt=>?_⟩
   rcases List.mem_append.1 hy with hy | hy
   ·exact hb.max y hy hyk hyt
   ·have:=h e hb.mem y hy (hb.key.trans hyk.symm)
    omega
  ·refine⟨by simp [hb.mem],hb.key,hb.le,fun y hy hyk hyt=>?_⟩
   rcases List.mem_append.1 hy with hy | hy
   ·exact absurd hyt (hno y hy hyk)
   ·exact hb.max y hy hyk hyt
theorem Seen.left {t:Int} {a b b':List Ent} (h:Newer a b) (h':Newer a b') (hs:Seen t b b'):Seen t (a++b) (a++b'):=fun k e g=>by
 rw [best_app h,best_app h',hs k e g]
theorem Same.right {t:Int} {a a' b:List Ent} (h:Newer a b) (h':Newer a' b) (hs:Same t a a'):Same t (a++b) (a'++b):=fun k e=>by
 rw [best_app h,best_app h',hs k e]
 have:(∀ x∈a,x.key=k->¬x.time<=t)↔(∀ x∈a',x.key=k->¬x.time<=t):=by
  constructor
  ·intro hn x hx hk ht
   obtain⟨g,hg,_⟩:=best_of hx hk ht
   exact hn g ((hs k g).2 hg).mem hg.key hg.le
  ·intro hn x hx hk ht
   obtain⟨g,hg,_⟩:=best_of hx hk ht
   exact hn g ((hs k g).1 hg).mem hg.key hg.le
 rw [this]
def Look (ts:List Int) (r:List Ent) (t:Int):Prop:=t∈ts\/∀ x∈r,x.time<=t
theorem trim1_best {ts:List Int} {t:Int}:∀ {r:List Ent} {p:Option Ent},(∀ q,p=some q->∀ y∈r,ahead q y=true)->r.Pairwise (fun x y=>ahead x y=true)->(t∈ts\/((∀ x∈r,x.time<=t)/\∀ q,p=some q->q.time<=t)) ->
  ∀ k e,Best r k t e->(∀ q,p=some q->q.key=k->t<q.time)->e∈trim1 ts p r
 | [],p,_,_,_,k,e,hb,_=>by cases hb.mem
 | a :: r,p,hp,hs,hlook,k,e,hb,hpq=>by
  obtain⟨h1,h2⟩:=List.pairwise_cons.1 hs
  have hlook2:t∈ts\/((∀ x∈r,x.time<=t)/\∀ q,some a=some q->q.time<=t):=hlook.imp id (fun h=>⟨fun x hx=>h.1 x (by simp [hx]),fun q hq=>by injection hq with hq; rw [<- hq]; exact h.1 a (by simp)⟩)
  rw [trim1]
  have rec':e∈r->e∈trim1 ts (some a) r:=fun her=>by
   refine trim1_best (fun q hq y hy=>by injection hq with hq; rw [<- hq]; exact h1 y hy) h2 hlook2 k e ⟨her,hb.key,hb.le,fun y hy=>hb.max y (by simp [hy])⟩ (fun q hq hqk=>?_)
   injection hq with hq
   subst hq
   rcases Int.lt_or_le t a.time with hlt | hle
   ·exact hlt
   ·have:=hb.max a (by simp) hqk hle
    have h3:=h1 e her
    rw [ahead_iff,hqk,hb.key,sless_irrefl] at h3
    rcases h3 with h3 | h3
    ·cases h3
    ·omega
  rcases List.mem_cons.1 hb.mem with he | he
  ·subst he
   have hk:seenB ts p e=true:=by
    unfold seenB
    cases p with
    | none=>rfl
    | some q =>
     simp only [Bool.or_eq_true,Bool.not_eq_true',decide_eq_false_iff_not]
     by_cases hqk:q.key=e.key
     ·right
      have hqt:=hpq q rfl (hqk.trans hb.key)
      rcases hlook with hl | hl
      ·rw [List.any_eq_true]
       exact⟨t,hl,by simp only [Bool.and_eq_true,decide_eq_true_eq]; exact⟨hb.le,hqt⟩⟩
      ·have:=hl.2 q rfl
       omega
     ·exact .inl hqk
   rw [if_pos hk]
   simp
  ·split
   ·exact List.mem_cons_of_mem _ (rec' he)
   ·exact rec' he
theorem trim1_mem {ts:List Int} {p:Option Ent} {r:List Ent} {x:Ent} (h:x∈trim1 ts p r):x∈r:=(trim1_sub ts p r).subset h
theorem trim1_same {ts:List Int} {t:Int} {r:List Ent} (hr:r.Pairwise (fun x y=>ahead x y=true)) (hl:Look ts r t):Same t r (trim1 ts none r) :=
 same_sub (fun x hx=>trim1_mem hx) (fun k e hb=>trim1_best (fun q hq=>by cases hq) hr (hl.imp id (fun h=>⟨h,fun q hq=>by cases hq⟩)) k e hb (fun q hq=>by cases hq))
theorem drop1_mem:∀ {r:List Ent} {x:Ent},r.Pairwise (fun x y=>ahead x y=true)->x∈r->x∈drop1 r\/(x.gone=true/\∀ y∈r,y.key=x.key->x.time<=y.time)
 | [],x,_,h=>by cases h
 | a :: r,x,hs,h=>by
  obtain⟨h1,h2⟩:=List.pairwise_cons.1 hs
  rw [drop1]
  rcases List.mem_cons.1 h with rfl | hx
  ·by_cases hk:(!x.gone||!lastB x r)=true
   ·rw [if_pos hk]
    exact .inl (by simp)
   ·right
    simp only [Bool.or_eq_true,Bool.not_eq_true',not_or,Bool.not_eq_false] at hk
    refine⟨hk.1,fun y hy hyk=>?_⟩
    rcases List.mem_cons.1 hy with rfl | hy
    ·exact Int.le_refl _
    ·exfalso
     have hl:=hk.2
     cases r with
     | nil=>cases hy
     | cons f fs =>
      simp only [lastB,Bool.not_eq_true',decide_eq_false_iff_not] at hl
      have hxf:=h1 f (by simp)
      have hxy:=h1 y hy
      have hfx:f.key≠x.key:=hl
      rw [ahead_iff] at hxf
      rcases hxf with hxf | hxf
      ·rcases List.mem_cons.1 hy with rfl | hy
       ·exact hfx hyk
       ·have hfy:=(List.pairwise_cons.1 h2).1 y hy
        rw [ahead_iff,hyk] at hfy
        rcases hfy with hfy | hfy
        ·have:=sless_asymm hxf
         rw [hfy] at this
         cases this
        ·exact hfx hfy.1
      ·exact hfx hxf.1.symm
  ·rcases drop1_mem h2 hx with hd | ⟨hg,hm⟩
   ·left
    split
    ·exact List.mem_cons_of_mem _ hd
    ·exact hd
   ·right
    refine⟨hg,fun y hy hyk=>?_⟩
    rcases List.mem_cons.1 hy with rfl | hy
    ·have:=h1 x hx
     rw [ahead_iff,hyk,sless_irrefl] at this
     rcases this with h | h
     ·cases h
     ·omega
    ·exact hm y hy hyk
theorem drop1_seen {t:Int} {r:List Ent} (hr:r.Pairwise (fun x y=>ahead x y=true)):Seen t r (drop1 r):=fun k e g=>by
 have hsub:∀ x∈drop1 r,x∈r:=fun x hx=>(drop1_sub r).subset hx
 constructor
 ·intro h
  rcases drop1_mem hr h.mem with hd | ⟨hg,_⟩
  ·exact⟨hd,h.key,h.le,fun y hy=>h.max y (hsub y hy)⟩
  ·rw [hg] at g; cases g
 ·intro h
  refine⟨hsub e h.mem,h.key,h.le,fun y hy hyk hyt=>?_⟩
  rcases drop1_mem hr hy with hd | ⟨_,hm⟩
  ·exact h.max y hd hyk hyt
  ·exact hm e (hsub e h.mem) (h.key.trans hyk.symm)
theorem trimR_seen {ts:List Int} {t:Int} {r:List Ent} (b:Bool) (hr:r.Pairwise (fun x y=>ahead x y=true)) (hl:Look ts r t):Seen t r (trimR r ts b):=by
 unfold trimR
 split
 ·exact (trim1_same hr hl).seen.trans (drop1_seen (hr.sublist (trim1_sub ts none r)))
 ·exact (trim1_same hr hl).seen
theorem trimR_same {ts:List Int} {t:Int} {r:List Ent} (hr:r.Pairwise (fun x y=>ahead x y=true)) (hl:Look ts r t):Same t r (trimR r ts false):=by
 unfold trimR
 rw [if_neg (by decide)]
 exact trim1_same hr hl
end Go.Proofs.YtdncpcghiooeoaaGreatDoor.B

namespace Go.Proofs.YtdncpcghiooeoaaGreatDoor.B
open Go.RowKit
set_option linter.unusedVariables false
set_option linter.unusedSimpArgs false
structure LvOk (keep:Int) (i:Nat) (l:List Ent) (v:Sv):Prop where
 run:runOk l=true
 len:l.length<=sizeL i
 sv:sieveO (keysR l) keep=some v
theorem runOk_sub {r l:List Ent} (h:runOk r=true) (hs:l.Sublist r):runOk l=true:=by
 obtain⟨h1,h2,h3⟩:=runOk_pair h
 exact runOk_of (h1.sublist hs) (fun e he=>h2 e (hs.subset he)) (Nat.le_trans hs.length_le h3)
theorem setR_some {s x:Sr} {i:Nat} {r:List Ent} (h:setR s i r=some x):∃ v,x={ s with lev:=s.lev.set i r,sv:=s.sv.set i v }/\sieveO (keysR r) s.keep=some v/\r.length<=sizeL i:=by
 unfold setR at h
 split at h
 ·cases h
 ·rename_i v hv
  split at h
  ·rename_i hl
   injection h with h
   exact⟨v,h.symm,hv,hl⟩
  ·cases h
theorem Newer.sub {a b a' b':List Ent} (h:Newer a b) (ha:∀ x∈a',x∈a) (hb:∀ x∈b',x∈b):Newer a' b':=fun x hx y hy=>h x (ha x hx) y (hb y hy)
theorem Newer.app {a b c:List Ent} (h:Newer a b) (k:Newer a c):Newer a (b++c):=fun x hx y hy=>(List.mem_append.1 hy).elim (h x hx y) (k x hx y)
theorem Newer.app_left {a b c:List Ent} (h:Newer a c) (k:Newer b c):Newer (a++b) c:=fun x hx y hy=>(List.mem_append.1 hx).elim (fun h'=>h x h' y hy) (fun h'=>k x h' y hy)
theorem fine_of {a b:List Ent} (ha:runOk a=true) (hb:runOk b=true) (hn:Newer a b) (hl:a.length+b.length<=40):Fine a b:=⟨ha,hb,hn,hl⟩
theorem joinL_iff (a b:List Ent) (x:Ent):x∈joinL a b↔x∈a++b:=(joinL_perm b a).mem_iff
theorem join_trim {ts:List Int} {t:Int} {a b:List Ent} (bot:Bool) (h:Fine a b) (hl:Look ts (a++b) t):runOk (trimR (joinL a b) ts bot)=true/\(∀ x∈trimR (joinL a b) ts bot,x∈a++b)/\Seen t (a++b) (trimR (joinL a b) ts bot)/\(bot=false->Same t (a++b) (trimR (joinL a b) ts bot)):=by
 have hr:=h.run
 have hp:=(runOk_pair hr).1
 have hl':Look ts (joinL a b) t:=hl.imp id (fun g x hx=>g x ((joinL_iff a b x).1 hx))
 have hs:Same t (a++b) (joinL a b):=same_mem (fun x=>(joinL_iff a b x).symm)
 refine⟨runOk_sub hr (trimR_sub _ _ _),fun x hx=>(joinL_iff a b x).1 ((trimR_sub _ _ _).subset hx),hs.seen.trans (trimR_seen bot hp hl'),fun hb=>?_⟩
 subst hb
 exact hs.trans (trimR_same hp hl')
theorem Look.sub {ts:List Int} {t:Int} {r r':List Ent} (h:Look ts r t) (hs:∀ x∈r',x∈r):Look ts r' t:=h.imp id (fun g x hx=>g x (hs x hx))
section
variable {s x:Sr} {a b c r:List Ent} {u v w:Sv}
theorem into0 (hl:s.lev=[a,b,c]) (hs:s.sv=[u,v,w]) (hf:Fine r c) (hx:intoR 0 s r=some x) :
  ∃ c' w',x={ s with lev:=[a,b,c'],sv:=[u,v,w'] }/\LvOk s.keep 2 c' w'/\(∀ y∈c',y∈r++c)/\∀ t,Look s.tms (r++c) t->Seen t (r++c) c':=by
 rw [intoR,hl] at hx
 obtain⟨w',rfl,h2,h3⟩:=setR_some hx
 have hj:=fun t=>join_trim (ts:=s.tms) (t:=t) true hf
 refine⟨_,w',by rw [hl,hs]; rfl,⟨?_,h3,h2⟩,?_,fun t ht=>(hj t ht).2.2.1⟩
 ·exact runOk_sub hf.run (trimR_sub _ _ _)
 ·exact fun y hy=>(joinL_iff _ _ _).1 ((trimR_sub _ _ _).subset hy)
theorem into1 (hl:s.lev=[a,b,c]) (hs:s.sv=[u,v,w]) (hf:Fine r b) (hf2:Fine b c) (hrc:Newer r c) (hc:LvOk s.keep 2 c w) (hx:intoR 1 s r=some x) :
  ∃ b' c' v' w',x={ s with lev:=[a,b',c'],sv:=[u,v',w'] }/\LvOk s.keep 1 b' v'/\LvOk s.keep 2 c' w'/\Newer b' c'/\(∀ y∈b',y∈r++b)/\(∀ y∈b'++c',y∈r++(b++c))/\∀ t,Look s.tms (r++(b++c)) t->Seen t (r++(b++c)) (b'++c'):=by
 have hj:=fun t=>join_trim (ts:=s.tms) (t:=t) false hf
 have hsub:∀ y∈trimR (joinL r b) s.tms false,y∈r++b:=fun y hy=>(joinL_iff _ _ _).1 ((trimR_sub _ _ _).subset hy)
 have hrbc:Newer (r++b) c:=hrc.app_left hf2.new
 rw [intoR,hl] at hx
 simp only [List.getD_cons_succ,List.getD_cons_zero] at hx
 cases h1:setR s 1 (trimR (joinL r b) s.tms false) with
 | some z =>
  have hx:some z=some x:=by
   rw [<- hx,show (1-0:Nat)=1 from rfl]
   simp only [List.getD_cons_succ,List.getD_cons_zero,h1]
  injection hx with hx
  subst hx
  obtain⟨v',rfl,h2,h3⟩:=setR_some h1
  refine⟨trimR (joinL r b) s.tms false,c,v',w,by rw [hl,hs]; rfl,⟨runOk_sub hf.run (trimR_sub _ _ _),h3,h2⟩,hc,hrbc.sub hsub (fun _ h=>h),hsub,fun y hy=>?_,fun t ht=>?_⟩
  ·rcases List.mem_append.1 hy with h | h
   ·rw [<- List.append_assoc]
    exact List.mem_append_left _ (hsub y h)
   ·simp [h]
  ·have ht':Look s.tms (r++b) t:=ht.sub (fun y hy=>by rw [<- List.append_assoc]; exact List.mem_append_left _ hy)
   rw [<- List.append_assoc]
   exact (((hj t ht').2.2.2 rfl).right hrbc (hrbc.sub hsub (fun _ h=>h))).seen
 | none =>
  have hx:(match intoR 0 s b with | none=>none | some x=>setR x 1 (trimR r x.tms false))=some x:=by
   rw [<- hx,show (1-0:Nat)=1 from rfl]
   simp only [List.getD_cons_succ,List.getD_cons_zero,h1]
   rfl
  cases h0:intoR 0 s b with
  | none=>rw [h0] at hx; cases hx
  | some z =>
   rw [h0] at hx
   obtain⟨c',w',rfl,k1,k2,k3⟩:=into0 hl hs hf2 h0
   simp only at hx
   obtain⟨v',rfl,h2,h3⟩:=setR_some hx
   have hsubr:∀ y∈trimR r s.tms false,y∈r:=fun y hy=>(trimR_sub _ _ _).subset hy
   have hrn:Newer r (b++c):=Newer.app hf.new hrc
   have hn':Newer r c':=hrn.sub (fun _ h=>h) k2
   refine⟨trimR r s.tms false,c',v',w',by rfl,⟨runOk_sub hf.ra (trimR_sub _ _ _),h3,h2⟩,k1,hn'.sub hsubr (fun _ h=>h),fun y hy=>List.mem_append_left _ (hsubr y hy),fun y hy=>?_,fun t ht=>?_⟩
   ·rcases List.mem_append.1 hy with h | h
    ·exact List.mem_append_left _ (hsubr y h)
    ·exact List.mem_append_right _ (k2 y h)
   ·have t1:Look s.tms r t:=ht.sub (fun y hy=>List.mem_append_left _ hy)
    have t2:Look s.tms (b++c) t:=ht.sub (fun y hy=>List.mem_append_right _ hy)
    have e1:Seen t (r++(b++c)) (r++c'):=Seen.left hrn hn' (k3 t t2)
    have e2:Same t (r++c') (trimR r s.tms false++c'):=Same.right hn' (hn'.sub hsubr (fun _ h=>h)) (trimR_same (runOk_pair hf.ra).1 t1)
    exact e1.trans e2.seen
theorem into2 (hl:s.lev=[a,b,c]) (hs:s.sv=[u,v,w]) (hf:Fine r a) (hf1:Fine a b) (hf2:Fine b c) (hrb:Newer r b) (hrc:Newer r c) (hac:Newer a c) (hb:LvOk s.keep 1 b v) (hc:LvOk s.keep 2 c w) (hx:intoR 2 s r=some x) :
  ∃ a' b' c' u' v' w',x={ s with lev:=[a',b',c'],sv:=[u',v',w'] }/\LvOk s.keep 0 a' u'/\LvOk s.keep 1 b' v'/\LvOk s.keep 2 c' w'/\Newer a' (b'++c')/\Newer b' c'/\(∀ y∈a'++(b'++c'),y∈r++(a++(b++c)))/\∀ t,Look s.tms (r++(a++(b++c))) t->Seen t (r++(a++(b++c))) (a'++(b'++c')):=by
 have hj:=fun t=>join_trim (ts:=s.tms) (t:=t) false hf
 have hsub:∀ y∈trimR (joinL r a) s.tms false,y∈r++a:=fun y hy=>(joinL_iff _ _ _).1 ((trimR_sub _ _ _).subset hy)
 have hbc:Newer b c:=hf2.new
 have hra:Newer (r++a) (b++c):=(Newer.app hrb hrc).app_left (Newer.app hf1.new hac)
 rw [intoR,hl] at hx
 cases h1:setR s 0 (trimR (joinL r a) s.tms false) with
 | some z =>
  have hx:some z=some x:=by
   rw [<- hx,show (1-1:Nat)=0 from rfl]
   simp only [List.getD_cons_zero,h1]
  injection hx with hx
  subst hx
  obtain⟨u',rfl,h2,h3⟩:=setR_some h1
  refine⟨trimR (joinL r a) s.tms false,b,c,u',v,w,by rw [hl,hs]; rfl,⟨runOk_sub hf.run (trimR_sub _ _ _),h3,h2⟩,hb,hc,hra.sub hsub (fun _ h=>h),hbc,fun y hy=>?_,fun t ht=>?_⟩
  ·rcases List.mem_append.1 hy with h | h
   ·rw [<- List.append_assoc]
    exact List.mem_append_left _ (hsub y h)
   ·exact List.mem_append_right _ (List.mem_append_right _ h)
  ·have ht':Look s.tms (r++a) t:=ht.sub (fun y hy=>by rw [<- List.append_assoc]; exact List.mem_append_left _ hy)
   rw [<- List.append_assoc]
   exact (((hj t ht').2.2.2 rfl).right hra (hra.sub hsub (fun _ h=>h))).seen
 | none =>
  have hx:(match intoR 1 s a with | none=>none | some x=>setR x 0 (trimR r x.tms false))=some x:=by
   rw [<- hx,show (1-1:Nat)=0 from rfl]
   simp only [List.getD_cons_zero,h1]
   rfl
  cases h0:intoR 1 s a with
  | none=>rw [h0] at hx; cases hx
  | some z =>
   rw [h0] at hx
   obtain⟨b',c',v',w',rfl,k1,k2,k3,-,k4,k5⟩:=into1 hl hs hf1 hf2 hac hc h0
   simp only at hx
   obtain⟨u',rfl,h2,h3⟩:=setR_some hx
   have hsubr:∀ y∈trimR r s.tms false,y∈r:=fun y hy=>(trimR_sub _ _ _).subset hy
   have hrn:Newer r (a++(b++c)):=Newer.app hf.new (Newer.app hrb hrc)
   have hn':Newer r (b'++c'):=hrn.sub (fun _ h=>h) k4
   refine⟨trimR r s.tms false,b',c',u',v',w',by rfl,⟨runOk_sub hf.ra (trimR_sub _ _ _),h3,h2⟩,k1,k2,hn'.sub hsubr (fun _ h=>h),k3,fun y hy=>?_,fun t ht=>?_⟩
   ·rcases List.mem_append.1 hy with h | h
    ·exact List.mem_append_left _ (hsubr y h)
    ·exact List.mem_append_right _ (k4 y h)
   ·have t1:Look s.tms r t:=ht.sub (fun y hy=>List.mem_append_left _ hy)
    have t2:Look s.tms (a++(b++c)) t:=ht.sub (fun y hy=>List.mem_append_right _ hy)
    have e1:Seen t (r++(a++(b++c))) (r++(b'++c')):=Seen.left hrn hn' (k5 t t2)
    have e2:Same t (r++(b'++c')) (trimR r s.tms false++(b'++c')):=Same.right hn' (hn'.sub hsubr (fun _ h=>h)) (trimR_same (runOk_pair hf.ra).1 t1)
    exact e1.trans e2.seen
end
end Go.Proofs.YtdncpcghiooeoaaGreatDoor.B

namespace Go.Proofs.YtdncpcghiooeoaaGreatDoor.B
open Go.RowKit
set_option linter.unusedVariables false
set_option linter.unusedSimpArgs false
def entsR (s:Sr):List Ent:=s.top++s.lev.flatten
structure V (s:Sr) (a b c:List Ent) (u v w:Sv):Prop where
 lev:s.lev=[a,b,c]
 sv:s.sv=[u,v,w]
 keep:0<=s.keep/\s.keep<=5
 time:0<=s.time/\s.time<=999
 tms:timesR s.tms s.time=true
 top:runOk s.top=true
 top4:s.top.length<=4
 la:LvOk s.keep 0 a u
 lb:LvOk s.keep 1 b v
 lc:LvOk s.keep 2 c w
 ta:Newer s.top (a++(b++c))
 ab:Newer a (b++c)
 bc:Newer b c
 late:∀ e∈s.top++(a++(b++c)),e.time<=s.time
def Val (s:Sr):Prop:=∃ a b c u v w,V s a b c u v w
theorem entsR_of {s:Sr} {a b c:List Ent} (h:s.lev=[a,b,c]):entsR s=s.top++(a++(b++c)):=by
 unfold entsR
 rw [h]
 simp
section
variable {s x:Sr} {a b c:List Ent} {u v w:Sv}
theorem V.ok (h:V s a b c u v w):storeOk s=true:=by
 rw [<- storeI_eq]
 obtain⟨lev,sv,keep,time,tms,top,top4,la,lb,lc,ta,ab,bc,late⟩:=h
 have hl:∀ (up:List Ent),(∀ e∈up,e∈s.top++(a++(b++c)))->lateI s.time up=false:=fun up hu=>(lateI_iff _ _).2 (fun e he=>late e (hu e he))
 simp only [storeI,headI,okI,aboveI,lev,sv,List.getD_cons_zero,List.getD_cons_succ,List.take_zero,List.take_succ_cons,List.flatten_nil,List.flatten_cons,List.append_nil,List.length_cons,List.length_nil,Bool.and_eq_true,decide_eq_true_eq,Bool.not_eq_true']
 refine⟨⟨⟨⟨⟨⟨⟨⟨trivial,trivial⟩,top⟩,top4⟩,time⟩,tms⟩,⟨⟨⟨la.run,la.len⟩,la.sv⟩,?_⟩,?_⟩,⟨⟨⟨lb.run,lb.len⟩,lb.sv⟩,?_⟩,?_⟩,⟨⟨⟨lc.run,lc.len⟩,lc.sv⟩,?_⟩,?_⟩
 ·exact (newerI_iff _ _).2 (fun x hx y hy=>ta x hx y (by simp [hy]))
 ·exact hl _ (fun e he=>by simp [he])
 ·refine (newerI_iff _ _).2 (fun x hx y hy=>?_)
  rcases List.mem_append.1 hx with h | h
  ·exact ta x h y (by simp [hy])
  ·exact ab x h y (by simp [hy])
 ·exact hl _ (fun e he=>by rcases List.mem_append.1 he with h | h<;>simp [h])
 ·refine (newerI_iff _ _).2 (fun x hx y hy=>?_)
  rcases List.mem_append.1 hx with h | h
  ·exact ta x h y (by simp [hy])
  ·rcases List.mem_append.1 h with h | h
   ·exact ab x h y (by simp [hy])
   ·exact bc x h y hy
 ·refine hl _ (fun e he=>?_)
  rcases List.mem_append.1 he with h | h
  ·simp [h]
  ·rcases List.mem_append.1 h with h | h<;>simp [h]
theorem V.of (h:storeOk s=true) (hl:∀ e∈entsR s,e.time<=s.time):Val s:=by
 obtain⟨hh,k0,k1,k2⟩:=storeOk_ok h
 obtain⟨a1,a2,a3,a4,a5,a6⟩:=headI_parts hh
 have hk:=storeOk_keep h
 obtain⟨top,lev,sv,keep,time,tms⟩:=s
 match lev,a1 with
 | [a,b,c],_ =>
 match sv,a2 with
 | [u,v,w],_ =>
 obtain⟨b1,b2,b3,b4⟩:=okI_parts k0
 obtain⟨c1,c2,c3,c4⟩:=okI_parts k1
 obtain⟨d1,d2,d3,d4⟩:=okI_parts k2
 have sieve:∀ {n:Nat} {s:Sr},okI s n=true->sieveO (keysR (s.lev.getD n [])) s.keep=some (s.sv.getD n default):=fun h=>by
  simp only [okI,Bool.and_eq_true,decide_eq_true_eq,Bool.not_eq_true'] at h
  exact h.1.1.2
 have e1:=sieve k0
 have e2:=sieve k1
 have e3:=sieve k2
 simp only [aboveI,List.getD_cons_zero,List.getD_cons_succ,List.take_zero,List.take_succ_cons,List.flatten_nil,List.flatten_cons,List.append_nil] at b1 b2 b3 b4 c1 c2 c3 c4 d1 d2 d3 d4 e1 e2 e3
 rw [entsR_of rfl] at hl
 refine⟨a,b,c,u,v,w,rfl,rfl,hk,a5,a6,a3,a4,⟨b1,b2,e1⟩,⟨c1,c2,e2⟩,⟨d1,d2,e3⟩,?_,?_,?_,hl⟩
 ·intro x hx y hy
  rcases List.mem_append.1 hy with h | h
  ·exact b3 x hx y h
  ·rcases List.mem_append.1 h with h | h
   ·exact c3 x (by simp [hx]) y h
   ·exact d3 x (by simp [hx]) y h
 ·intro x hx y hy
  rcases List.mem_append.1 hy with h | h
  ·exact c3 x (by simp [hx]) y h
  ·exact d3 x (by simp [hx]) y h
 ·intro x hx y hy
  exact d3 x (by simp [hx]) y hy
theorem V.fine (h:V s a b c u v w):Fine s.top a/\Fine a b/\Fine b c:=by
 have:=store_fine h.ok
 rw [h.lev] at this
 exact this
def Found (s x:Sr):Prop:=∀ t,(t∈s.tms\/t=s.time)->Seen t (entsR s) (entsR x)
theorem V.look (h:V s a b c u v w) {t:Int} (ht:t∈s.tms\/t=s.time) {l:List Ent} (hl:∀ x∈l,x∈s.top++(a++(b++c))):Look s.tms l t :=
 ht.imp id (fun e x hx=>by rw [e]; exact h.late x (hl x hx))
theorem down_V (h:V s a b c u v w) (hx:downR s=some x):Val x/\x.top=[]/\x.time=s.time/\x.keep=s.keep/\x.tms=s.tms/\(∀ e∈entsR x,e∈entsR s)/\Found s x:=by
 obtain⟨f0,f1,f2⟩:=h.fine
 have hx':intoR 2 { s with top:=[] } s.top=some x:=hx
 have tb:Newer s.top b:=h.ta.sub (fun _ h=>h) (fun y hy=>by simp [hy])
 have tc:Newer s.top c:=h.ta.sub (fun _ h=>h) (fun y hy=>by simp [hy])
 have ac:Newer a c:=h.ab.sub (fun _ h=>h) (fun y hy=>by simp [hy])
 obtain⟨a',b',c',u',v',w',rfl,k1,k2,k3,k4,k5,k6,k7⟩:=into2 (s:={ s with top:=[] }) h.lev h.sv f0 f1 f2 tb tc ac h.lb h.lc hx'
 have hen:entsR { s with top:=[],lev:=[a',b',c'],sv:=[u',v',w'] }=a'++(b'++c'):=by
  rw [entsR_of rfl]
  rfl
 have hes:=entsR_of h.lev
 refine⟨⟨a',b',c',u',v',w',rfl,rfl,h.keep,h.time,h.tms,runOk_nil,Nat.zero_le _,k1,k2,k3,fun x hx=>(by cases hx),k4,k5,fun e he=>h.late e (k6 e (by simpa using he))⟩,rfl,rfl,rfl,rfl,fun e he=>?_,fun t ht=>?_⟩
 ·rw [hen] at he
  rw [hes]
  exact k6 e he
 ·rw [hen,hes]
  exact k7 t (h.look ht (fun _ h=>h))
theorem hold_V (h:V s a b c u v w) (hx:holdR s=some x):V x a b c u v w/\x.top=s.top/\x.lev=s.lev/\x.time=s.time/\x.keep=s.keep/\(x.tms=s.tms\/x.tms=s.tms++[s.time])/\s.time∈x.tms:=by
 have ho:=h.ok
 rw [<- holdI_eq ho] at hx
 have hx2:=hx
 rw [holdI_eq ho] at hx2
 unfold holdI at hx
 by_cases hm:s.time∈s.tms
 ·rw [if_pos hm] at hx
  injection hx with hx
  subst hx
  exact⟨h,rfl,rfl,rfl,rfl,.inl rfl,hm⟩
 ·rw [if_neg hm] at hx
  split at hx
  ·injection hx with hx
   subst hx
   have hg:¬s.tms.getLast?=some s.time:=fun e=>hm (List.mem_of_getLast? e)
   have ht:timesR (s.tms++[s.time]) s.time=true:=by
    cases hc:timesR (s.tms++[s.time]) s.time with
    | true=>rfl
    | false =>
     unfold holdR at hx2
     rw [if_pos ho,if_neg hg] at hx2
     simp only at hx2
     rw [hc,if_neg (by decide)] at hx2
     cases hx2
   exact⟨⟨h.lev,h.sv,h.keep,h.time,ht,h.top,h.top4,h.la,h.lb,h.lc,h.ta,h.ab,h.bc,h.late⟩,rfl,rfl,rfl,rfl,.inr rfl,by simp⟩
  ·cases hx
theorem free_V {n:Int} (h:V s a b c u v w) (hx:freeR s n=some x):V x a b c u v w/\x.top=s.top/\x.lev=s.lev/\x.time=s.time/\x.keep=s.keep/\x.tms=s.tms.filter (fun y=>!decide (y=n)):=by
 unfold freeR at hx
 rw [if_pos h.ok] at hx
 simp only at hx
 split at hx
 ·cases hx
 ·injection hx with hx
  subst hx
  have ht:timesR (s.tms.filter (fun y=>!decide (y=n))) s.time=true:=by
   have:=h.tms
   simp only [timesR,Bool.and_eq_true,decide_eq_true_eq] at this ⊢
   rw [asc1_iff] at this ⊢
   refine⟨⟨fun t ht=>?_,this.1.2.sublist List.filter_sublist⟩,Nat.le_trans (List.length_filter_le _ _) this.2⟩
   exact this.1.1 t (List.mem_filter.1 ht).1
  exact⟨⟨h.lev,h.sv,h.keep,h.time,ht,h.top,h.top4,h.la,h.lb,h.lc,h.ta,h.ab,h.bc,h.late⟩,rfl,rfl,rfl,rfl,rfl⟩
theorem join_V {l:Int} (h:V s a b c u v w) (hx:joinR s l=some x):Val x/\x.top=s.top/\x.time=s.time/\x.keep=s.keep/\x.tms=s.tms/\(∀ e∈entsR x,e∈entsR s)/\Found s x:=by
 obtain⟨f0,f1,f2⟩:=h.fine
 have hes:=entsR_of h.lev
 unfold joinR at hx
 split at hx
 case isFalse=>cases hx
 rename_i hl
 obtain⟨i,hi,rfl⟩:∃ i:Nat,i<=1/\l=i:=⟨l.toNat,by omega,by omega⟩
 rw [show ((i:Nat):Int).toNat=i by omega] at hx
 obtain⟨x0,hx0⟩:=setR_nil h.keep i
 have hset:=hx0 s rfl
 obtain⟨v0,he,hv0,-⟩:=setR_some hset
 have hxv:x0=v0:=by
  have:=congrArg Sr.sv he
  simp only at this
  have h1:(s.sv.set i x0)[i]?=(s.sv.set i v0)[i]?:=congrArg (fun q=>q[i]?) this
  rw [List.getElem?_set_self (by rw [h.sv]; simp; omega),List.getElem?_set_self (by rw [h.sv]; simp; omega)] at h1
  exact Option.some.inj h1
 rw [hset] at hx
 simp only at hx
 have tb:Newer s.top b:=h.ta.sub (fun _ h=>h) (fun y hy=>by simp [hy])
 have tc:Newer s.top c:=h.ta.sub (fun _ h=>h) (fun y hy=>by simp [hy])
 have ta:Newer s.top a:=h.ta.sub (fun _ h=>h) (fun y hy=>by simp [hy])
 have ac:Newer a c:=h.ab.sub (fun _ h=>h) (fun y hy=>by simp [hy])
 have nil0:LvOk s.keep i [] x0:=⟨runOk_nil,Nat.zero_le _,by rw [hxv]; exact hv0⟩
 have hcase:i=0\/i=1:=by omega
 rcases hcase with rfl | rfl
 ·rw [h.lev,h.sv] at hx
  obtain⟨b',c',v',w',rfl,k2,k3,k5,-,k6,k7⟩:=into1 (s:={ s with lev:=[[],b,c],sv:=[x0,v,w] }) rfl rfl f1 f2 ac h.lc hx
  have hsub:∀ y∈b'++c',y∈a++(b++c):=k6
  have hen:entsR { s with lev:=[[],b',c'],sv:=[x0,v',w'] }=s.top++(b'++c'):=by
   rw [entsR_of rfl]
   rfl
  refine⟨⟨[],b',c',x0,v',w',rfl,rfl,h.keep,h.time,h.tms,h.top,h.top4,nil0,k2,k3,h.ta.sub (fun _ h=>h) (fun y hy=>hsub y hy),fun x hx=>(by cases hx),k5,fun e he=>h.late e ?_⟩,rfl,rfl,rfl,rfl,fun e he=>?_,fun t ht=>?_⟩
  ·rcases List.mem_append.1 he with g | g
   ·exact List.mem_append_left _ g
   ·exact List.mem_append_right _ (hsub e g)
  ·rw [hen] at he
   rw [hes]
   rcases List.mem_append.1 he with g | g
   ·exact List.mem_append_left _ g
   ·exact List.mem_append_right _ (hsub e g)
  ·rw [hen,hes]
   exact Seen.left h.ta (h.ta.sub (fun _ h=>h) hsub) (k7 t (h.look ht (fun y hy=>List.mem_append_right _ hy)))
 ·rw [h.lev,h.sv] at hx
  obtain⟨c',w',rfl,k3,k6,k7⟩:=into0 (s:={ s with lev:=[a,[],c],sv:=[u,x0,w] }) rfl rfl f2 hx
  have hsub:∀ y∈c',y∈b++c:=k6
  have hsub2:∀ y∈a++c',y∈a++(b++c):=fun y hy=>by
   rcases List.mem_append.1 hy with g | g
   ·exact List.mem_append_left _ g
   ·exact List.mem_append_right _ (hsub y g)
  have hen:entsR { s with lev:=[a,[],c'],sv:=[u,x0,w'] }=s.top++(a++c'):=by
   rw [entsR_of rfl]
   rfl
  refine⟨⟨a,[],c',u,x0,w',rfl,rfl,h.keep,h.time,h.tms,h.top,h.top4,h.la,nil0,k3,h.ta.sub (fun _ h=>h) hsub2,h.ab.sub (fun _ h=>h) hsub,fun x hx=>(by cases hx),fun e he=>h.late e ?_⟩,rfl,rfl,rfl,rfl,fun e he=>?_,fun t ht=>?_⟩
  ·rcases List.mem_append.1 he with g | g
   ·exact List.mem_append_left _ g
   ·exact List.mem_append_right _ (hsub2 e g)
  ·rw [hen] at he
   rw [hes]
   rcases List.mem_append.1 he with g | g
   ·exact List.mem_append_left _ g
   ·exact List.mem_append_right _ (hsub2 e g)
  ·rw [hen,hes]
   have e1:Seen t (a++(b++c)) (a++c'):=Seen.left h.ab (h.ab.sub (fun _ h=>h) hsub) (k7 t (h.look ht (fun y hy=>List.mem_append_right _ (List.mem_append_right _ hy))))
   exact Seen.left h.ta (h.ta.sub (fun _ h=>h) hsub2) e1
theorem timesR_mono {ts:List Int} {n m:Int} (h:timesR ts n=true) (hnm:n<=m):timesR ts m=true:=by
 simp only [timesR,Bool.and_eq_true,decide_eq_true_eq] at h ⊢
 rw [asc1_iff] at h ⊢
 refine⟨⟨fun t ht=>?_,h.1.2⟩,h.2⟩
 obtain⟨h1,h2,h3⟩:=h.1.1 t ht
 exact⟨h1,by omega,h3⟩
theorem add_V {e:Ent} (h:V s a b c u v w) (he:e.time=s.time+1) (hx:addR s e=some x):Val x/\x.time=s.time+1/\x.keep=s.keep/\x.tms=s.tms/\entOk e=true/\∃ y,Found s y/\(∀ z∈entsR y,z∈entsR s)/\∀ z,z∈entsR x↔z=e\/z∈entsR y:=by
 unfold addR at hx
 split at hx
 case isFalse=>cases hx
 rename_i hc
 simp only [Bool.and_eq_true] at hc
 have hek:=hc.2
 have key:∀ {y:Sr},Val y->y.top.length<=3->y.time=s.time->y.keep=s.keep->y.tms=s.tms->(∀ z∈entsR y,z∈entsR s)->Found s y->x={ y with top:=joinL [e] y.top,time:=e.time } ->
   Val x/\x.time=s.time+1/\x.keep=s.keep/\x.tms=s.tms/\entOk e=true/\∃ y,Found s y/\(∀ z∈entsR y,z∈entsR s)/\∀ z,z∈entsR x↔z=e\/z∈entsR y:=by
  rintro y ⟨a',b',c',u',v',w',hy⟩ h3 ht hkp htm hsub hfd rfl
  have hty:=entOk_time hek
  have hnew:Newer [e] (y.top++(a'++(b'++c'))):=fun p hp q hq _=>by
   rw [List.mem_singleton.1 hp]
   have:=hy.late q hq
   omega
  have hf:Fine [e] y.top:=fine_of (runOk_one hek) hy.top (hnew.sub (fun _ h=>h) (fun q hq=>by simp [hq])) (by simp; omega)
  have hmem:∀ z,z∈joinL [e] y.top↔z=e\/z∈y.top:=fun z=>by rw [joinL_iff]; simp
  have hey:=entsR_of hy.lev
  have hex:entsR { y with top:=joinL [e] y.top,time:=e.time }=joinL [e] y.top++(a'++(b'++c')):=entsR_of hy.lev
  refine⟨⟨a',b',c',u',v',w',hy.lev,hy.sv,hy.keep,⟨by simp only; omega,hty.2⟩,timesR_mono hy.tms (by simp only; omega),hf.run,?_,hy.la,hy.lb,hy.lc,?_,hy.ab,hy.bc,?_⟩,he,hkp,htm,hek,y,hfd,hsub,fun z=>?_⟩
  ·simp only
   rw [(joinL_perm y.top [e]).length_eq]
   simp
   omega
  ·intro p hp q hq hpq
   rcases (hmem p).1 hp with rfl | hp
   ·exact hnew p (by simp) q (List.mem_append_right _ hq) hpq
   ·exact hy.ta p hp q hq hpq
  ·intro z hz
   simp only
   rcases List.mem_append.1 hz with g | g
   ·rcases (hmem z).1 g with rfl | g
    ·exact Int.le_refl _
    ·have:=hy.late z (List.mem_append_left _ g)
     omega
   ·have:=hy.late z (List.mem_append_right _ g)
    omega
  ·rw [hex,hey]
   simp only [List.mem_append,hmem]
   exact or_assoc
 by_cases h4:4<=s.top.length
 ·rw [if_pos h4] at hx
  cases hd:downR s with
  | none=>rw [hd] at hx; cases hx
  | some y =>
   rw [hd] at hx
   injection hx with hx
   obtain⟨k1,k2,k3,k4,k5,k6,k7⟩:=down_V h hd
   exact key k1 (by rw [k2]; simp) k3 k4 k5 k6 k7 hx.symm
 ·rw [if_neg h4] at hx
  injection hx with hx
  exact key ⟨a,b,c,u,v,w,h⟩ (by omega) rfl rfl rfl (fun _ h=>h) (fun t _=>(Same.refl t _).seen) hx.symm
theorem do_V {d:Dd} (h:V s a b c u v w) (hx:doR s d=some x):Val x:=by
 unfold doR at hx
 split at hx
 ·exact (add_V h rfl hx).1
 split at hx
 ·exact (add_V h rfl hx).1
 split at hx
 ·exact⟨a,b,c,u,v,w,(hold_V h hx).1⟩
 split at hx
 ·exact⟨a,b,c,u,v,w,(free_V h hx).1⟩
 split at hx
 ·unfold letR at hx
  rw [if_pos h.ok] at hx
  exact (down_V h hx).1
 split at hx
 ·exact (join_V h hx).1
 ·cases hx
theorem doAll_V:∀ (ds:List Dd) {s:Sr},Val s->Val (doAll s ds)
 | [],s,h=>h
 | d :: ds,s,h=>by
  have e:doAll s (d :: ds)=doAll ((doR s d).getD s) ds:=rfl
  rw [e]
  refine doAll_V ds ?_
  cases hd:doR s d with
  | none=>exact h
  | some x =>
   obtain⟨a,b,c,u,v,w,hv⟩:=h
   exact do_V hv hd
theorem sieveR_nil (k:Int):sieveR [] k=⟨⟨#[]⟩,⟨#[]⟩,⟨#[]⟩,[],k⟩:=by
 have h:brs 0 []=[]:=by rw [brs]
 unfold sieveR
 rw [show (500:Nat)=499+1 from rfl,bfs,h]
 show bfs 499 ([]++subs 0 []) _=_
 rw [show ([]++subs 0 []:List Fk)=[] from rfl]
 rfl
theorem newR_V {k:Int} (h:newR k=some s):Val s:=by
 unfold newR at h
 split at h
 ·rename_i hk
  injection h with h
  subst h
  have hn:∀ i,LvOk k i [] ⟨⟨#[]⟩,⟨#[]⟩,⟨#[]⟩,[],k⟩:=fun i=>⟨runOk_nil,Nat.zero_le _,by
   rw [sieveO,if_pos ⟨by decide,hk⟩]
   exact congrArg some (sieveR_nil k)⟩
  exact⟨[],[],[],_,_,_,rfl,rfl,hk,⟨Int.le_refl 0,show (0:Int)<=999 by decide⟩,show timesR [] 0=true by decide,runOk_nil,Nat.zero_le _,hn 0,hn 1,hn 2,fun x hx=>(by cases hx),fun x hx=>(by cases hx),fun x hx=>(by cases hx),fun e he=>by simp at he⟩
 ·cases h
end
end Go.Proofs.YtdncpcghiooeoaaGreatDoor.B

namespace Go.Proofs.YtdncpcghiooeoaaGreatDoor.B
open Go.RowKit Go.Proofs
set_option linter.unusedVariables false
set_option linter.unusedSimpArgs false
variable {E:Env}
theorem l71StoreM_ok (o N:Nat) (H:Hp) (hr:Rd H o N) (hN:N<34359738368) :
  AC Tryz.prog E 43 [.pt o 0 0] H (fun v H'=>∃ s,MSt H H' v s/\Small s/\storeOk s=true/\Val s/\Dr o H H'/\Rd H' o (N+400)):=by
 refine AC_by fol (tC_le tab2_ok) h_spec_l71Store ?_
 have hol:=hr.lt
 simp [c_spec_l71Store]
 refine cg_ex (pick_ok o N 5 _ (hr.le (HLe.self _ _)) (by omega) (by omega)) ?_
 rintro v H1 ⟨n,rfl,hn,hd1,hr1,hlen⟩
 have b0:=hd1.2 H.length ⟨[[.nils,.nils,.nils,.int .i64 0,.int .i64 0,.nils]],6,31,false⟩ (by omega) (by simp)
 have bl:=hd1.2 (H.length+1) ⟨[[.int .i64 0],[.int .i64 1],[.int .i64 1],[.int .i64 2],[.int .i64 5]],1,3,false⟩ (by omega) (by simp)
 have hD1:Dr o H H1:=(Fr.app (Fr.refl _ H) _).same hd1
 have hn5:n<5:=by omega
 have hnI:(n:Int)<5:=by omega
 have hrow:∃ k:Int,(0<=k/\k<=5)/\([[.int .i64 0],[.int .i64 1],[.int .i64 1],[.int .i64 2],[.int .i64 5]]:List (List AV))[n]?=some [.int .i64 k]:=by
  have:n=0\/n=1\/n=2\/n=3\/n=4:=by omega
  rcases this with rfl | rfl | rfl | rfl | rfl<;>exact⟨_,by constructor<;>decide,rfl⟩
 obtain⟨k,hk05,hk⟩:=hrow
 simp [bl,hk,hnI]
 refine cg_ex (StoreNew_ok k H1) ?_
 intro v2 H2 hret
 obtain⟨s0,hs0⟩:∃ s0,newR k=some s0:=by
  unfold newR
  rw [if_pos hk05]
  exact⟨_,rfl⟩
 have hso:storeOk s0=true:=by
  obtain⟨a,b,c,u,v,w,hv⟩:=newR_V hs0
  exact hv.ok
 rw [hs0] at hret
 obtain⟨xa,xb,xc,xk,xt,xd,rfl,o1,o2,o3,o4,o5,o6⟩:=hret.shape
 simp [o1,o2,o3,o4,o5,o6]
 have hr2:=hr1.le hret.1
 have hl2:=hret.1.1
 have hl1:=hD1.len
 have hB:=HLe.self H2 [some ⟨[[xa,xb,xc,xk,xt,xd]],6,31,false⟩]
 refine cg_ex (l71Deeds_ok o _ 30 _ (hr2.le hB) (by omega) (by omega)) ?_
 rintro dv H3 ⟨ds,hds,hdl,hdk,hd3,hr3⟩
 have esz2:∀ x ob,x=o->H2.at x=some ob->ob.esz=2\/ob.esz=6:=by
  intro x ob hx ho
  obtain⟨b,bs,p,h1,_⟩:=hr2
  rw [hx,h1] at ho
  cases ho
  exact .inl rfl
 have hmm:MSt H1 H2 (.ag [xa,xb,xc,xk,xt,xd]) s0:=by
  obtain⟨_,w,hw,hm⟩:=hret
  cases hw
  exact hm
 have hm3:=hmm.frn ((Fr.app (Fr.refl (fun x=>x=o) H2) [some ⟨[[xa,xb,xc,xk,xt,xd]],6,31,false⟩]).same hd3) esz2
 have hsm:=newR_small hs0
 have c3:=hd3.2 H2.length _ (show ¬H2.length=o by omega) (Hp.at_app_0.trans Hp.at_0)
 have b03:=hd3.2 H.length _ (show ¬H.length=o by omega) (hB.2 _ _ (hret.1.2 _ _ b0))
 simp [c3]
 refine cg_ex (PastDo_ok _ dv s0 ds H3 hm3.st hsm.stB hds.rows (fun d hd=>by have:=hdk d hd; omega)) ?_
 intro v4 H4 hret4
 have hp:pastR s0 ds=some (doAll s0 ds):=by
  unfold pastR
  rw [if_pos (by rw [hso,Bool.true_and,decide_eq_true_iff]; omega)]
 rw [hp] at hret4
 obtain⟨ya,yb,yc,yk,yt,yd,rfl,p1,p2,p3,p4,p5,p6⟩:=hret4.shape
 have c4:=hret4.1.2 _ _ c3
 have b04:=hret4.1.2 _ _ b03
 have u4:=Hp.at_lt c4
 have u04:=Hp.at_lt b04
 have hl1':=Hp.at_lt b0
 have m0:H2.length≠H.length:=by omega
 simp [p1,p2,p3,p4,p5,p6,c4,b04,Hp.at_set,Hp.at_set_ne,List.length_set,u4,u04,m0,m0.symm]
 obtain⟨W,hW⟩:∃ W:Option Ob,W=some ⟨[[ya,yb,yc,yk,yt,yd]],6,31,false⟩:=⟨_,rfl⟩
 rw [<- hW]
 have hF:=((Fr.refl (fun x=>x=H2.length\/x=H.length) H4).set (o:=H2.length) (.inl (.inl rfl)) W).set (o:=H.length) (.inl (.inr rfl)) W
 have e6:∀ x ob,(x=H2.length\/x=H.length)->H4.at x=some ob->ob.esz=2\/ob.esz=6:=by
  intro x ob hx ho
  rcases hx with h | h
  ·rw [h,c4] at ho; cases ho; exact .inr rfl
  ·rw [h,b04] at ho; cases ho; exact .inr rfl
 have hm5:MSt H3 H4 (.ag [ya,yb,yc,yk,yt,yd]) (doAll s0 ds):=by
  obtain⟨_,w,hw,hm⟩:=hret4
  cases hw
  exact hm
 have hB1:=hB.1
 have hd31:=hd3.len
 refine⟨doAll s0 ds,(hm5.frn hF e6).base (by omega),pastR_small hp,(by
  obtain⟨a,b,c,u,v,w,hv⟩:=doAll_V ds (newR_V hs0)
  exact hv.ok),doAll_V ds (newR_V hs0),((((hD1.le_fr hret.1).app _).same hd3).le_fr hret4.1).trans hF (fun x hx=>.inr (by rcases hx with h | h<;>omega)),Rd.mono ((hr3.le hret4.1).fr hF (by omega) (fun x ob hx ho=>by have:=e6 x ob hx ho; omega)) (by omega)⟩
end Go.Proofs.YtdncpcghiooeoaaGreatDoor.B

namespace Go.Proofs.YtdncpcghiooeoaaGreatDoor.B
open Go.RowKit Go.Proofs
set_option linter.unusedVariables false
set_option linter.unusedSimpArgs false
variable {E:Env}
theorem addBs_l (d:Nat):∀ (gs:List (List ByteArray)) (b:Bool) (s:Sv),(addBs d b s gs).l.size<=s.l.size+gs.length
 | [],b,s=>Nat.le_refl _
 | g :: gs,b,s=>by
  have h:=addBs_l d gs false (addB d b s g)
  have h2:(addB d b s g).l.size=s.l.size+1:=by
   simp only [addB,ByteArray.size_append]
   rfl
  simp only [addBs,List.length_cons]
  omega
theorem bfs_l:∀ (n:Nat) (q:List Fk) (s:Sv),(∀ f∈q,f.1.length<=24)->(bfs n q s).l.size<=s.l.size+n * 24
 | 0,q,s,h=>by simp [bfs]
 | n+1,[],s,h=>by simp [bfs]
 | n+1,(ks,d) :: q,s,h=>by
  have hk:ks.length<=24:=h (ks,d) (List.mem_cons_self ..)
  have h1:=bfs_l n (q++subs d (brs d ks)) (addBs d true s (brs d ks)) (fun f hf=>(List.mem_append.1 hf).elim (fun hf=>h f (List.mem_cons_of_mem _ hf)) (subs_len hk f))
  have h2:=addBs_l d (brs d ks) true s
  have h3:=(brs_sum _ d ks (Nat.le_refl _)).2
  simp only [bfs]
  omega
theorem sieveO_l {ks:List ByteArray} {keep:Int} {x:Sv} (h:sieveO ks keep=some x):x.l.size<=12000:=by
 unfold sieveO at h
 split at h
 ·rename_i hc
  cases h
  have:=bfs_l 500 [(ks,0)] ⟨⟨#[]⟩,⟨#[]⟩,⟨#[]⟩,[],keep⟩ (fun f hf=>by
   simp at hf
   subst hf
   exact (keysOk_good hc.1).2)
  have e:(⟨#[]⟩:ByteArray).size=0:=rfl
  simp only [e] at this
  unfold sieveR
  omega
 ·cases h
theorem storeOk_l0 {s:Sr} (h:storeOk s=true) (h3:0<s.sv.length):s.sv[0].l.size<=12000:=by
 simp only [storeOk,Bool.and_eq_true,decide_eq_true_eq] at h
 have h0:=h.2.1.1
 simp only [levelOk,Bool.and_eq_true,decide_eq_true_eq] at h0
 have:=sieveO_l h0.2
 rwa [getD_get _ h3] at this
theorem MSt.appT {H0 H H':Hp} {a a' d:AV} {ol os:Nat} {s:Sr} {tp:List Ent} (h:MSt H0 H (.ag [a,.sl ol 0 3,.sl os 0 3,.int .i64 s.keep,.int .i64 s.time,d]) s) (hf:Fr a.of H H') (ha:Ents H' a' tp) :
  St H' (.ag [a',.sl ol 0 3,.sl os 0 3,.int .i64 s.keep,.int .i64 s.time,d]) { s with top:=tp }:=by
 obtain⟨a2,ol2,os2,d2,lr,sr,hv,ha2,hlv,hlr,hsv,hsr,hd2,hdo2,hol,hos,hl3,hs3,hoff⟩:=h
 simp only [stAV,hl3,hs3,AV.ag.injEq,List.cons.injEq,AV.sl.injEq,and_true,true_and] at hv
 obtain⟨rfl,rfl,rfl,rfl⟩:=hv
 have n4:∀ {e:Nat},e≠4->∀ x ob,a.of x->H.at x=some ob->ob.esz≠e:=fun he x ob hx ho=>by rw [ha2.1.esz hx ho]; exact he.symm
 refine⟨a',.sl ol 0 3,.sl os 0 3,d,lr,sr,rfl,ha,?_,?_,?_,All2.mono (fun row sv h=>?_) hsr,Rows.frz hd2.ints hf (n4 (by simp))⟩
 ·rw [<- hl3]
  exact Rows.frz hlv.rows hf (n4 (by simp))
 ·have key:∀ {lr:List (List AV)} {ls:List (List Ent)},All2 (LvRow H) lr ls->(∀ y,a.of y->∀ u,[u]∈lr->¬u.of y)->All2 (LvRow H') lr ls:=by
   intro lr
   induction lr with
   | nil=>intro ls h _; cases ls with
    | nil=>trivial
    | cons=>exact h.elim
   | cons r lr ih=>intro ls h ho; cases ls with
    | nil=>exact h.elim
    | cons l ls =>
     obtain⟨⟨u,rfl,hu⟩,h2⟩:=h
     exact⟨⟨u,rfl,Rows.fr hu hf (fun y hy hs=>ho y hs u (List.mem_cons_self ..) hy)⟩,ih h2 (fun y hy w hw=>ho y hy w (List.mem_cons_of_mem _ hw))⟩
  exact key hlr hoff.1
 ·rw [<- hs3]
  exact Rows.frz hsv.rows hf (n4 (by simp))
 ·obtain⟨r,e1,e2,_⟩:=h
  exact⟨r,e1,Rows.frz e2 hf (n4 (by simp)),fun _ _ h=>h⟩
def BoxS (H:Hp) (L:Nat) (s:Sr):Prop:=∃ a b c d,H.at L=some ⟨[[a,b,c,.int .i64 s.keep,.int .i64 s.time,d]],6,31,false⟩/\one a=true/\one b=true/\one c=true/\one d=true/\St H (.ag [a,b,c,.int .i64 s.keep,.int .i64 s.time,d]) s/\StB s
structure Spl (s:Sr):Prop where
 val:storeOk s=true->Val s
 key:∀ e∈s.top++s.lev.flatten,e.key.size<=5
 sml:s.top.length<=2000/\s.lev.length<=3/\∀ l∈s.lev,l.length<=1000
theorem Small.sml {s:Sr} (h:Small s):s.top.length<=2000/\s.lev.length<=3/\∀ l∈s.lev,l.length<=1000:=by
 obtain⟨h1,h2,h3,h4,h5,h6,h7,h8,h9⟩:=h
 exact⟨by have:=h1.1; omega,by omega,fun l hl=>(h2 l hl).1⟩
theorem runOk_key {r:List Ent} (h:runOk r=true):∀ e∈r,e.key.size<=5:=by
 simp only [runOk,decide_eq_true_eq] at h
 intro e he
 obtain⟨i,hi,rfl⟩:=List.getElem_of_mem he
 have:=(h.1 i hi).1
 simp only [entOk,Bool.and_eq_true] at this
 exact keyOk_size this.1.1.1
theorem Val.key {s:Sr} (h:Val s):∀ e∈s.top++s.lev.flatten,e.key.size<=5:=by
 obtain⟨a,b,c,u,v,w,h⟩:=h
 rw [h.lev]
 intro e he
 simp only [List.flatten_cons,List.flatten_nil,List.append_nil,List.mem_append] at he
 rcases he with he | he | he | he
 ·exact runOk_key h.top e he
 ·exact runOk_key h.la.run e he
 ·exact runOk_key h.lb.run e he
 ·exact runOk_key h.lc.run e he
def SpJ (o N:Nat) (H:Hp) (L:Nat) (t:Tm) (H':Hp):Prop:=t 2=.pt H.length 0 0/\t 3=.pt L 0 0/\H'.at H.length=some ⟨[[.nils,.nils,.nils,.int .i64 0,.int .i64 0,.nils]],6,31,false⟩/\(∃ s,BoxS H' L s/\Spl s)/\Dr o H H'/\Rd H' o (N+410)
theorem BoxS.of {H:Hp} {L:Nat} {a b c d:AV} {s:Sr} {R:List (List AV)} (hb:H.at L=some ⟨R,6,31,false⟩) (hs:St H (.ag [a,b,c,.int .i64 s.keep,.int .i64 s.time,d]) s) (hB:StB s) :
  BoxS (List.set H L (some ⟨[[a,b,c,.int .i64 s.keep,.int .i64 s.time,d]],6,31,false⟩)) L s:=by
 have hs2:=hs.fr6 (Fr.one H L (some ⟨[[a,b,c,.int .i64 s.keep,.int .i64 s.time,d]],6,31,false⟩)) (fun y ob hy ho=>by rw [hy,hb] at ho; cases ho; rfl)
 obtain⟨a',b',c',d',e,n1,n2,n3,n4,_⟩:=hs.shape
 simp only [stAV,AV.ag.injEq,List.cons.injEq,and_true,true_and] at e
 obtain⟨rfl,rfl,rfl,rfl⟩:=e
 exact⟨a,b,c,d,Hp.at_set _ (Hp.at_lt hb),n1,n2,n3,n4,hs2,hB⟩
theorem SpJ.put {o N:Nat} {H K:Hp} {L:Nat} {t:Tm} {a b c d:AV} {s:Sr} {R:List (List AV)} (t2:t 2=.pt H.length 0 0) (t3:t 3=.pt L 0 0) (hb:K.at H.length=some ⟨[[.nils,.nils,.nils,.int .i64 0,.int .i64 0,.nils]],6,31,false⟩)
  (hc:K.at L=some ⟨R,6,31,false⟩) (hL:H.length<L) (ho:o<H.length) (hs:St K (.ag [a,b,c,.int .i64 s.keep,.int .i64 s.time,d]) s) (hB:StB s) (hV:Spl s) (hD:Dr o H K) {M:Nat} (hr:Rd K o M) (hM:M<=N+410) :
  SpJ o N H L t (List.set K L (some ⟨[[a,b,c,.int .i64 s.keep,.int .i64 s.time,d]],6,31,false⟩)):=by
 have F:=Fr.one K L (some ⟨[[a,b,c,.int .i64 s.keep,.int .i64 s.time,d]],6,31,false⟩)
 exact⟨t2,t3,(Hp.at_set_ne (by omega)).trans hb,⟨s,BoxS.of hc hs hB,hV⟩,hD.trans F (fun x hx=>.inr (by omega)),Rd.mono (hr.fr F (by omega) (fun x ob hx ho=>by rw [hx,hc] at ho; cases ho; simp)) hM⟩
theorem ok_head {s:Sr} (h:storeOk s=true):s.lev.length=3/\s.sv.length=3/\(0<=s.keep/\s.keep<=5)/\(0<=s.time/\s.time<=999)/\timesR s.tms s.time=true/\runOk s.top=true:=by
 simp only [storeOk,headOk,Bool.and_eq_true,decide_eq_true_eq] at h
 obtain⟨⟨⟨⟨⟨⟨h1,h2⟩,h3⟩,h4⟩,h5⟩,h6,h7⟩,h8⟩:=h
 exact⟨h1,h2,h3,h4,h5,h6⟩
theorem spoil_tms {s:Sr} (h:storeOk { s with tms:=s.tms++[s.time+1] }=true):Val { s with tms:=s.tms++[s.time+1] }:=by
 have h5:=(ok_head h).2.2.2.2.1
 simp only [timesR,Bool.and_eq_true] at h5
 have:=asc1_bnd _ _ _ h5.1 (s.time+1) (by simp)
 omega
theorem spoil_sv {s:Sr} (h0:storeOk s=true) (hl:0<s.lev.length) (hv:0<s.sv.length) (h:storeOk { s with sv:=s.sv.set 0 { (s.sv[0]'hv) with l:=(s.sv[0]'hv).l++⟨#[97]⟩ } }=true):False:=by
 have lv:∀ {q:Sr},storeOk q=true->levelOk q 0=true:=fun {q} hq=>by
  simp only [storeOk,Bool.and_eq_true,decide_eq_true_eq] at hq
  exact hq.2.1.1
 have a1:=lv h0
 have a2:=lv h
 simp only [levelOk,Bool.and_eq_true,decide_eq_true_eq] at a1 a2
 have e:=a1.2.symm.trans a2.2
 rw [getD_get default hv,getD_get default (by simpa using hv)] at e
 simp only [List.getElem_set_self,Option.some.injEq] at e
 have e2:=congrArg (fun q:Sv=>q.l.size) e
 simp only [ByteArray.size_append] at e2
 have:(⟨#[97]⟩:ByteArray).size=1:=rfl
 omega
theorem spoil_top {s:Sr} (h:storeOk { s with top:=s.top++[⟨⟨#[]⟩,0,false,0⟩] }=true):False:=by
 have h6:=(ok_head h).2.2.2.2.2
 simp only [runOk,decide_eq_true_eq] at h6
 have:=(h6.1 s.top.length (by simp)).1
 simp [entOk] at this
theorem lit2 {z:Nat} (hz:z<2):∃ k:Int,(k<0\/999<k)/\I64 k/\([[.int .i64 (-1)],[.int .i64 1000]]:List (List AV))[z]?=some [.int .i64 k]:=by
 have:z=0\/z=1:=by omega
 rcases this with rfl | rfl
 ·exact⟨-1,.inl (by decide),⟨by decide,by decide⟩,rfl⟩
 ·exact⟨1000,.inr (by decide),⟨by decide,by decide⟩,rfl⟩
set_option maxHeartbeats 1600000 in
theorem l71Spoilt_ok (o N:Nat) (H:Hp) (hr:Rd H o N) (hN:N<34359738368) :
  AC Tryz.prog E 15 [.pt o 0 0] H (fun v H'=>∃ s,St H' v s/\StB s/\Spl s/\Dr o H H'/\Rd H' o (N+410)):=by
 refine AC_by fol (tC_le tab2_ok) h_spec_l71Spoilt ?_
 have hol:=hr.lt
 obtain⟨H1,hH1⟩:∃ H1:Hp,H1=H++[some ⟨[[.nils,.nils,.nils,.int .i64 0,.int .i64 0,.nils]],6,31,false⟩]:=⟨_,rfl⟩
 have hle1:HLe H H1:=by rw [hH1]; exact HLe.self _ _
 have b1:H1.at H.length=some ⟨[[.nils,.nils,.nils,.int .i64 0,.int .i64 0,.nils]],6,31,false⟩:=by rw [hH1]; simp
 have hD1:Dr o H H1:=hle1.fr
 simp [c_spec_l71Spoilt,<- hH1]
 refine cg_ex (l71StoreM_ok o N H1 (hr.le hle1) hN) ?_
 rintro v H2 ⟨s,hm2,hsm,hok,hval,hd2,hr2⟩
 obtain⟨xa,xl,xs,xd,rfl,xn1,xn2,xdi⟩:=hm2.shape
 have b2:=hd2.2 _ _ (show ¬H.length=o by omega) b1
 obtain⟨H3,hH3⟩:∃ H3:Hp,H3=H2++[some ⟨[[xa,.sl xl 0 3,.sl xs 0 3,.int .i64 s.keep,.int .i64 s.time,xd]],6,31,false⟩]:=⟨_,rfl⟩
 have hle3:HLe H2 H3:=by rw [hH3]; exact HLe.self _ _
 have c3:H3.at H2.length=some ⟨[[xa,.sl xl 0 3,.sl xs 0 3,.int .i64 s.keep,.int .i64 s.time,xd]],6,31,false⟩:=by rw [hH3]; simp
 have b3:=hle3.2 _ _ b2
 have hr3:=hr2.le hle3
 have hm3:=(hm2.le hle3).base hle1.1
 have hD3:Dr o H H3:=(hD1.same hd2).le_fr hle3
 simp [xn1,xn2,<- hH3]
 refine cg_ex (pick_ok o _ 14 _ hr3 (by omega) (by omega)) ?_
 rintro v H4 ⟨n,rfl,hn,hd4,hr4,hlen⟩
 have l21:H.length<H2.length:=Hp.at_lt b2
 have b4:=hd4.2 _ _ (show ¬H.length=o by omega) b3
 have c4:=hd4.2 _ _ (show ¬H2.length=o by omega) c3
 have e2:∀ x ob,x=o->H3.at x=some ob->ob.esz=2\/ob.esz=6:=by
  intro x ob hx ho
  obtain⟨b,bs,p,h1,_⟩:=hr3
  rw [hx,h1] at ho
  cases ho
  exact .inl rfl
 have hm4:=hm3.frn hd4 e2
 have hD4:Dr o H H4:=hD3.same hd4
 have u4:=Hp.at_lt b4
 have hS:∀ y ob,y=H.length->H4.at y=some ob->ob.esz=6:=fun y ob hy ho=>by rw [hy,b4] at ho; cases ho; rfl
 simp
 refine c_split (fun hq=>?_) (fun hq=>?_)<;>simp at hq
 ·simp [c4,b4,xn1,xn2,Hp.at_set,u4]
  have F:=Fr.one H4 H.length (some ⟨[[xa,.sl xl 0 3,.sl xs 0 3,.int .i64 s.keep,.int .i64 s.time,xd]],6,31,false⟩)
  exact⟨s,hm4.st.fr6 F hS,hsm.stB,⟨fun _=>hval,hval.key,hsm.sml⟩,hD4.trans F (fun x hx=>.inr (by omega)),Rd.mono (hr4.fr F (by omega) (fun x ob hx ho=>by have:=hS x ob hx ho; omega)) (by omega)⟩
 rw [W_skip]
 refine W_cut (tC_mono AC_mono) (SpJ o N H H2.length) ?_ ?_
 ·simp
  refine cg_ex (pick_ok o _ 6 _ hr4 (by omega) (by omega)) ?_
  rintro v H5 ⟨q,rfl,hq6,hd5,hr5,hlen5⟩
  have b5:=hd5.2 _ _ (show ¬H.length=o by omega) b4
  have c5:=hd5.2 _ _ (show ¬H2.length=o by omega) c4
  have e4:∀ x ob,x=o->H4.at x=some ob->ob.esz=2\/ob.esz=6:=by
   intro x ob hx ho
   obtain⟨b,bs,p,h1,_⟩:=hr4
   rw [hx,h1] at ho
   cases ho
   exact .inl rfl
  have hm5:=hm4.frn hd5 e4
  have hD5:Dr o H H5:=hD4.same hd5
  have u5:=Hp.at_lt c5
  simp
  refine c_split (fun q0=>?_) (fun q0=>?_)<;>simp at q0
  ·simp
   refine cg_ex (pick_ok o _ 2 _ (hr5.le (HLe.self _ _)) (by omega) (by omega)) ?_
   rintro v H6 ⟨z,rfl,hz,hd6,hr6,hlen6⟩
   have b6:=hd6.2 _ _ (show ¬H.length=o by omega) ((HLe.self _ _).2 _ _ b5)
   have c6:=hd6.2 _ _ (show ¬H2.length=o by omega) ((HLe.self _ _).2 _ _ c5)
   have l6:=hd6.2 _ _ (show ¬H5.length=o by omega) (Hp.at_app_0.trans Hp.at_0)
   have e5:∀ x ob,x=o->(H5++[some ⟨[[.int .i64 (-1)],[.int .i64 1000]],1,3,false⟩]:Hp).at x=some ob->ob.esz=2\/ob.esz=6:=by
    intro x ob hx ho
    obtain⟨b,bs,p,h1,_⟩:=hr5.le (HLe.self H5 [some ⟨[[.int .i64 (-1)],[.int .i64 1000]],1,3,false⟩])
    rw [hx,h1] at ho
    cases ho
    exact .inl rfl
   have hm6:=(hm5.le (HLe.self _ _)).frn hd6 e5
   have hD6:Dr o H H6:=(hD5.app _).same hd6
   have u6:=Hp.at_lt c6
   have hz2:z<2:=by omega
   have hzI:(z:Int)<2:=by omega
   obtain⟨k,hkb,hk64,hk⟩:=lit2 hz2
   obtain⟨p1,p2,p3⟩:=hm6.parts
   simp [l6,hk,hzI,c6,u6]
   have hBs:=hsm.stB
   exact SpJ.put (s:={ s with time:=k }) (by simp) (by simp) b6 c6 l21 hol (hm6.upd (tp:=s.top) (ts:=s.tms) k p1 p2 p3 (fun y h=>h) (fun lr h _=>h)).st ⟨hBs.1,hBs.2.1,hBs.2.2.1,hBs.2.2.2.1,hBs.2.2.2.2.1,hBs.2.2.2.2.2.1,hk64,hBs.2.2.2.2.2.2.2.1,hBs.2.2.2.2.2.2.2.2⟩ ⟨fun h=>by have:=(ok_head h).2.2.2.1; simp only at this; omega,hval.key,hsm.sml⟩ hD6 hr6 (by omega)
  simp
  refine c_split (fun q1=>?_) (fun q1=>?_)<;>simp at q1
  ·obtain⟨p1,p2,p3⟩:=hm5.parts
   have ht:=storeOk_time hok
   have hlt:=(headI_parts (storeOk_ok hok).1).2.2.2.2.1
   simp [c5,ht]
   refine appG_one (bytes:=8) (R:=s.tms.map intRow) p2.1 (by have:=hsm.2.2.1; simp; omega) (fun v6 H6 g1 g2 g3=>?_)
   have nd:∀ {x:Nat} {ob:Ob},H5.at x=some ob->ob.ety≠3->¬xd.of x:=fun ho he hx=>he (p2.1.ety hx ho)
   have b6:=g2.2 _ _ (nd b5 (by simp)) b5
   have c6:=g2.2 _ _ (nd c5 (by simp)) c5
   have u6:=Hp.at_lt c6
   have hl5:=hD5.len
   have g1':OwnI H H6 v6 (s.tms++[s.time+1]):=⟨by simpa [intRow] using g1,fun y hy=>(g3 y hy).elim (p2.2 y) (fun h=>by omega)⟩
   have hm6:=hm5.app (ts:=s.tms++[s.time+1]) g2 g1' g3
   have hBs:=hsm.stB
   simp [c6,u6,g1.rows.one,g1.rows.cells,g1.rows.cells1]
   refine SpJ.put (s:={ s with tms:=s.tms++[s.time+1] }) (by simp) (by simp) b6 c6 l21 hol hm6.st ⟨hBs.1,hBs.2.1,hBs.2.2.1,hBs.2.2.2.1,by have:=hsm.2.2.1; simp; omega,hBs.2.2.2.2.2.1,hBs.2.2.2.2.2.2.1,hBs.2.2.2.2.2.2.2.1,fun t ht=>?_⟩ ⟨spoil_tms,hval.key,hsm.sml⟩ (hD5.trans g2 (fun x hx=>.inr (p2.2 x hx))) (hr5.fr2 g2 (fun x hx=>by have:=p2.2 x hx; omega)) (by omega)
   rcases List.mem_append.1 ht with h | h
   ·exact hBs.2.2.2.2.2.2.2.2 t h
   ·rw [List.mem_singleton.1 h]
    exact⟨by omega,by omega⟩
  simp
  refine c_split (fun q2=>?_) (fun q2=>?_)<;>simp at q2
  ·obtain⟨a',b',c',d',lr,sr,e,f1,f2,f3,f4,f5,f6⟩:=hm5.st
   simp only [stAV,AV.ag.injEq,List.cons.injEq,and_true,true_and] at e
   obtain⟨rfl,rfl,rfl,rfl⟩:=e
   have hlr3:lr.length=3:=by rw [f3.length]; exact hsm.2.2.2.2.2.2.2.1
   have hBs:=hsm.stB
   simp [c5]
   refine cutG_from f2 1 rfl (by omega) (fun u g1 g2=>?_)
   simp [c5,u5,g1.one,g1.cells,g1.cells1]
   exact SpJ.put (s:={ s with lev:=s.lev.drop 1 }) (by simp) (by simp) b5 c5 l21 hol ⟨xa,u,.sl xs 0 3,xd,lr.drop 1,sr,rfl,f1,g1,All2.drop f3 1,f4,f5,f6⟩ ⟨hBs.1,fun es he=>hBs.2.1 es (List.mem_of_mem_drop he),by have:=hBs.2.2.1; simp; omega,hBs.2.2.2⟩ ⟨fun h=>by have:=(ok_head h).1; have h3:=hsm.2.2.2.2.2.2.2.1; simp at this; omega,fun e he=>hval.key e (by
    rcases List.mem_append.1 he with h | h
    ·exact List.mem_append_left _ h
    ·obtain⟨l,h1,h2⟩:=List.mem_flatten.1 h
     exact List.mem_append_right _ (List.mem_flatten.2 ⟨l,List.mem_of_mem_drop h1,h2⟩)),hsm.sml.1,by have:=hsm.sml.2.1; simp; omega,fun l hl=>hsm.sml.2.2 l (List.mem_of_mem_drop hl)⟩ hD5 hr5 (by omega)
  simp
  refine c_split (fun q3=>?_) (fun q3=>?_)<;>simp at q3
  ·obtain⟨a2,ol2,os2,d2,lr,sr,hv,ha2,hlv,hlr,hsv,hsr,hd2',hdo2,hol2,hos2,hl3,hs3,hoff⟩:=hm5
   simp only [stAV,hl3,hs3,AV.ag.injEq,List.cons.injEq,AV.sl.injEq,and_true,true_and] at hv
   obtain⟨rfl,rfl,rfl,rfl⟩:=hv
   have hsv':=hsv
   obtain⟨e2,obs,j1,j2,j3,j4,j5,j6⟩:=hsv'.ob
   have hsr3:sr.length=3:=by omega
   obtain⟨x0,hx0⟩:∃ x0,x0=s.sv[0]'(by omega):=⟨_,rfl⟩
   obtain⟨r0,hr0,hr1,_⟩:=hsr.get 0 (by omega) (by omega)
   rw [<- hx0] at hr0 hr1
   have hx0l:x0.l.size<=12000:=by rw [hx0]; exact storeOk_l0 hok (by omega)
   have hsz:x0.l.size+(⟨#[97]⟩:ByteArray).size<=9223372036854775807:=by
    have:(⟨#[97]⟩:ByteArray).size=1:=rfl
    omega
   have j7:obs.rows[0]?=some [.str x0.l,.str x0.m,.str x0.f,r0,.int .i64 x0.k]:=by
    have:(obs.rows.take sr.length)[0]?=sr[0]?:=by rw [j6]
    rw [List.getElem?_take,if_pos (by omega)] at this
    rw [this,List.getElem?_eq_getElem (by omega),hr0]
   have u1:=Hp.at_lt j1
   simp [c5,j1,j2,j3,j7,hsz,u1]
   obtain⟨K,hK⟩:∃ K:Hp,K=List.set H5 xs (some ⟨obs.rows.set 0 [.str (x0.l++⟨#[97]⟩),.str x0.m,.str x0.f,r0,.int .i64 x0.k],5,obs.ety,false⟩):=⟨_,rfl⟩
   rw [<- hK]
   have F:Fr (fun y=>y=xs) H5 K:=by rw [hK]; exact Fr.one _ _ _
   have jK:K.at xs=some { obs with rows:=obs.rows.set 0 [.str (x0.l++⟨#[97]⟩),.str x0.m,.str x0.f,r0,.int .i64 x0.k] }:=by rw [hK,Hp.at_set _ u1,<- j2,<- j3]
   have n5:∀ {e:Nat},e≠5->∀ x ob,x=xs->H5.at x=some ob->ob.esz≠e:=fun he x ob hx ho=>by
    rw [hx,j1] at ho
    cases ho
    omega
   have ne6:∀ {x:Nat} {ob:Ob},H5.at x=some ob->ob.esz=6->¬x=xs:=fun ho he hx=>by
    rw [hx,j1] at ho
    cases ho
    omega
   have hsvK:=hsv.setRow j1 0 _ jK
   have hBs:=hsm.stB
   refine⟨by simp,by simp,F.2 _ _ (ne6 b5 rfl) b5,⟨{ s with sv:=s.sv.set 0 { x0 with l:=x0.l++⟨#[97]⟩ } },⟨xa,.sl xl 0 3,.sl xs 0 3,xd,F.2 _ _ (ne6 c5 rfl) c5,xn1,by simp,by simp,xn2,?_,hBs.1,hBs.2.1,hBs.2.2.1,by simpa using hBs.2.2.2.1,hBs.2.2.2.2.1,fun y hy=>?_,hBs.2.2.2.2.2.2⟩,⟨fun h=>by rw [hx0] at h; exact (spoil_sv hok (by have:=hsm.2.2.2.2.2.2.2.1; omega) (by omega) h).elim,hval.key,hsm.sml⟩⟩,hD5.trans F (fun x hx=>.inr (by omega)),Rd.mono (hr5.fr2 F (fun x hx=>by omega)) (by omega)⟩
   ·refine⟨xa,.sl xl 0 3,.sl xs 0 3,xd,lr,sr.set 0 [.str (x0.l++⟨#[97]⟩),.str x0.m,.str x0.f,r0,.int .i64 x0.k],rfl,Rows.frz ha2.ents F (n5 (by simp)),?_,All2.mono (fun _ _ h=>h.fr F (n5 (by simp))) hlr,?_,All2.set (All2.mono (fun row sv h=>?_) hsr) 0 ⟨r0,rfl,Rows.frz hr1 F (n5 (by simp)),fun _ _ h=>h⟩,Rows.frz hd2'.ints F (n5 (by simp))⟩
    ·rw [<- hl3]
     exact Rows.frz hlv.rows F (n5 (by simp))
    ·rw [<- hs3]
     exact hsvK.rows
    ·obtain⟨r,e1,e2,_⟩:=h
     exact⟨r,e1,Rows.frz e2 F (n5 (by simp)),fun _ _ h=>h⟩
   ·rcases List.mem_or_eq_of_mem_set hy with h | h
    ·exact hBs.2.2.2.2.2.1 y h
    ·rw [h]
     exact hBs.2.2.2.2.2.1 x0 (by rw [hx0]; exact List.getElem_mem _)
  simp
  refine c_split (fun q4=>?_) (fun q4=>?_)<;>simp at q4
  ·obtain⟨a',b',c',d',lr,sr,e,f1,f2,f3,f4,f5,f6⟩:=hm5.st
   simp only [stAV,AV.ag.injEq,List.cons.injEq,and_true,true_and] at e
   obtain⟨rfl,rfl,rfl,rfl⟩:=e
   have hBs:=hsm.stB
   simp [c5,u5]
   exact SpJ.put (s:={ s with keep:=6 }) (by simp) (by simp) b5 c5 l21 hol ⟨xa,_,_,xd,lr,sr,rfl,f1,f2,f3,f4,f5,f6⟩ ⟨hBs.1,hBs.2.1,hBs.2.2.1,hBs.2.2.2.1,hBs.2.2.2.2.1,hBs.2.2.2.2.2.1,hBs.2.2.2.2.2.2.1,⟨by simp,by simp⟩,hBs.2.2.2.2.2.2.2.2⟩ ⟨fun h=>by have:=(ok_head h).2.2.1; simp at this,hval.key,hsm.sml⟩ hD5 hr5 (by omega)
  ·obtain⟨p1,p2,p3⟩:=hm5.parts
   simp [c5]
   refine appG_one (bytes:=40) (R:=s.top.map entRow) p1.1 (by have:=hsm.1.1; simp; omega) (fun v6 H6 g1 g2 g3=>?_)
   have nd:∀ {x:Nat} {ob:Ob},H5.at x=some ob->ob.ety≠68->¬xa.of x:=fun ho he hx=>he (p1.1.ety hx ho)
   have b6:=g2.2 _ _ (nd b5 (by simp)) b5
   have c6:=g2.2 _ _ (nd c5 (by simp)) c5
   have u6:=Hp.at_lt c6
   have g1':Ents H6 v6 (s.top++[⟨⟨#[]⟩,0,false,0⟩]):=by
    have:=g1.rows
    simpa [entRow,Ents] using this
   have hBs:=hsm.stB
   simp [c6,u6,g1.rows.one,g1.rows.cells,g1.rows.cells1]
   refine SpJ.put (s:={ s with top:=s.top++[⟨⟨#[]⟩,0,false,0⟩] }) (by simp) (by simp) b6 c6 l21 hol (hm5.appT g2 g1') ⟨⟨by have:=hsm.1.1; simp; omega,fun e he=>?_⟩,hBs.2⟩ ⟨fun h=>(spoil_top h).elim,fun e he=>by
    rcases List.mem_append.1 he with h | h
    ·rcases List.mem_append.1 h with h | h
     ·exact hval.key e (List.mem_append_left _ h)
     ·rw [List.mem_singleton.1 h]
      exact Nat.zero_le _
    ·exact hval.key e (List.mem_append_right _ h),by have:=hsm.1.1; simp; omega,hsm.sml.2⟩ (hD5.trans g2 (fun x hx=>.inr (p1.2 x hx))) (hr5.fr2 g2 (fun x hx=>by have:=p1.2 x hx; omega)) (by omega)
   rcases List.mem_append.1 he with h | h
   ·exact hBs.1.2 e h
   ·rw [List.mem_singleton.1 h]
    exact⟨by show (0:Nat)<_; omega,⟨by simp,by simp⟩,⟨by simp,by simp⟩⟩
 rintro t H5 ⟨t2,t3,b5,⟨s',⟨a',b',c',d',c5,n1,n2,n3,n4,hs5,hB5⟩,hV5⟩,hD5,hr5⟩
 have u5:=Hp.at_lt b5
 simp [t2,t3,c5,b5,n1,n2,n3,n4,Hp.at_set,u5]
 have F:=Fr.one H5 H.length (some ⟨[[a',b',c',.int .i64 s'.keep,.int .i64 s'.time,d']],6,31,false⟩)
 have hS5:∀ y ob,y=H.length->H5.at y=some ob->ob.esz=6:=fun y ob hy ho=>by rw [hy,b5] at ho; cases ho; rfl
 exact⟨s',hs5.fr6 F hS5,hB5,hV5,hD5.trans F (fun x hx=>.inr (by omega)),Rd.mono (hr5.fr F (by omega) (fun x ob hx ho=>by have:=hS5 x ob hx ho; omega)) (by omega)⟩
end Go.Proofs.YtdncpcghiooeoaaGreatDoor.B

namespace Go.Proofs.YtdncpcghiooeoaaGreatDoor.B
open Go.RowKit Go.Proofs
set_option linter.unusedVariables false
set_option linter.unusedSimpArgs false
variable {E:Env}
end Go.Proofs.YtdncpcghiooeoaaGreatDoor.B

namespace Go.Proofs.YtdncpcghiooeoaaGreatDoor.B
open Go.RowKit Go.Proofs
set_option linter.unusedVariables false
set_option linter.unusedSimpArgs false
variable {E:Env}
end Go.Proofs.YtdncpcghiooeoaaGreatDoor.B

namespace Go.Proofs.YtdncpcghiooeoaaGreatDoor.B
open Go.RowKit
set_option linter.unusedVariables false
set_option linter.unusedSimpArgs false
end Go.Proofs.YtdncpcghiooeoaaGreatDoor.B

namespace Go.Proofs.YtdncpcghiooeoaaGreatDoor.B
open Go.RowKit Go.Proofs
set_option linter.unusedVariables false
set_option linter.unusedSimpArgs false
variable {E:Env}
theorem St.frE {S:Nat->Prop} {e:Nat} {H H':Hp} {v:AV} {s:Sr} (h:St H v s) (hf:Fr S H H') (he:e≠1/\e≠4/\e≠5) (hS:∀ y ob,S y->H.at y=some ob->ob.esz=e):St H' v s:=by
 obtain⟨a,b,c,d,lr,sr,e0,h1,h2,h3,h4,h5,h6⟩:=h
 have n:∀ {k:Nat},e≠k->∀ y ob,S y->H.at y=some ob->ob.esz≠k:=fun hk y ob hy ho=>by rw [hS y ob hy ho]; exact hk
 exact⟨a,b,c,d,lr,sr,e0,Rows.frz h1 hf (n he.2.1),Rows.frz h2 hf (n he.1),All2.mono (fun _ _ ⟨u,k1,k2⟩=>⟨u,k1,Rows.frz k2 hf (n he.2.1)⟩) h3,Rows.frz h4 hf (n he.2.2),All2.mono (fun _ _ ⟨u,k1,k2,k3⟩=>⟨u,k1,Rows.frz k2 hf (n he.1),k3⟩) h5,Rows.frz h6 hf (n he.1)⟩
end Go.Proofs.YtdncpcghiooeoaaGreatDoor.B

namespace Go.Proofs.YtdncpcghiooeoaaGreatDoor.B
open Go.RowKit Go.Proofs
set_option linter.unusedVariables false
set_option linter.unusedSimpArgs false
variable {E:Env}
def DrawnP (H H':Hp) (v:AV):Prop:=∃ w dv s ds,v=.tu [w,dv]/\HLe H H'/\St H' w s/\StB s/\Dds H' dv ds/\ds.length<=41/\(∀ d∈ds,d.key.size<=5)/\Spl s
theorem DrawPastDo_ok (c:AV) (bs:List Int) (H:Hp) (hc:Bytes H c bs) (hn:bs.length<4611686018427387904) :
  AC Tryz.prog E 5 [c] H (fun v H'=>DrawnP H H' v):=by
 refine AC_by fol (tC_le tab2_ok) h_spec_DrawPastDo ?_
 obtain⟨H1,hH1⟩:∃ H1:Hp,H1=H++[some ⟨[[.nils,.nils,.nils,.int .i64 0,.int .i64 0,.nils]],6,31,false⟩]:=⟨_,rfl⟩
 have hle1:HLe H H1:=by rw [hH1]; exact HLe.self _ _
 have b1:H1.at H.length=some ⟨[[.nils,.nils,.nils,.int .i64 0,.int .i64 0,.nils]],6,31,false⟩:=by rw [hH1]; simp
 simp [c_spec_DrawPastDo,<- hH1]
 refine cg_ex (l6Open_ok c bs H1 ⟨hc.1.le hle1,hc.2⟩ hn) ?_
 rintro v H2 ⟨r,rfl,ho,hle2,hr2⟩
 have hol:=hr2.lt
 have lH:H.length<H1.length:=Hp.at_lt b1
 have b2:=hle2.2 _ _ b1
 simp
 refine cg_ex (l71Spoilt_ok r 0 H2 hr2 (by omega)) ?_
 rintro w H3 ⟨s,hs,hsb,hsp,hd3,hr3⟩
 obtain⟨xa,xb,xc,xd,hw,n1,n2,n3,n4,_⟩:=hs.shape
 have hw':=hw
 subst hw'
 have b3:=hd3.2 _ _ (show ¬H.length=r by omega) b2
 obtain⟨H4,hH4⟩:∃ H4:Hp,H4=H3++[some ⟨[[xa,xb,xc,.int .i64 s.keep,.int .i64 s.time,xd]],6,31,false⟩]:=⟨_,rfl⟩
 have hle4:HLe H3 H4:=by rw [hH4]; exact HLe.self _ _
 have c4:H4.at H3.length=some ⟨[[xa,xb,xc,.int .i64 s.keep,.int .i64 s.time,xd]],6,31,false⟩:=by rw [hH4]; simp
 have b4:=hle4.2 _ _ b3
 have hr4:=hr3.le hle4
 have e2:∀ {K:Hp} {M:Nat},Rd K r M->∀ x ob,x=r->K.at x=some ob->ob.esz=2:=by
  intro K M hr x ob hx ho
  obtain⟨b,bs,p,h1,_⟩:=hr
  rw [hx,h1] at ho
  cases ho
  rfl
 have hle14:HLe H H4:=((hle1.trans hle2).fr_le hd3 (fun x hx=>by omega)).trans hle4
 have l34:=Hp.at_lt c4
 have l3:=hd3.len
 simp [stAV,n1,n2,n3,n4,<- hH4]
 refine cg_ex (l71Deeds_ok r _ 20 H4 hr4 (by omega) (by omega)) ?_
 rintro dv H5 ⟨ds,hds,hdl,hdk,hd5,hr5⟩
 have b5:=hd5.2 _ _ (show ¬H.length=r by omega) b4
 have c5:=hd5.2 _ _ (show ¬H3.length=r by omega) c4
 have hs5:=(hs.le hle4).frE hd5 (e:=2) (by simp) (e2 hr4)
 have hle15:=hle14.fr_le hd5 (fun x hx=>by omega)
 simp
 refine cg_ex (pick_ok r _ 24 H5 hr5 (by omega) (by omega)) ?_
 rintro v H6 ⟨z,rfl,hz,hd6,hr6,hlen6⟩
 have b6:=hd6.2 _ _ (show ¬H.length=r by omega) b5
 have c6:=hd6.2 _ _ (show ¬H3.length=r by omega) c5
 have hs6:=hs5.frE hd6 (e:=2) (by simp) (e2 hr5)
 have hle16:=hle15.fr_le hd6 (fun x hx=>by omega)
 have hds6:=OwnM.dr hr5 hds (by decide) hd6
 have fin:∀ {K:Hp} {dv':AV} {ds':List Dd},HLe H6 K->Dds K dv' ds'->ds'.length<=41->(∀ d∈ds',d.key.size<=5) ->
   DrawnP H (List.set K H.length (some ⟨[[xa,xb,xc,.int .i64 s.keep,.int .i64 s.time,xd]],6,31,false⟩)) (.tu [.ag [xa,xb,xc,.int .i64 s.keep,.int .i64 s.time,xd],dv']):=by
  intro K dv' ds' hK hd h1 h2
  have F:=Fr.one K H.length (some ⟨[[xa,xb,xc,.int .i64 s.keep,.int .i64 s.time,xd]],6,31,false⟩)
  have hS:∀ y ob,y=H.length->K.at y=some ob->ob.esz=6:=fun y ob hy ho=>by
   rw [hy,hK.2 _ _ b6] at ho
   cases ho
   rfl
  exact⟨_,dv',s,ds',rfl,(hle16.trans hK).fr_le F (fun x hx=>by omega),(hs6.le hK).frE F (e:=6) (by simp) hS,hsb,Rows.frz hd F (fun y ob hy ho=>by rw [hS y ob hy ho]; simp),h1,h2,hsp⟩
 simp
 refine c_split (fun hq=>?_) (fun hq=>?_)<;>simp at hq
 ·obtain⟨R,hR⟩:∃ R:List (List AV),R=List.replicate 41 [.int .i64 0,.str ⟨#[]⟩,.int .i64 0]:=⟨_,rfl⟩
  obtain⟨K,hK⟩:∃ K:Hp,K=H6++[some ⟨R,3,24,false⟩]:=⟨_,rfl⟩
  have hleM:HLe H6 K:=by rw [hK]; exact HLe.self _ _
  have bM:=hleM.2 _ _ b6
  have cM:=hleM.2 _ _ c6
  have uM:=Hp.at_lt bM
  have dM:K.at H6.length=some ⟨R,3,24,false⟩:=by rw [hK]; simp
  simp [-List.reduceReplicate,<- hR,<- hK,cM,bM,n1,n2,n3,n4,uM,Hp.at_set]
  refine fin (ds':=List.replicate 41 ⟨0,⟨#[]⟩,0⟩) hleM ?_ (by simp) (fun d hd=>by rw [(List.mem_replicate.1 hd).2]; exact Nat.zero_le _)
  have:R=(List.replicate 41 (⟨0,⟨#[]⟩,0⟩:Dd)).map ddRow:=by rw [hR,List.map_replicate]; rfl
  rw [this] at dM
  exact Own.rows (ety:=24) (Own.obj dM (by simp))
 ·have u6:=Hp.at_lt b6
  simp [c6,b6,n1,n2,n3,n4,u6,Hp.at_set]
  exact fin (HLe.refl _) hds6.rows (by omega) hdk
end Go.Proofs.YtdncpcghiooeoaaGreatDoor.B

namespace Go.Proofs.YtdncpcghiooeoaaGreatDoor.B
open Go.RowKit Go.Proofs
set_option linter.unusedVariables false
set_option linter.unusedSimpArgs false
variable {E:Env}
theorem do_one {s x:Sr} {d:Dd} (h:Val s) (hx:doR s d=some x):Val x/\s.time<=x.time/\x.time<=s.time+1/\x.keep=s.keep:=by
 obtain⟨a,b,c,u,v,w,hv⟩:=h
 unfold doR at hx
 by_cases k1:d.kind=1
 ·rw [if_pos k1] at hx
  obtain⟨h1,h2,h3,_⟩:=add_V (e:=⟨d.key,d.num,false,s.time+1⟩) hv rfl hx
  exact⟨h1,by omega,by omega,h3⟩
 rw [if_neg k1] at hx
 by_cases k2:d.kind=2
 ·rw [if_pos k2] at hx
  obtain⟨h1,h2,h3,_⟩:=add_V (e:=⟨d.key,0,true,s.time+1⟩) hv rfl hx
  exact⟨h1,by omega,by omega,h3⟩
 rw [if_neg k2] at hx
 by_cases k3:d.kind=3
 ·rw [if_pos k3] at hx
  obtain⟨h1,h2,h3,h4,h5,_⟩:=hold_V hv hx
  exact⟨⟨a,b,c,u,v,w,h1⟩,by omega,by omega,h5⟩
 rw [if_neg k3] at hx
 by_cases k4:d.kind=4
 ·rw [if_pos k4] at hx
  obtain⟨h1,h2,h3,h4,h5,_⟩:=free_V hv hx
  exact⟨⟨a,b,c,u,v,w,h1⟩,by omega,by omega,h5⟩
 rw [if_neg k4] at hx
 by_cases k5:d.kind=5
 ·rw [if_pos k5] at hx
  unfold letR at hx
  rw [if_pos hv.ok] at hx
  obtain⟨h1,h2,h3,h4,_⟩:=down_V hv hx
  exact⟨h1,by omega,by omega,h4⟩
 rw [if_neg k5] at hx
 by_cases k6:d.kind=6
 ·rw [if_pos k6] at hx
  obtain⟨h1,h2,h3,h4,_⟩:=join_V hv hx
  exact⟨h1,by omega,by omega,h4⟩
 rw [if_neg k6] at hx
 cases hx
theorem val_ok {s:Sr} (h:Val s):storeOk s=true:=by
 obtain⟨_,_,_,_,_,_,hv⟩:=h
 exact hv.ok
theorem past_one {s:Sr} (d:Dd) (h:Val s):∃ x,pastR s [d]=some x/\Val x/\s.time<=x.time/\x.time<=s.time+1/\x.keep=s.keep:=by
 refine⟨doAll s [d],?_,?_⟩
 ·unfold pastR
  rw [if_pos (by rw [val_ok h]; rfl)]
 ·have e:doAll s [d]=(doR s d).getD s:=rfl
  rw [e]
  cases hd:doR s d with
  | none=>exact⟨h,Int.le_refl _,by show s.time<=s.time+1; omega,rfl⟩
  | some x=>exact do_one h hd
set_option maxHeartbeats 3200000 in
theorem lawDeedDo_ok (hE:Tab10 E) (c c2:AV) (bs bs2:List Int) (H:Hp) (hc:Bytes H c bs) (hc2:Bytes H c2 bs2) (hn:bs.length<4611686018427387904) (hn2:bs2.length<4611686018427387904) :
  AC Tryz.prog E 3 [c,c2] H (fun v H'=>v=.bool true):=by
 refine AC_by fol (tC_le tabI_ok) h_laws_FnDeedDo ?_
 have l1:=hc.len
 have l2:=hc2.len
 simp [c_laws_FnDeedDo,l1,l2,hc.1.slc,hc2.1.slc]
 by_cases q1:1048576<bs.length
 ·have q1I:(1048576:Int)<bs.length:=by omega
  simp [q1,q1I]
 by_cases q2:1048576<bs2.length
 ·have q1I:¬(1048576:Int)<bs.length:=by omega
  have q2I:(1048576:Int)<bs2.length:=by omega
  simp [q1,q1I,q2,q2I,l2,hc2.1.slc]
 have q1I:¬(1048576:Int)<bs.length:=by omega
 have q2I:¬(1048576:Int)<bs2.length:=by omega
 simp [q1,q1I,q2,q2I,l2,hc2.1.slc]
 refine cg_ex (DrawDeedText_ok c bs H hc hn) ?_
 rintro v H1 ⟨d,rfl,hdk,hle1⟩
 obtain⟨H2,hH2⟩:∃ H2:Hp,H2=H1++[some ⟨[[.int .i64 d.kind,.str d.key,.int .i64 d.num]],3,24,false⟩]:=⟨_,rfl⟩
 have hle2:HLe H1 H2:=by rw [hH2]; exact HLe.self _ _
 have b2:H2.at H1.length=some ⟨[[.int .i64 d.kind,.str d.key,.int .i64 d.num]],3,24,false⟩:=by rw [hH2]; simp
 simp [ddAV]
 simp only [<- hH2]
 refine cg_ex (DrawPastDo_ok c2 bs2 H2 ⟨Rows.le hc2.1 (hle1.trans hle2),hc2.2⟩ hn2) ?_
 rintro v H3 ⟨w,dv,s,ds,rfl,hle3,hs,hsb,hds,_,_,hsp⟩
 obtain⟨xa,xb,xc,xd,rfl,n1,n2,n3,n4,_⟩:=hs.shape
 obtain⟨H4,hH4⟩:∃ H4:Hp,H4=H3++[some ⟨[[xa,xb,xc,.int .i64 s.keep,.int .i64 s.time,xd]],6,31,false⟩]:=⟨_,rfl⟩
 have hle4:HLe H3 H4:=by rw [hH4]; exact HLe.self _ _
 have c4:H4.at H3.length=some ⟨[[xa,xb,xc,.int .i64 s.keep,.int .i64 s.time,xd]],6,31,false⟩:=by rw [hH4]; simp
 have hs4:=hs.le hle4
 have b4:=hle4.2 _ _ (hle3.2 _ _ b2)
 simp [n1,n2,n3,n4,<- hH4,b4]
 have cI:=implDeedText_ok (E:=E) hE d H4 (by omega)
 have cS:=specDeedText_ok (E:=E) d H4 (by omega)
 simp only [ddAV] at cI cS
 refine cg_use cI ?_
 simp [b4]
 refine cg_use cS ?_
 simp [c4]
 refine cg_use (StoreOk_ok _ s H4 hs4 hsb) ?_
 cases ho:storeOk s with
 | false =>
  simp [b4]
  refine cg_use cS ?_
  simp
 | true =>
  have hval:=hsp.val ho
  obtain⟨x,hx,hv,t1,t2,t3⟩:=past_one d hval
  obtain⟨G,hG⟩:∃ G:Hp,G=H4++[some ⟨[[.int .i64 d.kind,.str d.key,.int .i64 d.num]],3,24,false⟩]:=⟨_,rfl⟩
  have hleG:HLe H4 G:=by rw [hG]; exact HLe.self _ _
  have gG:G.at H4.length=some ⟨[[.int .i64 d.kind,.str d.key,.int .i64 d.num]],3,24,false⟩:=by rw [hG]; simp
  have hdG:Dds G (.sl H4.length 0 1) [d]:=Rows.whole gG
  have cG:=hleG.2 _ _ c4
  have bG:=hleG.2 _ _ b4
  have hw1:IntKind.i64.wrap (s.time+1)=s.time+1:=by
   obtain⟨_,_,_,_,_,_,hV⟩:=hval
   have:=hV.time
   exact wrap64 (by omega) (by omega)
  simp [c4,b4]
  simp only [<- hG]
  refine cg_ex (implPastDo_ok _ _ s [d] G (hs4.le hleG) hsb hdG (fun e he=>by rw [List.mem_singleton.1 he]; omega)) ?_
  intro v H6 hret
  rw [hx] at hret
  obtain⟨hle6,w,rfl,hfar⟩:=hret
  obtain⟨ya,yb,yc,yd,rfl,m1,m2,m3,m4⟩:=hfar.shape
  have hst:=hfar.st
  obtain⟨H7,hH7⟩:∃ H7:Hp,H7=H6++[some ⟨[[ya,yb,yc,.int .i64 x.keep,.int .i64 x.time,yd]],6,31,false⟩]:=⟨_,rfl⟩
  have hle7:HLe H6 H7:=by rw [hH7]; exact HLe.self _ _
  have d7:H7.at H6.length=some ⟨[[ya,yb,yc,.int .i64 x.keep,.int .i64 x.time,yd]],6,31,false⟩:=by rw [hH7]; simp
  have c7:=hle7.2 _ _ (hle6.2 _ _ cG)
  simp [m1,m2,m3,m4,<- hH7,d7]
  refine cg_use (implStoreOk_ok _ x H7 (hst.le hle7) (pastR_small hx).stB) ?_
  simp [val_ok hv,d7,c7,hw1,t1,t2,t3]
end Go.Proofs.YtdncpcghiooeoaaGreatDoor.B

/- A part of the proof: The reference's stores: what is put. The reference's stores: what is added. The reference's stores: put, taken, let down. The reference's stores: levels are joined. The reference's stores: times are kept, and let go. The reference's stores: times are let go. The program's StoreOk. The program's copy of a store. The program puts a run into a level. Deeds of the program are those of the reference, in plain Lean. The program pushes runs down. The program writes an entry; times are held, and let go. The program holds times, and lets them go. What is found of a key at a time, in plain Lean: trimming leaves it. A run that is let into a level leaves what is found, in plain Lean. Stores that are as they must be; what deeds leave of what is found, in plain Lean. The program finds a key in a store. What is got of a store, in plain Lean: the newest entry of its key. The program's deeds, as function values. The program's store functions: a change of a copy. The reference's stores: deeds are done. The program's store functions. The reference's stores: the past. The program's deeds and its past. The program's past. What is found of a store that deeds have made is what they put last, in plain Lean. The forks of keys of which only the beginnings are kept, in plain Lean. The kept parts of a sieve, in plain Lean: where branches lead lies behind them; their texts. The program's kept parts of a sieve. The program's sieve is valid: its bits are few, its parts' texts are keys. The program's kept parts of a valid sieve, as a whole. Whether a sieve may have keys between two. A sieve that has a key between two meets them, in plain Lean. Strings that are sorted in place: memory. A contract of the library at this program. slices.Sort of strings, out of its contract in the library. slices.Compact of strings. slices.Compact of strings. The program's KeysSort. What is listed of a store, in plain Lean. How runs are let down does not depend on how much sieves keep; and with few entries there is always room: in plain Lean. For the reference's reading of stores: where the next fork lies; keys put in order; in plain Lean. The reference's sieve: ones, where a branch leads, what is whole. The reference's sieve: what is kept of the keys. The reference's sieve: whether it is ok. The reference's sieve: whether it is ok; whether it has a key. There is no condition. -/
import Derived.Sort.Row
import Derived.Sort.Grow
import Derived.Sort.EncStr
import Derived.Shelf.SortM.Plain
import Derived.Shelf.SortM.SortNone
import Derived.Ground.SlgmProg
import Derived.Ground.NamesProg
import Derived.Test.YtgoeenodllmdpaaGreatProg
import Derived.Test.YtgoeenodllmdpaaGreatM0
import Derived.Test.YtgoeenodllmdpaaGreatM1
import Derived.Test.YtgoeenodllmdpaaGreatM2
import Derived.Test.YtgoeenodllmdpaaGreatM3
namespace Go.Proofs.YtgoeenodllmdpaaGreat.B
open Go.RowKit Go.Proofs
set_option linter.unusedVariables false
set_option linter.unusedSimpArgs false
variable {E:Env}
def RetS (H0 H:Hp) (u:AV) (o:Option Sr):Prop:=HLe H0 H/\match o with
 | some x=>∃ w,u=.tu [w,.bool true]/\MSt H0 H w x
 | none=>u=.tu [zst,.bool false]
theorem MSt.base {H0 H1 H:Hp} {v:AV} {s:Sr} (h:MSt H1 H v s) (hl:H0.length<=H1.length):MSt H0 H v s:=by
 obtain⟨a,ol,os,d,lr,sr,rfl,ha,hlv,hlr,hsv,hsr,hd,hdo,hol,hos,hl3,hs3,hoff⟩:=h
 exact⟨a,ol,os,d,lr,sr,rfl,ha.base hl,hlv,hlr,hsv,hsr,hd.base hl,hdo,Nat.le_trans hl hol,Nat.le_trans hl hos,hl3,hs3,hoff.1,fun u hu y hy=>Nat.le_trans hl (hoff.2 u hu y hy)⟩
theorem RetS.fin {S:Nat->Prop} {H0 H1 H2 H3:Hp} {u:AV} {o:Option Sr} (h:RetS H1 H2 u o) (hle:HLe H0 H1) (hf:Fr S H2 H3) (hS:∀ x ob,S x->H2.at x=some ob->ob.esz=6) (hS2:∀ x,S x->H0.length<=x):RetS H0 H3 u o:=by
 obtain⟨h1,h2⟩:=h
 refine⟨(hle.trans h1).fr_le hf hS2,?_⟩
 cases o with
 | none=>exact h2
 | some x =>
  obtain⟨w,e,hm⟩:=h2
  exact⟨w,e,(hm.fr hf hS).base hle.1⟩
theorem RetS.shape {H0 H:Hp} {u:AV} {o:Option Sr} (h:RetS H0 H u o):∃ a b c k t d,u=.tu [.ag [a,b,c,k,t,d],.bool o.isSome]/\one a=true/\one b=true/\one c=true/\one k=true/\one t=true/\one d=true:=by
 obtain⟨_,h⟩:=h
 cases o with
 | none=>exact⟨_,_,_,_,_,_,h,by simp⟩
 | some x =>
  obtain⟨w,e,hm⟩:=h
  obtain⟨a,ol,os,d,rfl,h1,h2,_⟩:=hm.shape
  exact⟨_,_,_,_,_,_,e,h1,by simp,by simp,by simp,by simp,h2⟩
theorem MSt.upd {H0 H:Hp} {a d a' d':AV} {ol os:Nat} {s:Sr} {tp:List Ent} {ts:List Int} (t:Int) (h:MSt H0 H (.ag [a,.sl ol 0 3,.sl os 0 3,.int .i64 s.keep,.int .i64 s.time,d]) s) (ha:OwnE H0 H a' tp) (hd:OwnI H0 H d' ts) (hdo:¬d'.of ol) (hdd:∀ y,d'.of y->d.of y) (hof:∀ lr,OffT a lr->All2 (LvRow H) lr s.lev->OffT a' lr) :
  MSt H0 H (.ag [a',.sl ol 0 3,.sl os 0 3,.int .i64 s.keep,.int .i64 t,d']) { s with top:=tp,time:=t,tms:=ts }:=by
 obtain⟨a2,ol2,os2,d2,lr,sr,hv,ha2,hlv,hlr,hsv,hsr,hd2,hdo2,hol,hos,hl3,hs3,hoff⟩:=h
 simp only [stAV,hl3,hs3,AV.ag.injEq,List.cons.injEq,AV.sl.injEq,and_true,true_and] at hv
 obtain⟨rfl,rfl,rfl,rfl⟩:=hv
 exact⟨a',ol,os,d',lr,sr,by simp [stAV,hl3,hs3],ha,hlv,hlr,hsv,All2.mono (fun row sv h=>by
  obtain⟨r,e1,e2,e3⟩:=h
  exact⟨r,e1,e2,fun x hx hh=>e3 x hx (hh.imp id (hdd x))⟩) hsr,hd,hdo,hol,hos,hl3,hs3,hof _ hoff.1 hlr,hoff.2⟩
theorem MSt.app {H0 H H':Hp} {a d d':AV} {ol os:Nat} {s:Sr} {ts:List Int} (h:MSt H0 H (.ag [a,.sl ol 0 3,.sl os 0 3,.int .i64 s.keep,.int .i64 s.time,d]) s) (hf:Fr d.of H H') (hd:OwnI H0 H' d' ts) (hdd:∀ y,d'.of y->d.of y\/H.length<=y) :
  MSt H0 H' (.ag [a,.sl ol 0 3,.sl os 0 3,.int .i64 s.keep,.int .i64 s.time,d']) { s with tms:=ts }:=by
 obtain⟨a2,ol2,os2,d2,lr,sr,hv,ha2,hlv,hlr,hsv,hsr,hd2,hdo2,hol,hos,hl3,hs3,hoff⟩:=h
 simp only [stAV,hl3,hs3,AV.ag.injEq,List.cons.injEq,AV.sl.injEq,and_true,true_and] at hv
 obtain⟨rfl,rfl,rfl,rfl⟩:=hv
 refine⟨a,ol,os,d',lr,sr,by simp [stAV,hl3,hs3],ha2.fr hf (fun x hx hs=>ha2.rows.apart hd2.rows (by simp) hx hs),hlv.fr hf (fun x hx hs=>hdo2 (by rw [show ol=x from hx]; exact hs)),All2.mono (fun _ _ h=>h.fr hf (fun x ob hs ho=>by rw [hd2.1.esz hs ho]; decide)) hlr,
  hsv.fr hf (fun x hx hs=>hsv.rows.apart hd2.rows (by simp) hx hs),All2.mono (fun row sv h=>SvRow.fr h hf (fun x ob hs ho=>.inr (.inr hs)) (fun x hx hx'=>hx'.imp id (fun h=>(hdd x h).elim id (fun h=>by omega)))) hsr,hd,fun hy=>?_,hol,hos,hl3,hs3,hoff⟩
 rcases hdd _ hy with h | h
 ·exact hdo2 h
 ·have:=hlv.lt (o:=ol) rfl
  omega
theorem LvRow.lt {H:Hp}:∀ {lr:List (List AV)} {ls:List (List Ent)},All2 (LvRow H) lr ls->∀ u,[u]∈lr->∀ y,u.of y->y<H.length
 | [],[],_,u,hu,_,_=>by cases hu
 | r :: lr,l :: ls,h,u,hu,y,hy=>by
  rcases List.mem_cons.1 hu with e | hu
  ·obtain⟨⟨w,e2,hw⟩,_⟩:=h
   rw [<- e] at e2
   cases e2
   rcases hw with ⟨rfl,_⟩ | ⟨rfl,_⟩ | ⟨o,i,ob,rfl,h2,_⟩
   ·exact hy.elim
   ·exact hy.elim
   ·have:o=y:=hy
    subst this
    exact Hp.at_lt h2
  ·exact LvRow.lt h.2 u hu y hy
theorem MSt.upd2 {H0 H H':Hp} {a d a':AV} {ol os:Nat} {s:Sr} {tp:List Ent} (t:Int) (h:MSt H0 H (.ag [a,.sl ol 0 3,.sl os 0 3,.int .i64 s.keep,.int .i64 s.time,d]) s) (hle:HLe H H') (ha:OwnE H0 H' a' tp) (hb:∀ y,a'.of y->H.length<=y) :
  MSt H0 H' (.ag [a',.sl ol 0 3,.sl os 0 3,.int .i64 s.keep,.int .i64 t,d]) { s with top:=tp,time:=t }:=by
 obtain⟨a2,ol2,os2,d2,lr,sr,hv,ha2,hlv,hlr,hsv,hsr,hd2,hdo2,hol,hos,hl3,hs3,hoff⟩:=h
 simp only [stAV,hl3,hs3,AV.ag.injEq,List.cons.injEq,AV.sl.injEq,and_true,true_and] at hv
 obtain⟨rfl,rfl,rfl,rfl⟩:=hv
 exact⟨a',ol,os,d,lr,sr,by simp [stAV,hl3,hs3],ha,hlv.le hle,All2.mono (fun _ _=>LvRow.le hle) hlr,hsv.le hle,All2.mono (fun _ _=>SvRow.le hle) hsr,hd2.le hle,hdo2,hol,hos,hl3,hs3,fun y hy u hu hy2=>by
  have:=LvRow.lt hlr u hu y hy2
  have:=hb y hy
  omega,hoff.2⟩
theorem MSt.parts {H0 H:Hp} {a d:AV} {ol os:Nat} {s:Sr} {k t:AV} (h:MSt H0 H (.ag [a,.sl ol 0 3,.sl os 0 3,k,t,d]) s):OwnE H0 H a s.top/\OwnI H0 H d s.tms/\¬d.of ol:=by
 obtain⟨a2,ol2,os2,d2,lr,sr,hv,ha2,hlv,hlr,hsv,hsr,hd2,hdo2,hol,hos,hl3,hs3,hoff⟩:=h
 simp only [stAV,hl3,hs3,AV.ag.injEq,List.cons.injEq,AV.sl.injEq,and_true,true_and] at hv
 obtain⟨rfl,rfl,rfl,rfl,rfl,rfl⟩:=hv
 exact⟨ha2,hd2,hdo2⟩
theorem l12Into_ret (n:Nat) (hn:n<=2) (v r:AV) (s:Sr) (es:List Ent) (H0 H:Hp) (hs:MSt H0 H v s) (hle:HLe H0 H) (hr:Ents H r es) (hes:SmB es) (hl:∀ l∈s.lev,SmB l) (ht:s.tms.length<=1000) :
  AC Tryz.prog E 209 [v,.int .i64 ((2-n:Nat):Int),r] H (fun u H'=>RetS H0 H' u (intoR n s es)/\Fr (stOf v) H H'):=by
 refine AC.mono (l12Into_ok n hn v r s es H0 H hs hle hr hes hl ht) (fun u H' h=>?_)
 cases hi:intoR n s es with
 | none =>
  rw [hi] at h
  exact⟨⟨hle.fr_le h.2 (fun x hx=>(hs.obj x hx).1),h.1⟩,h.2⟩
 | some x =>
  rw [hi] at h
  obtain⟨w,e,hm,_,hf⟩:=h
  exact⟨⟨hle.fr_le hf (fun x hx=>(hs.obj x hx).1),w,e,hm⟩,hf⟩
theorem l12Down_ok (v:AV) (s:Sr) (H0 H:Hp) (hs:MSt H0 H v s) (hle0:HLe H0 H) (hb:Small s) :
  AC Tryz.prog E 189 [v] H (fun u H'=>RetS H0 H' u (downR s)/\Fr (stOf v) H H'):=by
 have hlt:=fun x=>hs.lt (x:=x)
 have hobj:=hs.obj
 obtain⟨a,ol,os,d,rfl,ha1,hd1,hdi⟩:=hs.shape
 refine AC_by fol (tC_le tab2_ok) h_spec_l12Down ?_
 simp [c_spec_l12Down,ha1,hd1]
 obtain⟨p1,p2,p3⟩:=hs.parts
 refine cg_ex (l12Into_ret 2 (by omega) _ a { s with top:=[] } s.top H0 _ (hs.upd2 (tp:=[]) s.time (HLe.self H _) ⟨Own.obj (R:=[]) (by simp) rfl,fun x hx=>by simp at hx; have:=hle0.1; omega⟩ (fun y hy=>by simp at hy; omega)) (hle0.app _) (p1.ents.le (HLe.self _ _)) hb.1 hb.2.1 hb.2.2.1) ?_
 rintro v2 H2 ⟨hret,hF⟩
 obtain⟨xa,xb,xc,xk,xt,xd,rfl,o1,o2,o3,o4,o5,o6⟩:=hret.shape
 have b1:=hF.2 (H.length+1) ⟨[[.nils,.nils,.nils,.int .i64 0,.int .i64 0,.nils]],6,28,false⟩ (fun h=>by have:=hlt _ h; omega) (by simp)
 have u1:=Hp.at_lt b1
 simp [o1,o2,o3,o4,o5,o6,b1,Hp.at_set,u1]
 have hF2:=Fr.one H2 (H.length+1) (some ⟨[[xa,xb,xc,xk,xt,xd]],6,28,false⟩)
 exact⟨hret.fin (HLe.refl _) hF2 (fun x ob hx ho=>by rw [hx,b1] at ho; cases ho; rfl) (fun x hx=>by rw [hx]; have:=hle0.1; omega),(((HLe.self H _).fr (S:=stOf _)).same hF).trans hF2 (fun x hx=>.inr (by rw [hx]; omega))⟩
end Go.Proofs.YtgoeenodllmdpaaGreat.B

namespace Go.Proofs.YtgoeenodllmdpaaGreat.B
open Go.RowKit Go.Proofs
set_option linter.unusedVariables false
set_option linter.unusedSimpArgs false
variable {E:Env}
theorem St.shape {H:Hp} {v:AV} {s:Sr} (h:St H v s):∃ a b c d,v=.ag [a,b,c,.int .i64 s.keep,.int .i64 s.time,d]/\one a=true/\one b=true/\one c=true/\one d=true/\Ents H a s.top/\Ints H d s.tms:=by
 obtain⟨a,b,c,d,lr,sr,rfl,ha,hb1,hlr,hc,hsr,hd⟩:=h
 exact⟨a,b,c,d,rfl,ha.one,hb1.one,hc.one,hd.one,ha,hd⟩
theorem addR_no {s:Sr} {e:Ent} (h:(storeOk s&&entOk e)=false):addR s e=none:=by simp [addR,h]
theorem l12Add_ok (v:AV) (s:Sr) (e:Ent) (H:Hp) (hs:St H v s) (hb:StB s) (hk:e.key.size<4611686018427387904) :
  AC Tryz.prog E 118 [v,.ag (entRow e)] H (fun u H'=>RetS H H' u (addR s e)):=by
 have hs0:=hs
 obtain⟨a,b,c,d,rfl,n1,n2,n3,n4,hea,hed⟩:=hs.shape
 refine AC_by fol (tC_le tab2_ok) h_spec_l12Add ?_
 obtain⟨H1,hH1⟩:∃ H1,H1=H++[some ⟨[[a,b,c,.int .i64 s.keep,.int .i64 s.time,d]],6,28,false⟩,some ⟨[[.str e.key,.int .i64 e.val,.bool e.gone,.int .i64 e.time]],4,99,false⟩,some ⟨[[.nils,.nils,.nils,.int .i64 0,.int .i64 0,.nils]],6,28,false⟩]:=⟨_,rfl⟩
 have hle1:HLe H H1:=by rw [hH1]; exact HLe.self _ _
 have b0:H1.at H.length=some ⟨[[a,b,c,.int .i64 s.keep,.int .i64 s.time,d]],6,28,false⟩:=by rw [hH1]; simp
 have b1:H1.at (H.length+1)=some ⟨[[.str e.key,.int .i64 e.val,.bool e.gone,.int .i64 e.time]],4,99,false⟩:=by rw [hH1]; simp
 have b2:H1.at (H.length+2)=some ⟨[[.nils,.nils,.nils,.int .i64 0,.int .i64 0,.nils]],6,28,false⟩:=by rw [hH1]; simp
 have hl1:H1.length=H.length+3:=by rw [hH1]; simp
 have eR:entRow e=[.str e.key,.int .i64 e.val,.bool e.gone,.int .i64 e.time]:=rfl
 have u2:=Hp.at_lt b2
 simp [c_spec_l12Add,n1,n2,n3,n4,<- hH1,b0,eR]
 refine cg_use (StoreOk_ok _ s H1 (hs0.le hle1) hb) ?_
 cases hso:storeOk s with
 | false =>
  simp [b2,Hp.at_set,u2,addR_no (e:=e) (s:=s) (by simp [hso]),RetS]
  exact hle1.set (by omega) _
 | true =>
 have eta:(⟨e.key,e.val,e.gone,e.time⟩:Ent)=e:=rfl
 simp [b1,tab2_ok1 _ _ _ _ _ _ _ _ _ _ _ hk]
 cases heo:entOk e with
 | false =>
  simp [heo,b2,Hp.at_set,u2,addR_no (e:=e) (s:=s) (by simp [heo]),RetS]
  exact hle1.set (by omega) _
 | true =>
 have hsm:=storeOk_small hso
 simp [heo,b0]
 refine cg_ex (l12Copy_ok _ s H1 (hs0.le hle1) hb hsm.2.2.2.2.2.2.2.1 hsm.2.2.2.2.2.2.2.2) ?_
 rintro v2 H2 ⟨hle2,hm2⟩
 obtain⟨xa,xl,xs,xd,rfl,xn1,xn2,xdi⟩:=hm2.shape
 have b02:=hle2.2 _ _ b0
 have b12:=hle2.2 _ _ b1
 have b22:=hle2.2 _ _ b2
 have u0:=Hp.at_lt b02
 have u1:=Hp.at_lt b12
 have u2:=Hp.at_lt b22
 have m02:H.length≠H.length+2:=by omega
 have m01:H.length≠H.length+1:=by omega
 have hp2:=hm2.parts
 simp [xn1,xn2,b02,Hp.at_set,u0,hp2.1.len,hp2.1.slc]
 obtain⟨H3,hH3⟩:∃ H3:Hp,H3=List.set H2 H.length (some ⟨[[xa,.sl xl 0 3,.sl xs 0 3,.int .i64 s.keep,.int .i64 s.time,xd]],6,28,false⟩):=⟨_,rfl⟩
 have hF3:Fr (fun x=>x=H.length) H2 H3:=by rw [hH3]; exact Fr.one _ _ _
 have hm3:=hm2.fr hF3 (fun x ob hx ho=>by rw [hx,b02] at ho; cases ho; rfl)
 have hle3:HLe H H3:=(hle1.trans hle2).fr_le hF3 (fun x hx=>by rw [hx]; exact Nat.le_refl _)
 have b03:H3.at H.length=some ⟨[[xa,.sl xl 0 3,.sl xs 0 3,.int .i64 s.keep,.int .i64 s.time,xd]],6,28,false⟩:=by rw [hH3]; exact Hp.at_set _ u0
 have b13:=hF3.2 _ _ m01.symm b12
 have b23:=hF3.2 _ _ m02.symm b22
 rw [<- hH3]
 refine c_split (fun hq=>?_) (fun hq=>?_)<;>simp at hq
 ·have hF13:=(hle2.fr (S:=fun x=>x=H.length)).same hF3
  simp [b03]
  refine cg_ex (l12Down_ok _ s H H3 (hm3.base hle1.1) hle3 hsm) ?_
  rintro v4 H4 ⟨hret,hF4⟩
  have n0:∀ y,y<H1.length->¬stOf (.ag [xa,.sl xl 0 3,.sl xs 0 3,.int .i64 s.keep,.int .i64 s.time,xd]) y:=fun y h1 h3=>by have:=(hm2.obj y h3).1; omega
  have b04:=hF4.2 _ _ (n0 _ (by omega)) b03
  have b14:=hF4.2 _ _ (n0 _ (by omega)) b13
  have b24:=hF4.2 _ _ (n0 _ (by omega)) b23
  have u04:=Hp.at_lt b04
  have u14:=Hp.at_lt b14
  have u24:=Hp.at_lt b24
  cases hd:downR s with
  | none =>
   have hadd:addR s e=none:=by simp [addR,hso,heo,hd,show 4<=s.top.length by omega]
   rw [hd] at hret
   obtain⟨hle4,rfl⟩:=hret
   simp [b24,Hp.at_set,u24,Hp.at_app,set_in',hadd]
   exact⟨(hle4.set (by omega) _).app _,rfl⟩
  | some x =>
   have hadd:addR s e=some { x with top:=joinL [e] x.top,time:=e.time }:=by simp [addR,hso,heo,hd,show 4<=s.top.length by omega]
   have hx0:x.top=[]:=(intoR_tms hd).2.1
   rw [hd] at hret
   obtain⟨hle4,w4,rfl,hm4⟩:=hret
   obtain⟨ya,yl,ys,yd,rfl,yn1,yn2,ydi⟩:=hm4.shape
   simp [yn1,yn2,b04,Hp.at_set,Hp.at_app,u04,set_in']
   obtain⟨H4',hH4'⟩:∃ H4':Hp,H4'=List.set H4 H.length (some ⟨[[ya,.sl yl 0 3,.sl ys 0 3,.int .i64 x.keep,.int .i64 x.time,yd]],6,28,false⟩)++[some ⟨[[ya,.sl yl 0 3,.sl ys 0 3,.int .i64 x.keep,.int .i64 x.time,yd]],6,28,false⟩]:=⟨_,rfl⟩
   rw [<- hH4']
   have hF4':Fr (fun y=>y=H.length) H4 H4':=by rw [hH4']; exact (Fr.one _ _ _).app _
   have c03:Hp.at H4' H.length=some ⟨[[ya,.sl yl 0 3,.sl ys 0 3,.int .i64 x.keep,.int .i64 x.time,yd]],6,28,false⟩:=by rw [hH4']; exact (Hp.at_app _ (by rw [List.length_set]; exact u04)).trans (Hp.at_set _ u04)
   have c13:=hF4'.2 _ _ m01.symm b14
   have c23:=hF4'.2 _ _ m02.symm b24
   have hm4':=hm4.fr hF4' (fun y ob hy ho=>by rw [hy,b04] at ho; cases ho; rfl)
   have hle4':=hle4.fr_le hF4' (fun y hy=>by rw [hy]; exact Nat.le_refl _)
   have hpk:=hm4'.parts
   have t03:=Hp.at_lt c03
   have t13:=Hp.at_lt c13
   simp [c03,c13,Hp.at_app,t03,t13]
   have hlit:Ents (H4'++[some ⟨[[.str e.key,.int .i64 e.val,.bool e.gone,.int .i64 e.time]],4,99,false⟩]) (.sl H4'.length 0 1) [e]:=Own.rows (ety:=99) (Own.obj (by simp; rfl) rfl)
   refine cg_ex (l11Join_ok (.sl H4'.length 0 1) ya [e] x.top _ hlit (hpk.1.ents.le (HLe.self _ _)) (by simp [hx0])) ?_
   rintro v5 H5 ⟨hle5,hj⟩
   have hle5':=(HLe.self H4' _).trans hle5
   have b05:=hle5'.2 _ _ c03
   have b15:=hle5'.2 _ _ c13
   have b25:=hle5'.2 _ _ c23
   have u05:=Hp.at_lt b05
   have u15:=Hp.at_lt b15
   have u25:=Hp.at_lt b25
   simp [hj.rows.one,hj.rows.cells1,hj.rows.cells,yn1,yn2,b05,b15,b25,Hp.at_set,Hp.at_set_ne,List.length_set,u05,u15,u25,m01,m02,m01.symm,m02.symm]
   have hF6:=((Fr.refl (fun y=>y=H.length\/y=H.length+2) H5).set (o:=H.length) (.inl (.inl rfl)) (some ⟨[[v5,.sl yl 0 3,.sl ys 0 3,.int .i64 x.keep,.int .i64 e.time,yd]],6,28,false⟩)).set (o:=H.length+2) (.inl (.inr rfl)) (some ⟨[[v5,.sl yl 0 3,.sl ys 0 3,.int .i64 x.keep,.int .i64 e.time,yd]],6,28,false⟩)
   rw [hadd]
   exact⟨(hle4'.trans hle5').fr_le hF6 (fun y hy=>by rcases hy with h | h<;>omega),_,rfl,MSt.fr (hm4'.upd2 (tp:=joinL [e] x.top) e.time hle5' (hj.base (by have:=hle4'.1; simp; omega)) (fun y hy=>by have h9:=hj.2 y hy; simp at h9; omega)) hF6 (fun y ob hy ho=>by
    rcases hy with h | h
    ·rw [h,b05] at ho; cases ho; rfl
    ·rw [h,b25] at ho; cases ho; rfl)⟩
 ·have z:0=0:=rfl
  have hpk:=(hm3.base hle1.1).parts
  have t03:=Hp.at_lt b03
  have t13:=Hp.at_lt b13
  simp [b03,b13,Hp.at_app,t03,t13]
  have hlit:Ents (H3++[some ⟨[[.str e.key,.int .i64 e.val,.bool e.gone,.int .i64 e.time]],4,99,false⟩]) (.sl H3.length 0 1) [e]:=Own.rows (ety:=99) (Own.obj (by simp; rfl) rfl)
  refine cg_ex (l11Join_ok (.sl H3.length 0 1) xa [e] s.top _ hlit (hpk.1.ents.le (HLe.self _ _)) (by simp; omega)) ?_
  rintro v5 H5 ⟨hle5,hj⟩
  have hle5':=(HLe.self H3 _).trans hle5
  have b05:=hle5'.2 _ _ b03
  have b15:=hle5'.2 _ _ b13
  have b25:=hle5'.2 _ _ b23
  have u05:=Hp.at_lt b05
  have u15:=Hp.at_lt b15
  have u25:=Hp.at_lt b25
  simp [hj.rows.one,hj.rows.cells1,hj.rows.cells,xn1,xn2,b05,b15,b25,Hp.at_set,Hp.at_set_ne,List.length_set,u05,u15,u25,m01,m02,m01.symm,m02.symm]
  have hadd:addR s e=some { s with top:=joinL [e] s.top,time:=e.time }:=by simp [addR,hso,heo,show ¬4<=s.top.length by omega]
  have hF6:=((Fr.refl (fun y=>y=H.length\/y=H.length+2) H5).set (o:=H.length) (.inl (.inl rfl)) (some ⟨[[v5,.sl xl 0 3,.sl xs 0 3,.int .i64 s.keep,.int .i64 e.time,xd]],6,28,false⟩)).set (o:=H.length+2) (.inl (.inr rfl)) (some ⟨[[v5,.sl xl 0 3,.sl xs 0 3,.int .i64 s.keep,.int .i64 e.time,xd]],6,28,false⟩)
  rw [hadd]
  exact⟨(hle3.trans hle5').fr_le hF6 (fun y hy=>by rcases hy with h | h<;>omega),_,rfl,MSt.fr ((hm3.base hle1.1).upd2 (tp:=joinL [e] s.top) e.time hle5' (hj.base (by have:=hle3.1; simp; omega)) (fun y hy=>by have h9:=hj.2 y hy; simp at h9; omega)) hF6 (fun y ob hy ho=>by
   rcases hy with h | h
   ·rw [h,b05] at ho; cases ho; rfl
   ·rw [h,b25] at ho; cases ho; rfl)⟩
end Go.Proofs.YtgoeenodllmdpaaGreat.B

namespace Go.Proofs.YtgoeenodllmdpaaGreat.B
open Go.RowKit Go.Proofs
set_option linter.unusedVariables false
set_option linter.unusedSimpArgs false
variable {E:Env}
theorem storeOk_time {s:Sr} (h:storeOk s=true):IntKind.i64.wrap (s.time+1)=s.time+1:=by
 simp only [storeOk,headOk,Bool.and_eq_true,decide_eq_true_eq] at h
 obtain⟨⟨⟨⟨⟨⟨h1,h2⟩,h3⟩,h4⟩,h5⟩,h7⟩,h9⟩:=h
 exact wrap64 (by omega) (by omega)
theorem addR_wrap (s:Sr) (f:Int->Ent):addR s (f (IntKind.i64.wrap (s.time+1)))=addR s (f (s.time+1)):=by
 cases h:storeOk s with
 | false=>simp [addR,h]
 | true=>rw [storeOk_time h]
theorem StorePut_ok (v:AV) (s:Sr) (k:ByteArray) (val:Int) (H:Hp) (hs:St H v s) (hb:StB s) (hk:k.size<4611686018427387904) :
  AC Tryz.prog E 47 [v,.str k,.int .i64 val] H (fun u H'=>RetS H H' u (putR s k val)):=by
 have hs0:=hs
 obtain⟨a,b,c,d,rfl,n1,n2,n3,n4,hea,hed⟩:=hs.shape
 refine AC_by fol (tC_le tab2_ok) h_spec_StorePut ?_
 simp [c_spec_StorePut,n1,n2,n3,n4]
 refine cg_ex (l12Add_ok _ s ⟨k,val,false,IntKind.i64.wrap (s.time+1)⟩ _ (hs0.le (HLe.self _ _)) hb hk) ?_
 intro v2 H2 hret
 obtain⟨xa,xb,xc,xk,xt,xd,rfl,o1,o2,o3,o4,o5,o6⟩:=hret.shape
 have b1:=hret.1.2 (H.length+1) ⟨[[.nils,.nils,.nils,.int .i64 0,.int .i64 0,.nils]],6,28,false⟩ (by simp)
 have u1:=Hp.at_lt b1
 simp [o1,o2,o3,o4,o5,o6,b1,Hp.at_set,u1]
 have hF2:=Fr.one H2 (H.length+1) (some ⟨[[xa,xb,xc,xk,xt,xd]],6,28,false⟩)
 have hr:=hret.fin (H0:=H) (HLe.self _ _) hF2 (fun x ob hx ho=>by rw [hx,b1] at ho; cases ho; rfl) (fun x hx=>by rw [hx]; omega)
 have ew:=addR_wrap s (fun t=>⟨k,val,false,t⟩)
 rw [ew] at hr ⊢
 exact hr
theorem StoreTake_ok (v:AV) (s:Sr) (k:ByteArray) (H:Hp) (hs:St H v s) (hb:StB s) (hk:k.size<4611686018427387904) :
  AC Tryz.prog E 152 [v,.str k] H (fun u H'=>RetS H H' u (takeR s k)):=by
 have hs0:=hs
 obtain⟨a,b,c,d,rfl,n1,n2,n3,n4,hea,hed⟩:=hs.shape
 refine AC_by fol (tC_le tab2_ok) h_spec_StoreTake ?_
 simp [c_spec_StoreTake,n1,n2,n3,n4]
 refine cg_ex (l12Add_ok _ s ⟨k,0,true,IntKind.i64.wrap (s.time+1)⟩ _ (hs0.le (HLe.self _ _)) hb hk) ?_
 intro v2 H2 hret
 obtain⟨xa,xb,xc,xk,xt,xd,rfl,o1,o2,o3,o4,o5,o6⟩:=hret.shape
 have b1:=hret.1.2 (H.length+1) ⟨[[.nils,.nils,.nils,.int .i64 0,.int .i64 0,.nils]],6,28,false⟩ (by simp)
 have u1:=Hp.at_lt b1
 simp [o1,o2,o3,o4,o5,o6,b1,Hp.at_set,u1]
 have hF2:=Fr.one H2 (H.length+1) (some ⟨[[xa,xb,xc,xk,xt,xd]],6,28,false⟩)
 have hr:=hret.fin (H0:=H) (HLe.self _ _) hF2 (fun x ob hx ho=>by rw [hx,b1] at ho; cases ho; rfl) (fun x hx=>by rw [hx]; omega)
 have ew:=addR_wrap s (fun t=>⟨k,0,true,t⟩)
 rw [ew] at hr ⊢
 exact hr
theorem StoreDown_ok (v:AV) (s:Sr) (H:Hp) (hs:St H v s) (hb:StB s) :
  AC Tryz.prog E 153 [v] H (fun u H'=>RetS H H' u (letR s)):=by
 have hs0:=hs
 obtain⟨a,b,c,d,rfl,n1,n2,n3,n4,hea,hed⟩:=hs.shape
 refine AC_by fol (tC_le tab2_ok) h_spec_StoreDown ?_
 simp [c_spec_StoreDown,n1,n2,n3,n4]
 refine cg_use (StoreOk_ok _ s _ (hs0.le (HLe.self _ _)) hb) ?_
 cases hso:storeOk s with
 | false =>
  simp [letR,hso,RetS]
 | true =>
 have hsm:=storeOk_small hso
 have hlr:letR s=downR s:=by simp [letR,hso]
 simp [n1,n2,n3,n4]
 refine cg_ex (l12Copy_ok _ s _ (hs0.le (HLe.self _ _)) hb hsm.2.2.2.2.2.2.2.1 hsm.2.2.2.2.2.2.2.2) ?_
 rintro v2 H2 ⟨hle2,hm2⟩
 simp
 refine cg_ex (l12Down_ok v2 s _ H2 hm2 hle2 hsm) ?_
 rintro v3 H3 ⟨hret,hF3⟩
 obtain⟨xa,xb,xc,xk,xt,xd,rfl,o1,o2,o3,o4,o5,o6⟩:=hret.shape
 have b1:=hret.1.2 (H.length+1) ⟨[[.nils,.nils,.nils,.int .i64 0,.int .i64 0,.nils]],6,28,false⟩ (by simp)
 have u1:=Hp.at_lt b1
 simp [o1,o2,o3,o4,o5,o6,b1,Hp.at_set,u1]
 have hF2:=Fr.one H3 (H.length+1) (some ⟨[[xa,xb,xc,xk,xt,xd]],6,28,false⟩)
 rw [hlr]
 exact hret.fin (H0:=H) (HLe.self _ _) hF2 (fun x ob hx ho=>by rw [hx,b1] at ho; cases ho; rfl) (fun x hx=>by rw [hx]; omega)
end Go.Proofs.YtgoeenodllmdpaaGreat.B

namespace Go.Proofs.YtgoeenodllmdpaaGreat.B
open Go.RowKit Go.Proofs
set_option linter.unusedVariables false
set_option linter.unusedSimpArgs false
variable {E:Env}
theorem MSt.lev {H0 H:Hp} {a d k t:AV} {ol os:Nat} {s:Sr} (h:MSt H0 H (.ag [a,.sl ol 0 3,.sl os 0 3,k,t,d]) s) (i:Nat) (hi:i<3):∃ ob u,H.at ol=some ob/\ob.esz=1/\ob.rows[i]?=some [u]/\Ents H u (s.lev.getD i []):=by
 obtain⟨a2,ol2,os2,d2,lr,sr,hv,ha2,hlv,hlr,hsv,hsr,hd2,hdo2,hol,hos,hl3,hs3⟩:=h
 simp only [stAV,hl3,hs3,AV.ag.injEq,List.cons.injEq,AV.sl.injEq,and_true,true_and] at hv
 obtain⟨rfl,rfl,rfl,rfl,rfl,rfl⟩:=hv
 obtain⟨e1,obl,k1,k2,k3,k4,k5,k6⟩:=hlv.ob
 have hlr3:lr.length=3:=by omega
 obtain⟨u,hu,hue⟩:=hlr.get i (by omega) (by omega)
 refine⟨obl,u,k1,k3,?_,by rw [getD_get [] (by omega)]; exact hue⟩
 have:(obl.rows.take lr.length)[i]?=lr[i]?:=by rw [k6]
 rw [List.getElem?_take,if_pos (by omega)] at this
 rw [this,List.getElem?_eq_getElem (by omega),hu]
theorem StoreJoin_ok (v:AV) (s:Sr) (l:Int) (H:Hp) (hs:St H v s) (hb:StB s) :
  AC Tryz.prog E 154 [v,.int .i64 l] H (fun u H'=>RetS H H' u (joinR s l)):=by
 have hs0:=hs
 obtain⟨a,b,c,d,rfl,n1,n2,n3,n4,hea,hed⟩:=hs.shape
 refine AC_by fol (tC_le tab2_ok) h_spec_StoreJoin ?_
 obtain⟨H1,hH1⟩:∃ H1:Hp,H1=H++[some ⟨[[a,b,c,.int .i64 s.keep,.int .i64 s.time,d]],6,28,false⟩,some ⟨[[.nils,.nils,.nils,.int .i64 0,.int .i64 0,.nils]],6,28,false⟩]:=⟨_,rfl⟩
 have hle1:HLe H H1:=by rw [hH1]; exact HLe.self _ _
 have b0:H1.at H.length=some ⟨[[a,b,c,.int .i64 s.keep,.int .i64 s.time,d]],6,28,false⟩:=by rw [hH1]; simp
 have b1:H1.at (H.length+1)=some ⟨[[.nils,.nils,.nils,.int .i64 0,.int .i64 0,.nils]],6,28,false⟩:=by rw [hH1]; simp
 have hl1:H1.length=H.length+2:=by rw [hH1]; simp
 have u1:=Hp.at_lt b1
 simp [c_spec_StoreJoin,n1,n2,n3,n4,<- hH1,b0]
 refine cg_use (StoreOk_ok _ s H1 (hs0.le hle1) hb) ?_
 cases hso:storeOk s with
 | false =>
  simp [b1,Hp.at_set,u1,joinR,hso,RetS]
  exact hle1.set (by omega) _
 | true =>
 have hsm:=storeOk_small hso
 simp
 refine c_split (fun hq=>?_) (fun hq=>?_)<;>simp at hq
 ·have hj:joinR s l=none:=by
   unfold joinR
   rw [if_neg (by omega)]
  simp [b1,Hp.at_set,u1,hj,RetS]
  exact hle1.set (by omega) _
 simp [b0]
 refine cg_ex (l12Copy_ok _ s H1 (hs0.le hle1) hb hsm.2.2.2.2.2.2.2.1 hsm.2.2.2.2.2.2.2.2) ?_
 rintro v2 H2 ⟨hle2,hm2⟩
 obtain⟨xa,xl,xs,xd,rfl,xn1,xn2,xdi⟩:=hm2.shape
 have b02:=hle2.2 _ _ b0
 have b12:=hle2.2 _ _ b1
 have u0:=Hp.at_lt b02
 have m01:H.length≠H.length+1:=by omega
 obtain⟨n,rfl⟩:∃ n:Nat,l=n:=⟨l.toNat,by omega⟩
 have hn:n<=1:=by omega
 have hn3:(n:Int)<3:=by omega
 obtain⟨H3,hH3⟩:∃ H3:Hp,H3=List.set H2 H.length (some ⟨[[xa,.sl xl 0 3,.sl xs 0 3,.int .i64 s.keep,.int .i64 s.time,xd]],6,28,false⟩):=⟨_,rfl⟩
 have hF3:Fr (fun x=>x=H.length) H2 H3:=by rw [hH3]; exact Fr.one _ _ _
 have hm3:=(hm2.fr hF3 (fun x ob hx ho=>by rw [hx,b02] at ho; cases ho; rfl)).base hle1.1
 have hle3:HLe H H3:=(hle1.trans hle2).fr_le hF3 (fun x hx=>by rw [hx]; exact Nat.le_refl _)
 have b03:H3.at H.length=some ⟨[[xa,.sl xl 0 3,.sl xs 0 3,.int .i64 s.keep,.int .i64 s.time,xd]],6,28,false⟩:=by rw [hH3]; exact Hp.at_set _ u0
 have b13:=hF3.2 _ _ m01.symm b12
 obtain⟨obl,u,k1,k2,k3,k4⟩:=hm3.lev n (by omega)
 simp [xn1,xn2,b02,Hp.at_set,u0,<- hH3,b03,k1,k2,k3,hn3]
 have hj:joinR s n=match setR s n [] with
  | none=>none
  | some x=>intoR (1-n) x (s.lev.getD n []):=by
  unfold joinR
  rw [if_pos ⟨hso,by omega,by omega⟩]
  rfl
 have t03:=Hp.at_lt b03
 have t13:=Hp.at_lt b13
 have hlit:Ents (H3++[some ⟨[],4,99,false⟩]) (.sl H3.length 0 0) []:=Own.rows (ety:=99) (Own.lit0 rfl)
 have n0:∀ y,H.length<=y->y<H1.length->¬stOf (.ag [xa,.sl xl 0 3,.sl xs 0 3,.int .i64 s.keep,.int .i64 s.time,xd]) y:=fun y h0 h1 h3=>by have:=(hm2.obj y h3).1; omega
 have ne4:=(hm3.le (HLe.self H3 [some ⟨[],4,99,false⟩])).ne4
 refine cg_ex (l12Set_ok _ (.sl H3.length 0 0) s n [] H _ (hm3.le (HLe.self _ _)) (hle3.app _) hlit ⟨by simp,fun e he=>by simp at he⟩ (by omega) (fun y hy ht=>by have:=hm3.top_lt ht; simp at hy; omega) (fun y hy=>by simp at hy; have:=hle3.1; omega)) ?_
 intro v4 H4 hp
 cases h1:setR s n [] with
 | none =>
  rw [h1] at hp hj
  obtain⟨rfl,hle4⟩:=hp
  have b14:=((HLe.self _ _).trans hle4).2 _ _ b13
  have u14:=Hp.at_lt b14
  simp [b14,Hp.at_app,Hp.at_set,u14,set_in',hj,RetS]
  exact ((hle3.app _).trans hle4 |>.set (by omega) _).app _
 | some x =>
  rw [h1] at hp hj
  obtain⟨w4,rfl,hm4,hst,hfr⟩:=hp
  obtain⟨ya,yl,ys,yd,hy,yn1,yn2,ydi⟩:=hm4.shape
  subst hy
  have b14:=hfr.2 _ _ (n0 _ (by omega) (by omega)) ((HLe.self H3 _).2 _ _ b13)
  have u14:=Hp.at_lt b14
  have hu4:Ents H4 u (s.lev.getD n []):=Rows.frz (k4.le (HLe.self _ _)) hfr ne4
  have hle4:HLe H H4:=(hle3.app _).fr_le hfr (fun y hy=>(hm3.obj y hy).1)
  have hwr:IntKind.i64.wrap ((n:Int)+1)=((2-(1-n):Nat):Int):=by
   rw [wrapN (by omega)]
   congr 1
   omega
  have hsx:=setR_small hsm (by omega) (fun e he=>by simp at he) h1
  simp [yn1,yn2,hwr]
  refine cg_ex (l12Into_ret (1-n) (by omega) _ u x _ H _ (hm4.le (HLe.self _ _)) (hle4.app _) (hu4.le (HLe.self _ _)) (hsm.lv n) hsx.2.1 hsx.2.2.1) ?_
  rintro v5 H5 ⟨hret,hF5⟩
  obtain⟨za,zb,zc,zk,zt,zd,rfl,o1,o2,o3,o4,o5,o6⟩:=hret.shape
  have b15:=hF5.2 _ _ (fun h=>n0 _ (by omega) (by omega) (hst ▸ h)) ((HLe.self H4 _).2 _ _ b14)
  have u15:=Hp.at_lt b15
  simp [o1,o2,o3,o4,o5,o6,b15,Hp.at_set,u15]
  rw [hj]
  have hF6:=Fr.one H5 (H.length+1) (some ⟨[[za,zb,zc,zk,zt,zd]],6,28,false⟩)
  exact hret.fin (H0:=H) (HLe.refl _) hF6 (fun y ob hy ho=>by rw [hy,b15] at ho; cases ho; rfl) (fun y hy=>by rw [hy]; omega)
end Go.Proofs.YtgoeenodllmdpaaGreat.B

namespace Go.Proofs.YtgoeenodllmdpaaGreat.B
open Go.RowKit Go.Proofs
set_option linter.unusedVariables false
set_option linter.unusedSimpArgs false
variable {E:Env}
def RetH (H0 H:Hp) (u:AV) (s:Sr) (o:Option Sr):Prop:=HLe H0 H/\match o with
 | some x=>∃ w,u=.tu [w,.int .i64 s.time,.bool true]/\MSt H0 H w x
 | none=>u=.tu [zst,.int .i64 0,.bool false]
theorem StoreHold_ok (v:AV) (s:Sr) (H:Hp) (hs:St H v s) (hb:StB s) :
  AC Tryz.prog E 27 [v] H (fun u H'=>RetH H H' u s (holdR s)):=by
 have hs0:=hs
 obtain⟨a,b,c,d,rfl,n1,n2,n3,n4,hea,hed⟩:=hs.shape
 refine AC_by fol (tC_le tab2_ok) h_spec_StoreHold ?_
 obtain⟨H1,hH1⟩:∃ H1:Hp,H1=H++[some ⟨[[a,b,c,.int .i64 s.keep,.int .i64 s.time,d]],6,28,false⟩,some ⟨[[.nils,.nils,.nils,.int .i64 0,.int .i64 0,.nils]],6,28,false⟩]:=⟨_,rfl⟩
 have hle1:HLe H H1:=by rw [hH1]; exact HLe.self _ _
 have b0:H1.at H.length=some ⟨[[a,b,c,.int .i64 s.keep,.int .i64 s.time,d]],6,28,false⟩:=by rw [hH1]; simp
 have b1:H1.at (H.length+1)=some ⟨[[.nils,.nils,.nils,.int .i64 0,.int .i64 0,.nils]],6,28,false⟩:=by rw [hH1]; simp
 have hl1:H1.length=H.length+2:=by rw [hH1]; simp
 have u1:=Hp.at_lt b1
 simp [c_spec_StoreHold,n1,n2,n3,n4,<- hH1,b0]
 refine cg_use (StoreOk_ok _ s H1 (hs0.le hle1) hb) ?_
 cases hso:storeOk s with
 | false =>
  simp [b1,Hp.at_set,u1,holdR,hso,RetH]
  exact hle1.set (by omega) _
 | true =>
 have hsm:=storeOk_small hso
 simp [b0]
 refine cg_ex (l12Copy_ok _ s H1 (hs0.le hle1) hb hsm.2.2.2.2.2.2.2.1 hsm.2.2.2.2.2.2.2.2) ?_
 rintro v2 H2 ⟨hle2,hm2⟩
 obtain⟨xa,xl,xs,xd,rfl,xn1,xn2,xdi⟩:=hm2.shape
 have b02:=hle2.2 _ _ b0
 have b12:=hle2.2 _ _ b1
 have u0:=Hp.at_lt b02
 have m01:H.length≠H.length+1:=by omega
 obtain⟨H3,hH3⟩:∃ H3:Hp,H3=List.set H2 H.length (some ⟨[[xa,.sl xl 0 3,.sl xs 0 3,.int .i64 s.keep,.int .i64 s.time,xd]],6,28,false⟩):=⟨_,rfl⟩
 have hF3:Fr (fun x=>x=H.length) H2 H3:=by rw [hH3]; exact Fr.one _ _ _
 have hm3:=(hm2.fr hF3 (fun x ob hx ho=>by rw [hx,b02] at ho; cases ho; rfl)).base hle1.1
 have hle3:HLe H H3:=(hle1.trans hle2).fr_le hF3 (fun x hx=>by rw [hx]; exact Nat.le_refl _)
 have b03:H3.at H.length=some ⟨[[xa,.sl xl 0 3,.sl xs 0 3,.int .i64 s.keep,.int .i64 s.time,xd]],6,28,false⟩:=by rw [hH3]; exact Hp.at_set _ u0
 have b13:=hF3.2 _ _ m01.symm b12
 have hp:=hm3.parts
 have hti:=hp.2.1.ints
 have xbd:∀ y,xd.of y->H1.length<=y:=fun y hy=>xdi.2 y hy
 have hlen:=hti.len
 have ts3:s.tms.length<=1000:=hsm.2.2.1
 have app:∀ (F:CallP->Nat->Prop),True:=fun _=>trivial
 by_cases hlast:s.tms.getLast?=some s.time
 ·have hhold:holdR s=if timesR s.tms s.time=true then some { s with tms:=s.tms } else none:=by simp [holdR,hso,hlast]
  have hpos:0<s.tms.length:=by
   rcases Nat.eq_zero_or_pos s.tms.length with h | h
   ·rw [List.length_eq_zero_iff.1 h] at hlast
    cases hlast
   ·exact h
  have hne:s.tms≠[]:=fun h=>by rw [h] at hpos; simp at hpos
  have hlast':s.tms[s.tms.length-1]'(by omega)=s.time:=by
   rw [List.getLast?_eq_getElem?,List.getElem?_eq_getElem (by omega)] at hlast
   exact Option.some.inj hlast
  have hw:IntKind.i64.wrap ((s.tms.length:Int)-1)=((s.tms.length-1:Nat):Int):=by rw [wrap64 (by omega) (by omega)]; omega
  obtain⟨o1,i1,ob1,rfl,a1,a2,a3⟩:=hti.get (j:=s.tms.length-1) (by omega)
  simp [xn1,xn2,b02,Hp.at_set,u0,<- hH3,b03,hlen,hti.slc,hne,hw,a1,a2,a3,hlast']
  refine⟨by omega,?_⟩
  have uk:=Hp.at_lt b13
  refine cg_use (l12Times_ok (.sl o1 i1 s.tms.length) s.tms s.time H3 (hp.2.1).ints (by (try simp only [List.length_append,List.length_singleton]); omega)) ?_
  cases htt:timesR s.tms s.time with
  | false =>
   have hh:holdR s=none:=by rw [hhold]; simp [htt]
   simp [b13,Hp.at_set,uk,hh,RetH]
   exact (hle3).set (by omega) _
  | true =>
   have hh:holdR s=some { s with tms:=s.tms }:=by rw [hhold]; simp [htt]
   have hon:=(hp.2.1).rows.one
   simp [b03,b13,Hp.at_set,Hp.at_set_ne,uk,xn1,hon,hh,RetH,m01,m01.symm]
   have hF:=Fr.one H3 (H.length+1) (some ⟨[[xa,.sl xl 0 3,.sl xs 0 3,.int .i64 s.keep,.int .i64 s.time,(.sl o1 i1 s.tms.length)]],6,28,false⟩)
   exact⟨(hle3).fr_le hF (fun y hy=>by rw [hy]; omega),MSt.fr hm3 hF (fun y ob hy ho=>by rw [hy,b13] at ho; cases ho; rfl)⟩
 ·have hhold:holdR s=if timesR (s.tms++[s.time]) s.time=true then some { s with tms:=s.tms++[s.time] } else none:=by simp [holdR,hso,hlast]
  by_cases hne:s.tms=[]
  ·simp [xn1,xn2,b02,Hp.at_set,u0,<- hH3,b03,hlen,hti.slc,hne]
   refine appG_add (y:=s.time) (bytes:=8) (row:=intRow) (H0:=H) hp.2.1 hle3 (by omega) rfl (fun v4 H4 g1 g2 g3 g4=>?_)
   have b04:=g3.2 _ _ (fun h=>by have:=xbd _ h; omega) b03
   have b14:=g3.2 _ _ (fun h=>by have:=xbd _ h; omega) b13
   have u04:=Hp.at_lt b04
   have hm4:=hm3.app (ts:=s.tms++[s.time]) g3 g2 g4
   simp [b04,g2.rows.one,g2.rows.cells,g2.rows.cells1,Hp.at_set,u04]
   obtain⟨H5,hH5⟩:∃ H5:Hp,H5=List.set H4 H.length (some ⟨[[xa,.sl xl 0 3,.sl xs 0 3,.int .i64 s.keep,.int .i64 s.time,v4]],6,28,false⟩):=⟨_,rfl⟩
   have hF5:Fr (fun x=>x=H.length) H4 H5:=by rw [hH5]; exact Fr.one _ _ _
   have hm5:=hm4.fr hF5 (fun y ob hy ho=>by rw [hy,b04] at ho; cases ho; rfl)
   have hle5:HLe H H5:=g1.fr_le hF5 (fun x hx=>by rw [hx]; exact Nat.le_refl _)
   have c03:H5.at H.length=some ⟨[[xa,.sl xl 0 3,.sl xs 0 3,.int .i64 s.keep,.int .i64 s.time,v4]],6,28,false⟩:=by rw [hH5]; exact Hp.at_set _ u04
   have c13:=hF5.2 _ _ m01.symm b14
   rw [<- hH5]
   have uk:=Hp.at_lt c13
   refine cg_use (l12Times_ok v4 (s.tms++[s.time]) s.time H5 (hm5.parts.2.1).ints (by (try simp only [List.length_append,List.length_singleton]); omega)) ?_
   cases htt:timesR (s.tms++[s.time]) s.time with
   | false =>
    have hh:holdR s=none:=by rw [hhold]; simp [htt]
    simp [c13,Hp.at_set,uk,hh,RetH]
    exact (hle5).set (by omega) _
   | true =>
    have hh:holdR s=some { s with tms:=(s.tms++[s.time]) }:=by rw [hhold]; simp [htt]
    have hon:=(hm5.parts.2.1).rows.one
    simp [c03,c13,Hp.at_set,Hp.at_set_ne,uk,xn1,hon,hh,RetH,m01,m01.symm]
    have hF:=Fr.one H5 (H.length+1) (some ⟨[[xa,.sl xl 0 3,.sl xs 0 3,.int .i64 s.keep,.int .i64 s.time,v4]],6,28,false⟩)
    exact⟨(hle5).fr_le hF (fun y hy=>by rw [hy]; omega),MSt.fr hm5 hF (fun y ob hy ho=>by rw [hy,c13] at ho; cases ho; rfl)⟩
  have hpos:0<s.tms.length:=List.length_pos_iff.2 hne
  have hlast':s.tms[s.tms.length-1]'(by omega)≠s.time:=by
   rw [List.getLast?_eq_getElem?,List.getElem?_eq_getElem (by omega)] at hlast
   exact fun h=>hlast (congrArg some h)
  have hw:IntKind.i64.wrap ((s.tms.length:Int)-1)=((s.tms.length-1:Nat):Int):=by rw [wrap64 (by omega) (by omega)]; omega
  obtain⟨o1,i1,ob1,hxe,a1,a2,a3⟩:=hti.get (j:=s.tms.length-1) (by omega)
  have hxe':=hxe
  subst hxe'
  simp [xn1,xn2,b02,Hp.at_set,u0,<- hH3,b03,hlen,hti.slc,hne,hw,a1,a2,a3,hlast']
  refine⟨by omega,?_⟩
  refine appG_add (y:=s.time) (bytes:=8) (row:=intRow) (H0:=H) hp.2.1 hle3 (by omega) rfl (fun v4 H4 g1 g2 g3 g4=>?_)
  have b04:=g3.2 _ _ (fun h=>by have:=xbd _ h; omega) b03
  have b14:=g3.2 _ _ (fun h=>by have:=xbd _ h; omega) b13
  have u04:=Hp.at_lt b04
  have hm4:=hm3.app (ts:=s.tms++[s.time]) g3 g2 g4
  simp [b04,g2.rows.one,g2.rows.cells,g2.rows.cells1,Hp.at_set,u04]
  obtain⟨H5,hH5⟩:∃ H5:Hp,H5=List.set H4 H.length (some ⟨[[xa,.sl xl 0 3,.sl xs 0 3,.int .i64 s.keep,.int .i64 s.time,v4]],6,28,false⟩):=⟨_,rfl⟩
  have hF5:Fr (fun x=>x=H.length) H4 H5:=by rw [hH5]; exact Fr.one _ _ _
  have hm5:=hm4.fr hF5 (fun y ob hy ho=>by rw [hy,b04] at ho; cases ho; rfl)
  have hle5:HLe H H5:=g1.fr_le hF5 (fun x hx=>by rw [hx]; exact Nat.le_refl _)
  have c03:H5.at H.length=some ⟨[[xa,.sl xl 0 3,.sl xs 0 3,.int .i64 s.keep,.int .i64 s.time,v4]],6,28,false⟩:=by rw [hH5]; exact Hp.at_set _ u04
  have c13:=hF5.2 _ _ m01.symm b14
  rw [<- hH5]
  have uk:=Hp.at_lt c13
  refine cg_use (l12Times_ok v4 (s.tms++[s.time]) s.time H5 (hm5.parts.2.1).ints (by (try simp only [List.length_append,List.length_singleton]); omega)) ?_
  cases htt:timesR (s.tms++[s.time]) s.time with
  | false =>
   have hh:holdR s=none:=by rw [hhold]; simp [htt]
   simp [c13,Hp.at_set,uk,hh,RetH]
   exact (hle5).set (by omega) _
  | true =>
   have hh:holdR s=some { s with tms:=(s.tms++[s.time]) }:=by rw [hhold]; simp [htt]
   have hon:=(hm5.parts.2.1).rows.one
   simp [c03,c13,Hp.at_set,Hp.at_set_ne,uk,xn1,hon,hh,RetH,m01,m01.symm]
   have hF:=Fr.one H5 (H.length+1) (some ⟨[[xa,.sl xl 0 3,.sl xs 0 3,.int .i64 s.keep,.int .i64 s.time,v4]],6,28,false⟩)
   exact⟨(hle5).fr_le hF (fun y hy=>by rw [hy]; omega),MSt.fr hm5 hF (fun y ob hy ho=>by rw [hy,c13] at ho; cases ho; rfl)⟩
end Go.Proofs.YtgoeenodllmdpaaGreat.B

namespace Go.Proofs.YtgoeenodllmdpaaGreat.B
open Go.RowKit Go.Proofs
set_option linter.unusedVariables false
set_option linter.unusedSimpArgs false
variable {E:Env}
def leftR (t:Int) (ts:List Int):List Int:=ts.filter fun x=>!decide (x=t)
theorem leftR_step {t:Int} {ts:List Int} {i:Nat} (hi:i<ts.length):leftR t (ts.take (i+1))=if ts[i]=t then leftR t (ts.take i) else leftR t (ts.take i)++[ts[i]]:=by
 rw [List.take_succ_eq_append_getElem hi,leftR,List.filter_append]
 by_cases h:ts[i]=t<;>simp [h,leftR]
theorem StoreFree_ok (v:AV) (s:Sr) (tt:Int) (H:Hp) (hs:St H v s) (hb:StB s) :
  AC Tryz.prog E 64 [v,.int .i64 tt] H (fun u H'=>RetS H H' u (freeR s tt)):=by
 have hs0:=hs
 obtain⟨a,b,c,d,rfl,n1,n2,n3,n4,hea,hed⟩:=hs.shape
 refine AC_by fol (tC_le tab2_ok) h_spec_StoreFree ?_
 obtain⟨H1,hH1⟩:∃ H1:Hp,H1=H++[some ⟨[[a,b,c,.int .i64 s.keep,.int .i64 s.time,d]],6,28,false⟩,some ⟨[[.nils,.nils,.nils,.int .i64 0,.int .i64 0,.nils]],6,28,false⟩]:=⟨_,rfl⟩
 have hle1:HLe H H1:=by rw [hH1]; exact HLe.self _ _
 have b0:H1.at H.length=some ⟨[[a,b,c,.int .i64 s.keep,.int .i64 s.time,d]],6,28,false⟩:=by rw [hH1]; simp
 have b1:H1.at (H.length+1)=some ⟨[[.nils,.nils,.nils,.int .i64 0,.int .i64 0,.nils]],6,28,false⟩:=by rw [hH1]; simp
 have hl1:H1.length=H.length+2:=by rw [hH1]; simp
 have u1:=Hp.at_lt b1
 simp [c_spec_StoreFree,n1,n2,n3,n4,<- hH1,b0]
 refine cg_use (StoreOk_ok _ s H1 (hs0.le hle1) hb) ?_
 cases hso:storeOk s with
 | false =>
  simp [b1,Hp.at_set,u1,freeR,hso,RetS]
  exact hle1.set (by omega) _
 | true =>
 have hsm:=storeOk_small hso
 simp [b0]
 refine cg_ex (l12Copy_ok _ s H1 (hs0.le hle1) hb hsm.2.2.2.2.2.2.2.1 hsm.2.2.2.2.2.2.2.2) ?_
 rintro v2 H2 ⟨hle2,hm2⟩
 obtain⟨xa,xl,xs,xd,rfl,xn1,xn2,xdi⟩:=hm2.shape
 have b02:=hle2.2 _ _ b0
 have b12:=hle2.2 _ _ b1
 have u0:=Hp.at_lt b02
 have m01:H.length≠H.length+1:=by omega
 obtain⟨H3,hH3⟩:∃ H3:Hp,H3=List.set H2 H.length (some ⟨[[xa,.sl xl 0 3,.sl xs 0 3,.int .i64 s.keep,.int .i64 s.time,xd]],6,28,false⟩):=⟨_,rfl⟩
 have hF3:Fr (fun x=>x=H.length) H2 H3:=by rw [hH3]; exact Fr.one _ _ _
 have hm3:=(hm2.fr hF3 (fun x ob hx ho=>by rw [hx,b02] at ho; cases ho; rfl)).base hle1.1
 have hle3:HLe H H3:=(hle1.trans hle2).fr_le hF3 (fun x hx=>by rw [hx]; exact Nat.le_refl _)
 have b03:H3.at H.length=some ⟨[[xa,.sl xl 0 3,.sl xs 0 3,.int .i64 s.keep,.int .i64 s.time,xd]],6,28,false⟩:=by rw [hH3]; exact Hp.at_set _ u0
 have b13:=hF3.2 _ _ m01.symm b12
 have hp:=hm3.parts
 have hti:=hp.2.1.ints
 have xbd:∀ y,xd.of y->H1.length<=y:=fun y hy=>xdi.2 y hy
 have hlen:=hti.len
 have ts3:s.tms.length<=1000:=hsm.2.2.1
 simp [xn1,xn2,b02,Hp.at_set,u0,<- hH3,b03,hlen,hti.slc]
 refine W_for (fun m t H'=>∃ (i:Nat) (left:AV),i+m=s.tms.length/\t 1=.int .i64 tt/\t 2=.pt H.length 0 0/\t 4=.pt (H.length+1) 0 0/\t 6=left/\t 7=.int .i64 i/\HLe H3 H'/\OwnI H3 H' left (leftR tt (s.tms.take i))) s.tms.length ?_ (tC_mono AC_mono) ?_
 ·exact⟨0,.sl H3.length 0 0,by omega,by simp,by simp,by simp,by simp,by simp,HLe.self _ _,by simpa [leftR] using (OwnM.lit0 (HLe.refl H3):OwnI H3 _ _ [])⟩
 rintro m t H' ⟨i,left,him,h1,h2,h4,h6,h7,hle',hown⟩
 have b0':=hle'.2 _ _ b03
 have hti':=hti.le hle'
 simp [h1,h2,h4,h6,h7,b0',hlen,hti.slc]
 refine c_split (fun hq=>?_) (fun hq=>?_)<;>simp at hq
 ·have hi:i<s.tms.length:=by omega
  obtain⟨o1,i1,ob1,rfl,a1,a2,a3⟩:=hti'.get hi
  have hw:=wrapN (i:=i) (by omega)
  simp [h1,h2,h4,h6,h7,b0',a1,a2,a3,hi]
  refine c_split (fun hq2=>?_) (fun hq2=>?_)<;>simp at hq2<;>simp [h1,h2,h4,h6,h7,b0',a1,a2,a3,hi,hw]
  ·have hll:(leftR tt (s.tms.take i)).length<=i:=Nat.le_trans (List.length_filter_le _ _) (by simp; omega)
   refine appG_add (y:=s.tms[i]) (bytes:=8) (row:=intRow) (H0:=H3) hown hle' (by omega) rfl (fun v5 H5 g1 g2 g3 g4=>?_)
   simp [h1,h2,h4,h6,h7,hw]
   refine⟨m-1,by omega,i+1,by omega,by omega,g1,?_⟩
   rw [leftR_step hi,if_neg hq2]
   exact g2
  ·have hx:s.tms[i]=tt:=by omega
   refine⟨m-1,by omega,i+1,by omega,by omega,hle',?_⟩
   rw [leftR_step hi,if_pos hx]
   exact hown
 ·have hie:i=s.tms.length:=by omega
  subst hie
  rw [List.take_of_length_le (Nat.le_refl _)] at hown
  have hll:(leftR tt s.tms).length<=s.tms.length:=List.length_filter_le _ _
  have b1':=hle'.2 _ _ b13
  have u1':=Hp.at_lt b1'
  have hfr:freeR s tt=if (leftR tt s.tms).length=s.tms.length then none else some { s with tms:=leftR tt s.tms }:=by
   unfold freeR
   rw [if_pos hso]
   rfl
  simp [h1,h2,h4,h6,h7,b0',hown.len,hown.slc,hlen,hti.slc]
  refine c_split (fun hq2=>?_) (fun hq2=>?_)<;>simp at hq2
  ·rw [if_pos (by omega)] at hfr
   simp [h4,b1',Hp.at_set,u1',hfr,RetS]
   exact (hle3.trans hle').set (by omega) _
  ·rw [if_neg (by omega)] at hfr
   have hm4:=hm3.app (ts:=leftR tt s.tms) (hle'.fr (S:=xd.of)) (hown.base hle3.1) (fun y hy=>.inr (hown.2 y hy))
   have u0':=Hp.at_lt b0'
   simp [h2,h4,h6,b0',b1',Hp.at_set,Hp.at_set_ne,List.length_set,u0',u1',m01,m01.symm,hfr,hown.rows.one,hown.rows.cells,hown.rows.cells1,xn1]
   have hF:=((Fr.refl (fun y=>y=H.length\/y=H.length+1) H').set (o:=H.length) (.inl (.inl rfl)) (some ⟨[[xa,.sl xl 0 3,.sl xs 0 3,.int .i64 s.keep,.int .i64 s.time,left]],6,28,false⟩)).set (o:=H.length+1) (.inl (.inr rfl)) (some ⟨[[xa,.sl xl 0 3,.sl xs 0 3,.int .i64 s.keep,.int .i64 s.time,left]],6,28,false⟩)
   exact⟨(hle3.trans hle').fr_le hF (fun y hy=>by rcases hy with h | h<;>omega),_,rfl,MSt.fr hm4 hF (fun y ob hy ho=>by
    rcases hy with h | h
    ·rw [h,b0'] at ho; cases ho; rfl
    ·rw [h,b1'] at ho; cases ho; rfl)⟩
end Go.Proofs.YtgoeenodllmdpaaGreat.B

namespace Go.Proofs.YtgoeenodllmdpaaGreat.B
open Go.RowKit Go.Proofs
set_option linter.unusedVariables false
set_option linter.unusedSimpArgs false
variable {E:Env}
theorem RgP_then {C:CallP} (hm:CMono C) {p:Plan} {K:Tm->Hp->Prop} {t:Tm} {H:Hp} (I:Tm->Hp->Prop) (h1:RgP C p t H I) (h2:∀ t H,I t H->K t H):RgP C p t H K:=RgP_mono hm p t H _ _ h2 h1
theorem late_ok (e:Ent) (o:Nat) (a b c d:AV) (k tm:Int) (H:Hp) (h1:H.at o=some ⟨[[a,b,c,.int .i64 k,.int .i64 tm,d]],6,28,false⟩) :
  AC Tryz.prog E 97 [.ag (entRow e),.pt o 0 0] H (fun v H'=>v=.bool (decide (tm<e.time))/\H'=H):=by
 refine AC_byp (tC_le tabJ_ok) h_impl_StoreOk_1 (by simp) ?_
 have u:=Hp.at_lt h1
 simp [c_impl_StoreOk_1,h1,entRow,Hp.at_app,u]
theorem SvRet.shape {H H':Hp} {v:AV} {o:Option Sv} (h:SvRet H H' v o):∃ l m f r k,v=.tu [.ag [.str l,.str m,.str f,r,.int .i64 k],.bool o.isSome]/\r.cells=[r]/\cells1 r=true/\one r=true/\∀ x,o=some x->l=x.l/\m=x.m/\f=x.f/\k=x.k/\OwnS H H' r x.r/\x.r.length<=12000:=by
 cases o with
 | none=>exact⟨_,_,_,_,_,h,rfl,rfl,rfl,fun x hx=>by cases hx⟩
 | some x =>
  obtain⟨r,rfl,h2,h3⟩:=h
  exact⟨_,_,_,_,_,rfl,Rows.cells h2.1.rows,Rows.cells1 h2.1.rows,Rows.one h2.1.rows,fun y hy=>by cases hy; exact⟨rfl,rfl,rfl,rfl,h2,h3⟩⟩
def SieveAt (H:Hp) (L:Nat) (o:Option Sv):Prop:=∃ l m f r k,H.at L=some ⟨[[.str l,.str m,.str f,r,.int .i64 k]],5,66,false⟩/\∀ x,o=some x->l=x.l/\m=x.m/\f=x.f/\k=x.k/\Strs H r x.r/\x.r.length<=12000
theorem SvRet.fill {H H' H2:Hp} {l m f:ByteArray} {r:AV} {k:Int} {L:Nat} {o:Option Sv} (h:∀ x,o=some x->l=x.l/\m=x.m/\f=x.f/\k=x.k/\OwnS H H' r x.r/\x.r.length<=12000)
  (hb:H2.at L=some ⟨[[.str l,.str m,.str f,r,.int .i64 k]],5,66,false⟩) (hs:∀ xs,OwnS H H' r xs->Strs H2 r xs):SieveAt H2 L o :=
 ⟨l,m,f,r,k,hb,fun x hx=>by
  obtain⟨h1,h2,h3,h4,h5,h6⟩:=h x hx
  exact⟨h1,h2,h3,h4,hs _ h5,h6⟩⟩
theorem OwnS.set5 {H H':Hp} {r:AV} {xs:List ByteArray} (h:OwnS H H' r xs) {L:Nat} {ob:Ob} (ho:H'.at L=some ob) (he:ob.esz=5) (x:Option Ob):Strs (List.set H' L x) r xs :=
 (h.fr (Fr.one H' L x) (fun y hy hh=>by
  subst hh
  have:=h.1.esz hy ho
  omega)).strs
set_option maxHeartbeats 1600000 in
theorem implStoreOk_ok (v:AV) (s:Sr) (H:Hp) (hs:St H v s) (hb:StB s):AC Tryz.prog E 24 [v] H (fun u H'=>u=.bool (storeOk s)/\H'=H):=by
 obtain⟨a,b,c,d,lr,sr,rfl,ha,hb1,hlr,hc,hsr,hd⟩:=hs
 obtain⟨hB1,hB2,hB3,hB4,hB5,hB6,hB7,hB8,hB9⟩:=hb
 refine AC_byp (tC_le tabJ_ok) h_impl_StoreOk (by simp) ?_
 rw [<- storeI_eq]
 have ll:=hlr.length
 have ls:=hsr.length
 obtain⟨H1,hH1⟩:∃ H1:Hp,H1=H++[some ⟨[[a,b,c,.int .i64 s.keep,.int .i64 s.time,d]],6,28,false⟩]:=⟨_,rfl⟩
 have hle1:HLe H H1:=by rw [hH1]; exact HLe.self _ _
 have b0:H1.at H.length=some ⟨[[a,b,c,.int .i64 s.keep,.int .i64 s.time,d]],6,28,false⟩:=by rw [hH1]; simp
 have l1:=hb1.len
 have l2:=hc.len
 have l3:=ha.len
 have hf:headI s=false->storeI s=false:=fun h=>by simp [storeI,h]
 rcases Classical.em (s.lev.length=3) with e1 | e1
 rotate_left
 ·have i1:¬(lr.length:Int)=3:=by omega
  simp [c_impl_StoreOk,stAV,Rows.one ha,Rows.one hb1,Rows.one hc,Rows.one hd,<- hH1,b0,l1,hb1.slc,i1]
  exact⟨hf (by simp [headI,e1]),hle1⟩
 rcases Classical.em (s.sv.length=3) with e2 | e2
 rotate_left
 ·have i1:(lr.length:Int)=3:=by omega
  have i2:¬(sr.length:Int)=3:=by omega
  simp [c_impl_StoreOk,stAV,Rows.one ha,Rows.one hb1,Rows.one hc,Rows.one hd,<- hH1,b0,l1,hb1.slc,l2,hc.slc,i1,i2]
  exact⟨hf (by simp [headI,e2]),hle1⟩
 have i1:(lr.length:Int)=3:=by omega
 have i2:(sr.length:Int)=3:=by omega
 simp [c_impl_StoreOk,stAV,Rows.one ha,Rows.one hb1,Rows.one hc,Rows.one hd,<- hH1,b0,l1,hb1.slc,l2,hc.slc,i1,i2]
 refine cg_use (implRunOk_ok a s.top H1 (ha.le hle1) hB1.2.short (by have:=hB1.1; omega)) ?_
 cases h3:runOk s.top with
 | false =>
  simp
  exact⟨hf (by simp [headI,h3]),hle1⟩
 | true =>
 simp [b0,l3,ha.slc]
 rcases Classical.em (s.top.length<=4) with e4 | e4
 rotate_left
 ·have i4:(4:Int)<(s.top.length:Int):=by omega
  simp [b0,l3,ha.slc,i4]
  exact⟨hf (by simp [headI,e4]),hle1⟩
 have i4:¬((4:Int)<(s.top.length:Int)):=by omega
 rcases Classical.em (0<=s.time/\s.time<=999) with e5 | e5
 rotate_left
 ·have e5':decide (0<=s.time/\s.time<=999)=false:=decide_eq_false e5
  simp [b0,l3,ha.slc,i4,e5']
  exact⟨hf (by simp only [headI,e5']; simp),hle1⟩
 simp [b0,l3,ha.slc,i4,e5]
 refine cg_use (timesOk_ok d s.tms s.time H1 (hd.le hle1) hB5) ?_
 cases h6:timesR s.tms s.time with
 | false =>
  simp
  exact⟨hf (by simp [headI,h6]),hle1⟩
 | true =>
 have hhead:headI s=true:=by simp [headI,e1,e2,h3,e4,e5,h6]
 simp [b0,l1,hb1.slc,i1]
 refine W_for (fun m t H'=>∃ (n:Nat) (v:AV),n+m=3/\t 1=.pt H.length 0 0/\t 3=v/\t 47=b/\t 48=.int .i64 3/\t 49=.int .i64 n/\HLe H1 H'/\Ents H' v (aboveI s n)/\∀ i,i<n->okI s i=true) 3 ?_ (tC_mono AC_mono) ?_
 ·exact⟨0,a,by simp,by simp,by simp,by simp,by simp,by simp,HLe.refl _,by rw [aboveI_0]; exact ha.le hle1,by simp⟩
 rintro m t H' ⟨n,v,hnm,t1,t3,t47,t48,t49,hle,hv,hok⟩
 simp [t1,t3,t47,t48,t49]
 refine c_split (fun hq=>?_) (fun hq=>?_)<;>simp at hq
 ·have hn3:n<3:=by omega
  have hnl:n<lr.length:=by omega
  obtain⟨o1,j1,ob1,rfl,aH,a2,a3⟩:=hb1.get hnl
  obtain⟨u,hu,hue⟩:=hlr.get n hnl (by omega)
  rw [hu] at a3
  have a1:=(hle1.trans hle).2 _ _ aH
  have bb:=hle.2 _ _ b0
  have hnI:(n:Int)<lr.length:=by omega
  obtain⟨es,hes⟩:∃ es,es=s.lev[n]:=⟨_,rfl⟩
  rw [<- hes] at hue
  have hEs:EsB es:=by rw [hes]; exact hB2 _ (List.getElem_mem _)
  have hg1:s.lev.getD n []=es:=by rw [hes]; simp [show n<s.lev.length by omega]
  have hfn:okI s n=false->storeI s=false:=fun h=>by
   have:n=0\/n=1\/n=2:=by omega
   rcases this with rfl | rfl | rfl<;>simp [storeI,h]
  have hue':=hue.le (hle1.trans hle)
  obtain⟨ks,hks⟩:∃ ks,ks=if runOk es=true then keysR es else []:=⟨_,rfl⟩
  have hks1:∀ k∈ks,k.size<4611686018427387904:=by
   rw [hks]
   split
   ·exact keysR_short hEs.2
   ·intro k hk
    cases hk
  have hks2:ks.length<4611686018427387904:=by
   have:=keysR_len es
   have:=hEs.1
   rw [hks]
   split
   ·omega
   ·simp
  simp [-RgP_both,t1,t3,t47,t48,t49,hnl,a1,a2,a3,hnI,bb]
  refine RgP_then (tC_mono AC_mono) (fun t H2=>t 1=.pt H.length 0 0/\t 3=v/\t 4=.int .i64 n/\t 5=u/\t 47=.sl o1 j1 lr.length/\t 48=.int .i64 3/\t 49=.int .i64 n/\HLe H' H2/\∃ L,t 6=.pt L 0 0/\t 7=.bool (sieveO ks s.keep).isSome/\SieveAt H2 L (sieveO ks s.keep)) ?_ ?_
  ·have hrk:=RunKeys_ok (E:=E) u es
   rw [<- hks] at hrk
   rw [RgP_both]
   refine⟨?_,?_⟩
   ·simp [t1,t3,t47,t48,t49]
    refine cg_ex (hrk H' hue' hEs) ?_
    rintro w H2 ⟨hle2,hw⟩
    have bb2:=hle2.2 _ _ bb
    simp [t1,bb2]
    refine⟨?_,?_⟩
    ·refine cg_ex (implSieveOf_ok w ks s.keep H2 hw.strs hks1 hks2) ?_
     rintro v2 H3 ⟨hle3,hret⟩
     obtain⟨l,m',f,r,k,rfl,hr1,hr2,hr3,hx⟩:=hret.shape
     have bb3:=hle3.2 _ _ bb2
     have ub:=Hp.at_lt bb3
     simp [t1,t3,t47,t48,t49,bb3,hr1,hr2,hr3,Hp.at_app,ub]
     exact⟨(hle2.trans hle3).app _,SvRet.fill hx (by simp) (fun xs h=>h.strs.le (HLe.self _ _))⟩
    ·have ub:=Hp.at_lt bb2
     obtain⟨G,hG⟩:∃ G:Hp,G=H2++[some ⟨[[.str ⟨#[]⟩,.str ⟨#[]⟩,.str ⟨#[]⟩,.nils,.int .i64 0]],5,66,false⟩]:=⟨_,rfl⟩
     have hleG:HLe H2 G:=by rw [hG]; exact HLe.self _ _
     have bG:G.at H2.length=some ⟨[[.str ⟨#[]⟩,.str ⟨#[]⟩,.str ⟨#[]⟩,.nils,.int .i64 0]],5,66,false⟩:=by rw [hG]; simp
     simp [t1,<- hG,hleG.2 _ _ bb2]
     refine cg_ex (implSieveOf_ok w ks s.keep G (hw.strs.le hleG) hks1 hks2) ?_
     rintro v2 H3 ⟨hle3,hret⟩
     obtain⟨l,m',f,r,k,rfl,hr1,hr2,hr3,hx⟩:=hret.shape
     have b3:=hle3.2 _ _ bG
     have u3:=Hp.at_lt b3
     simp [t1,t3,t47,t48,t49,b3,u3,hr1,hr2,hr3]
     exact⟨((hle2.trans hleG).trans hle3).set (hle2.1) _,SvRet.fill hx (Hp.at_set _ u3) (fun xs h=>h.set5 b3 rfl _)⟩
   ·obtain⟨G,hG⟩:∃ G:Hp,G=H'++[some ⟨[[.str ⟨#[]⟩,.str ⟨#[]⟩,.str ⟨#[]⟩,.nils,.int .i64 0]],5,66,false⟩]:=⟨_,rfl⟩
    have hleG:HLe H' G:=by rw [hG]; exact HLe.self _ _
    have bG:G.at H'.length=some ⟨[[.str ⟨#[]⟩,.str ⟨#[]⟩,.str ⟨#[]⟩,.nils,.int .i64 0]],5,66,false⟩:=by rw [hG]; simp
    have bbG:=hleG.2 _ _ bb
    simp [t1,t3,t47,t48,t49,<- hG,bbG]
    refine cg_ex (hrk G (hue'.le hleG) hEs) ?_
    rintro w H2 ⟨hle2,hw⟩
    have bb2:=hle2.2 _ _ bbG
    have bG2:=hle2.2 _ _ bG
    simp [t1,bb2]
    refine cg_ex (implSieveOf_ok w ks s.keep H2 hw.strs hks1 hks2) ?_
    rintro v2 H3 ⟨hle3,hret⟩
    obtain⟨l,m',f,r,k,rfl,hr1,hr2,hr3,hx⟩:=hret.shape
    have b3:=hle3.2 _ _ bG2
    have u3:=Hp.at_lt b3
    simp [t1,t3,t47,t48,t49,b3,u3,hr1,hr2,hr3]
    exact⟨((hleG.trans hle2).trans hle3).set (Nat.le_refl _) _,SvRet.fill hx (Hp.at_set _ u3) (fun xs h=>h.set5 b3 rfl _)⟩
  ·clear t1 t3 t47 t48 t49
   rintro t H2 ⟨t1,t3,t4,t5,t47,t48,t49,hle2,L,t6,t7,hSA⟩
   have hleA:=hle.trans hle2
   have hle0:=hle1.trans hleA
   have hue2:=hue.le hle0
   have bb2:=hle2.2 _ _ bb
   have hw:=wrapN (i:=n) (by omega)
   have hok9:okI s n=(runOk es&&decide (es.length<=sizeL n)&&decide (sieveO (keysR es) s.keep=some (s.sv.getD n default))&&newerI (aboveI s n) es&&!lateI s.time (aboveI s n)):=by
    unfold okI
    rw [hg1]
   simp [t1,t3,t4,t5,t6,t7,t47,t48,t49]
   refine cg_use (implRunOk_ok u es H2 hue2 hEs.2.short (by have:=hEs.1; omega)) ?_
   cases r1:runOk es with
   | false =>
    simp
    exact⟨hfn (by rw [hok9,r1]; rfl),hle0⟩
   | true =>
   rw [r1] at hks
   simp only [if_true] at hks
   subst hks
   simp [t1,t3,t4,t5,t6,t7,t47,t48,t49,hue2.len,hue2.slc]
   refine cg_use (room_ok n H2 (by omega)) ?_
   rcases Nat.lt_or_ge (sizeL n) es.length with r2 | r2
   ·have r2':(sizeL n:Int)<(es.length:Int):=by omega
    simp [r2']
    exact⟨hfn (by rw [hok9]; simp [show ¬es.length<=sizeL n by omega]),hle0⟩
   have r2':¬(sizeL n:Int)<(es.length:Int):=by omega
   have his:n<sr.length:=by omega
   obtain⟨o2,j2,ob2,rfl,cH,c2,c3⟩:=hc.get his
   obtain⟨rr,hr,hrs,-⟩:=hsr.get n his (by omega)
   rw [hr] at c3
   have cc:=hle0.2 _ _ cH
   obtain⟨y,hy⟩:∃ y,y=s.sv[n]:=⟨_,rfl⟩
   have hg2:s.sv.getD n default=y:=by rw [hy]; simp [show n<s.sv.length by omega]
   rw [<- hy] at c3 hrs
   rw [hg2] at hok9
   simp [r2',t1,t3,t4,t5,t6,t7,t47,t48,t49]
   cases r3:sieveO (keysR es) s.keep with
   | none =>
    simp
    exact⟨hfn (by rw [hok9,r3]; simp),hle0⟩
   | some x =>
   rw [r3] at hSA
   obtain⟨l,m',f,r,k,g1,g2⟩:=hSA
   obtain⟨rfl,rfl,rfl,rfl,hxr,hxl⟩:=g2 x rfl
   have hnI2:(n:Int)<sr.length:=by omega
   simp [t1,t3,t4,t5,t6,t7,t47,t48,t49,g1,bb2,cc,c2,c3,his,hnI2]
   refine cg_use (same_ok r rr x y H2 hxr (hrs.le hle0) (by omega)) ?_
   rcases Classical.em (x=y) with r4 | r4
   rotate_left
   ·have r4':decide (x=y)=false:=decide_eq_false r4
    simp [r4']
    exact⟨hfn (by rw [hok9,r3]; simp [r4]),hle0⟩
   have r4':decide (x=y)=true:=decide_eq_true r4
   simp [r4',t1,t3,t4,t5,t6,t7,t47,t48,t49]
   have hv2:=hv.le hle2
   have hab:(aboveI s n).length<=100:=by
    have q0:∀ i,i<n->(s.lev.getD i []).length<=sizeL i:=fun i hi=>(okI_parts (hok i hi)).2.1
    have:n=0\/n=1\/n=2:=by omega
    obtain⟨a0,b0',c0',hl3⟩:∃ x y z,s.lev=[x,y,z]:=by
     match s.lev,e1 with
     | [x,y,z],_=>exact⟨x,y,z,rfl⟩
    rcases this with rfl | rfl | rfl
    ·simp [aboveI]
     omega
    ·have:=q0 0 (by omega)
     simp [aboveI,hl3,sizeL] at this ⊢
     omega
    ·have z0:=q0 0 (by omega)
     have z1:=q0 1 (by omega)
     simp [aboveI,hl3,sizeL] at z0 z1 ⊢
     omega
   refine cg_use (newer_ok v u (aboveI s n) es H2 hv2 hue2 (by omega) hEs.1) ?_
   cases r5:newerI (aboveI s n) es with
   | false =>
    simp
    exact⟨hfn (by rw [hok9,r5]; simp),hle0⟩
   | true =>
   simp [t1,t3,t4,t5,t6,t7,t47,t48,t49]
   refine cg_use (ContainsEnt_ok v (aboveI s n) 97 [.pt H.length 0 0] (fun e=>decide (s.time<e.time)) H2 hv2 (by omega) ?_ (fun _=>rfl)) ?_
   ·intro e _ H3 hle3
    exact late_ok e H.length _ _ _ _ _ _ H3 (hle3.2 _ _ bb2)
   have elate:(aboveI s n).any (fun e=>decide (s.time<e.time))=lateI s.time (aboveI s n):=rfl
   rw [elate]
   cases r6:lateI s.time (aboveI s n) with
   | true =>
    simp
    exact⟨hfn (by rw [hok9,r6]; simp),hle0⟩
   | false =>
   obtain⟨G,hG⟩:∃ G:Hp,G=H2++[some ⟨[[v],[u]],1,23,false⟩]:=⟨_,rfl⟩
   have hleG:HLe H2 G:=by rw [hG]; exact HLe.self _ _
   have bG:G.at H2.length=some ⟨[[v],[u]],1,23,false⟩:=by rw [hG]; simp
   simp [t1,t3,t4,t5,t6,t7,t47,t48,t49,Rows.cells hv,Rows.cells hue,Rows.cells1 hv,Rows.cells1 hue,<- hG]
   refine cg_ex (Concat_ok (.sl H2.length 0 2) [[v],[u]] [aboveI s n,es] G (Rows.whole bG) ⟨⟨v,rfl,hv2.le hleG⟩,⟨u,rfl,hue2.le hleG⟩,trivial⟩ (by
    have h9:sizeL n<=24:=by
     simp only [sizeL]
     omega
    simp [catR]
    omega) (by simp)) ?_
   rintro w H3 ⟨hle3,hwo,-,-⟩
   have ec:catR [aboveI s n,es]=aboveI s (n+1):=by
    simp only [catR,aboveI,List.flatten_cons,List.flatten_nil,List.append_nil]
    rw [List.take_succ_eq_append_getElem (show n<s.lev.length by omega),List.flatten_append,<- hes]
    simp
   rw [ec] at hwo
   simp [t1,t3,t4,t5,t6,t7,t47,t48,t49,hw]
   refine⟨m-1,by omega,n+1,by omega,rfl,(hleA.trans hleG).trans hle3,hwo.ents,fun i hi=>?_⟩
   rcases Nat.lt_or_ge i n with h | h
   ·exact hok i h
   ·have:i=n:=by omega
    subst this
    rw [hok9,r1,r3,r4,r5,r6]
    simp [r2]
 ·have:n=3:=by omega
  subst this
  simp
  have g0:=hok 0 (by omega)
  have g1:=hok 1 (by omega)
  have g2:=hok 2 (by omega)
  exact⟨by simp [storeI,hhead,g0,g1,g2],hle1.trans hle⟩
end Go.Proofs.YtgoeenodllmdpaaGreat.B

namespace Go.Proofs.YtgoeenodllmdpaaGreat.B
open Go.RowKit Go.Proofs
set_option linter.unusedVariables false
set_option linter.unusedSimpArgs false
variable {E:Env}
def LvO (B:Nat) (H:Hp) (row:List AV) (es:List Ent):Prop:=∃ u,row=[u]/\Own 4 99 H u (es.map entRow)/\∀ y,u.of y->B<=y
theorem Own.frE {esz ety:Nat} {S:Nat->Prop} {H H':Hp} {v:AV} {R:List (List AV)} (h:Own esz ety H v R) (hf:Fr S H H') (hS:∀ y ob,S y->H.at y=some ob->ob.ety≠ety):Own esz ety H' v R:=by
 refine h.fr hf (fun y hy hs=>?_)
 rcases h with ⟨rfl,_⟩ | ⟨rfl,_⟩ | ⟨o',ob',rfl,a1,a2,a3,a4,_⟩
 ·exact hy.elim
 ·exact hy.elim
 ·have:o'=y:=hy
  subst this
  exact hS _ _ hs a1 a4
theorem OwnM.frE {α:Type} {esz ety:Nat} {row:α->List AV} {S:Nat->Prop} {H0 H H':Hp} {v:AV} {xs:List α} (h:OwnM esz ety row H0 H v xs) (hf:Fr S H H') (hS:∀ y ob,S y->H.at y=some ob->ob.ety≠ety):OwnM esz ety row H0 H' v xs:=⟨h.1.frE hf hS,h.2⟩
section
variable {H H' H2:Hp} {L3 i j:Nat} {v1 lv sv v2:AV} {lr sr:List (List AV)} {s:Sr}
def RoOwn (own:Bool) (esz ety:Nat) (H:Hp) (v:AV) (R:List (List AV)):Prop:=if own=true then Own esz ety H v R else Rows esz H v R
theorem RoOwn.rows {own:Bool} {esz ety:Nat} {H:Hp} {v:AV} {R:List (List AV)} (h:RoOwn own esz ety H v R):Rows esz H v R:=by
 cases own
 ·exact h
 ·exact Own.rows h
theorem RoOwn.one {own:Bool} {esz ety:Nat} {H:Hp} {v:AV} {R:List (List AV)} (h:RoOwn own esz ety H v R):one v=true:=h.rows.one
theorem RoOwn.fr {own:Bool} {S:Nat->Prop} {esz ety:Nat} {H H':Hp} {v:AV} {R:List (List AV)} (h:RoOwn own esz ety H v R) (hf:Fr S H H') (hs:∀ o,v.of o->¬S o):RoOwn own esz ety H' v R:=by
 cases own
 ·exact Rows.fr h hf hs
 ·exact Own.fr h hf hs
def FarP (own:Bool) (P:AV->List (List AV)->List (List AV)->Prop) (B:Nat) (H:Hp) (v:AV) (s:Sr):Prop:=∃ a b c d lr sr,v=stAV a b c s d/\RoOwn own 4 99 H a (s.top.map entRow)/\RoOwn own 1 23 H b lr/\All2 (fun row es=>∃ u,row=[u]/\RoOwn own 4 99 H u (es.map entRow)/\∀ y,u.of y->B<=y) lr s.lev/\RoOwn own 5 66 H c sr /\
 All2 (fun row s=>∃ r,row=[.str s.l,.str s.m,.str s.f,r,.int .i64 s.k]/\RoOwn own 1 9 H r (s.r.map strRow)/\∀ y,r.of y->B<=y) sr s.sv/\RoOwn own 1 3 H d (s.tms.map intRow)/\(∀ y,a.of y\/b.of y\/c.of y\/d.of y->B<=y)/\P a lr sr
theorem FarP.fr {own:Bool} {S:Nat->Prop} {P:AV->List (List AV)->List (List AV)->Prop} {B:Nat} {H H':Hp} {v:AV} {s:Sr} (h:FarP own P B H v s) (hf:Fr S H H') (hS:∀ y,S y->y<B\/∀ ob,H.at y=some ob->ob.esz=6):FarP own P B H' v s:=by
 have key:∀ {esz ety:Nat} {w:AV} {R:List (List AV)},RoOwn own esz ety H w R->esz≠6->(∀ y,w.of y->B<=y)->RoOwn own esz ety H' w R:=by
  intro esz ety w R hr he hw
  refine hr.fr hf (fun y hy hs=>?_)
  rcases hr.rows with ⟨rfl,_⟩ | ⟨rfl,_⟩ | ⟨o,i,ob,rfl,h2,h3,h4⟩
  ·exact hy.elim
  ·exact hy.elim
  ·have:o=y:=hy
   subst this
   rcases hS o hs with h | h
   ·have:=hw o rfl
    omega
   ·exact he (by rw [<- h3]; exact h _ h2)
 obtain⟨a,b,c,d,lr,sr,e,h1,h2,h3,h4,h5,h6,h7,h8⟩:=h
 exact⟨a,b,c,d,lr,sr,e,key h1 (by simp) (fun y hy=>h7 y (.inl hy)),key h2 (by simp) (fun y hy=>h7 y (.inr (.inl hy))),All2.mono (fun _ _ ⟨u,k1,k2,k3⟩=>⟨u,k1,key k2 (by simp) k3,k3⟩) h3,
  key h4 (by simp) (fun y hy=>h7 y (.inr (.inr (.inl hy)))),All2.mono (fun _ _ ⟨u,k1,k2,k3⟩=>⟨u,k1,key k2 (by simp) k3,k3⟩) h5,key h6 (by simp) (fun y hy=>h7 y (.inr (.inr (.inr hy)))),h7,h8⟩
theorem FarP.st {own:Bool} {B:Nat} {H:Hp} {v:AV} {s:Sr} {P:AV->List (List AV)->List (List AV)->Prop} (h:FarP own P B H v s):St H v s:=by
 obtain⟨a,b,c,d,lr,sr,e,h1,h2,h3,h4,h5,h6,h7,h8⟩:=h
 exact⟨a,b,c,d,lr,sr,e,h1.rows,h2.rows,All2.mono (fun _ _ ⟨u,k1,k2,k3⟩=>⟨u,k1,k2.rows⟩) h3,h4.rows,All2.mono (fun _ _ ⟨u,k1,k2,k3⟩=>⟨u,k1,k2.rows,fun _ _ h=>h⟩) h5,h6.rows⟩
end
theorem LvRow.own {H:Hp} {row:List AV} {es:List Ent} {B:Nat} (h:LvO B H row es):LvRow H row es:=by
 obtain⟨u,h1,h2,h3⟩:=h
 exact⟨u,h1,h2.rows⟩
end Go.Proofs.YtgoeenodllmdpaaGreat.B

namespace Go.Proofs.YtgoeenodllmdpaaGreat.B
open Go.RowKit Go.Proofs
set_option linter.unusedVariables false
set_option linter.unusedSimpArgs false
variable {E:Env}
end Go.Proofs.YtgoeenodllmdpaaGreat.B

namespace Go.Proofs.YtgoeenodllmdpaaGreat.B
open Go.RowKit
set_option linter.unusedVariables false
set_option linter.unusedSimpArgs false
theorem runOk_nil:runOk []=true:=by decide
theorem runOk_one {e:Ent} (h:entOk e=true):runOk [e]=true:=runOk_of (List.pairwise_singleton _ _) (fun x hx=>by rw [List.mem_singleton.1 hx]; exact h) (by simp)
def lowB (p:Option Int) (t:Int):Bool:=match p with
 | none=>true
 | some q=>decide (q<t)
theorem lowB_iff (p:Option Int) (t:Int):lowB p t=true↔∀ q,p=some q->q<t:=by
 cases p with
 | none=>simp [lowB]
 | some q=>simp [lowB]
theorem asc1_cons (now:Int) (p:Option Int) (t:Int) (ts:List Int):asc1 now p (t :: ts)=(decide (0<=t)&&decide (t<=now)&&lowB p t&&asc1 now (some t) ts):=by cases p<;>rfl
theorem asc1_iff (now:Int):∀ (ts:List Int) (p:Option Int),asc1 now p ts=true↔(∀ t∈ts,0<=t/\t<=now/\∀ q,p=some q->q<t)/\ts.Pairwise (·<·)
 | [],p=>by simp [asc1]
 | t :: ts,p=>by
  rw [asc1_cons,Bool.and_eq_true,Bool.and_eq_true,Bool.and_eq_true,asc1_iff now ts,List.pairwise_cons]
  simp only [decide_eq_true_eq]
  rw [lowB_iff]
  constructor
  ·rintro ⟨⟨⟨h1,h2⟩,h3⟩,h4,h5⟩
   refine⟨fun x hx=>?_,fun x hx=>(h4 x hx).2.2 t rfl,h5⟩
   rcases List.mem_cons.1 hx with rfl | hx
   ·exact⟨h1,h2,h3⟩
   ·obtain⟨g1,g2,g3⟩:=h4 x hx
    exact⟨g1,g2,fun q hq=>by have:=h3 q hq; have:=g3 t rfl; omega⟩
  ·rintro ⟨h1,h2,h3⟩
   obtain⟨g1,g2,g3⟩:=h1 t (by simp)
   exact⟨⟨⟨g1,g2⟩,g3⟩,fun x hx=>⟨(h1 x (by simp [hx])).1,(h1 x (by simp [hx])).2.1,fun q hq=>by injection hq with hq; rw [<- hq]; exact h2 x hx⟩,h3⟩
theorem holdI_eq {s:Sr} (h:storeOk s=true):holdI s=holdR s:=by
 have ht:=(headI_parts (storeOk_ok h).1).2.2.2.2.2
 have hn:=(headI_parts (storeOk_ok h).1).2.2.2.2.1
 have ht':=ht
 simp only [timesR,Bool.and_eq_true,decide_eq_true_eq] at ht'
 obtain⟨h1,h2⟩:=ht'
 rw [asc1_iff] at h1
 obtain⟨h3,h4⟩:=h1
 have hin:s.time∈s.tms↔s.tms.getLast?=some s.time:=by
  constructor
  ·intro hm
   obtain⟨i,hi,he⟩:=List.mem_iff_getElem.1 hm
   rw [List.getLast?_eq_getElem?,List.getElem?_eq_getElem (by omega)]
   rcases Nat.lt_or_ge i (s.tms.length-1) with hlt | hge
   ·have:=List.pairwise_iff_getElem.1 h4 i (s.tms.length-1) hi (by omega) hlt
    have:=(h3 _ (List.getElem_mem (show s.tms.length-1<s.tms.length by omega))).2.1
    omega
   ·have:s.tms.length-1=i:=by omega
    simp only [this,he]
  ·intro hm
   exact List.mem_of_getLast? hm
 unfold holdI holdR
 rw [if_pos h]
 by_cases hm:s.time∈s.tms
 ·rw [if_pos hm,if_pos (hin.1 hm)]
  simp only
  rw [if_pos ht]
 ·rw [if_neg hm,if_neg (fun e=>hm (hin.2 e))]
  simp only
  have hlt:∀ t∈s.tms,t<s.time:=fun t hx=>by
   have:=(h3 t hx).2.1
   have:t≠s.time:=fun e=>hm (by rw [<- e]; exact hx)
   omega
  have hasc:asc1 s.time none (s.tms++[s.time])=true:=by
   rw [asc1_iff]
   refine⟨fun t hx=>?_,List.pairwise_append.2 ⟨h4,List.pairwise_singleton _ _,fun x hx y hy=>by rw [List.mem_singleton.1 hy]; exact hlt x hx⟩⟩
   rcases List.mem_append.1 hx with hx | hx
   ·exact⟨(h3 t hx).1,(h3 t hx).2.1,fun q hq=>by cases hq⟩
   ·rw [List.mem_singleton.1 hx]
    exact⟨hn.1,Int.le_refl _,fun q hq=>by cases hq⟩
  have e:timesR (s.tms++[s.time]) s.time=decide (s.tms.length+1<=3):=by
   unfold timesR
   rw [hasc]
   simp
  rw [e]
  simp only [decide_eq_true_eq]
end Go.Proofs.YtgoeenodllmdpaaGreat.B

namespace Go.Proofs.YtgoeenodllmdpaaGreat.B
open Go.RowKit Go.Proofs
set_option linter.unusedVariables false
set_option linter.unusedSimpArgs false
variable {E:Env}
end Go.Proofs.YtgoeenodllmdpaaGreat.B

namespace Go.Proofs.YtgoeenodllmdpaaGreat.B
open Go.RowKit Go.Proofs
set_option linter.unusedVariables false
set_option linter.unusedSimpArgs false
variable {E:Env}
end Go.Proofs.YtgoeenodllmdpaaGreat.B

namespace Go.Proofs.YtgoeenodllmdpaaGreat.B
open Go.RowKit Go.Proofs
set_option linter.unusedVariables false
set_option linter.unusedSimpArgs false
variable {E:Env}
theorem eqI_any (ts:List Int) (x:Int):ts.any (fun y=>decide (x=y))=decide (x∈ts):=by
 rw [Bool.eq_iff_iff,List.any_eq_true,decide_eq_true_iff]
 constructor
 ·rintro ⟨y,hy,h⟩
  rw [decide_eq_true_iff] at h
  rw [h]
  exact hy
 ·intro h
  exact⟨x,h,by simp⟩
theorem IndexI_ok (a:AV) (ts:List Int) (x:Int) (H:Hp) (ha:Ints H a ts) (hn:ts.length<1099511627776) :
  AC Tryz.prog E 213 [a,.int .i64 x] H (fun v H'=>v=.int .i64 (idxV (fun y=>decide (x=y)) ts)/\H'=H):=by
 refine AC_byp (tC_le tabJ_ok) h_slices_Index_Sint_int (by simp) ?_
 have l1:=ha.len
 simp [c_slices_Index_Sint_int,l1,ha.slc]
 refine W_for (fun m t H'=>∃ i,i+m=ts.length/\t 0=a/\t 1=.int .i64 x/\t 7=.int .i64 ts.length/\t 8=.int .i64 (i:Nat)/\H'=H/\∀ y∈ts.take i,decide (x=y)=false) ts.length ?_ (tC_mono AC_mono) ?_
 ·exact⟨0,by simp⟩
 rintro m t H' ⟨i,him,h0,h1,h7,h8,rfl,hI⟩
 simp [h0,h1,h7,h8]
 refine c_split (fun hq=>?_) (fun hq=>?_)<;>simp at hq
 ·have hw:=wrapN (i:=i) (by omega)
  obtain⟨o,i0,ob,rfl,a1,a2,a3⟩:=ha.get hq
  by_cases hx:x=ts[i]
  ·obtain⟨e1,e2⟩:=findIdx_first (p:=fun y=>decide (x=y)) hq (by simp [hx]) hI
   simp [h0,h1,h7,h8,hq,a1,a2,a3,hw,eq_true hx]
   simp only [idxV,e1,e2]
   simp
  ·simp [h0,h1,h7,h8,hq,a1,a2,a3,hw,hx]
   exact⟨m-1,by omega,i+1,by omega,by omega,fun y hy=>by simpa using take_snoc hq (by simp [hx]) hI y hy⟩
 ·have:i=ts.length:=by omega
  subst this
  rw [List.take_length] at hI
  have:ts.any (fun y=>decide (x=y))=false:=by
   rw [List.any_eq_false]
   intro x hx
   rw [hI x hx]
   simp
  simp only [idxV,this]
  simp
theorem ContainsI_ok (a:AV) (ts:List Int) (x:Int) (H:Hp) (ha:Ints H a ts) (hn:ts.length<1099511627776) :
  AC Tryz.prog E 165 [a,.int .i64 x] H (fun v H'=>v=.bool (decide (x∈ts))/\H'=H):=by
 refine AC_byp (tC_le tabJ_ok) h_slices_Contains_Sint_int (by simp) ?_
 simp [c_slices_Contains_Sint_int]
 refine cg_use (IndexI_ok a ts x H ha hn) ?_
 have:=idxV_pos (fun y=>decide (x=y)) ts
 rw [eqI_any,decide_eq_true_iff] at this
 simp [this]
end Go.Proofs.YtgoeenodllmdpaaGreat.B

namespace Go.Proofs.YtgoeenodllmdpaaGreat.B
open Go.RowKit
set_option linter.unusedVariables false
set_option linter.unusedSimpArgs false
structure Best (l:List Ent) (k:ByteArray) (t:Int) (e:Ent):Prop where
 mem:e∈l
 key:e.key=k
 le:e.time<=t
 max:∀ y∈l,y.key=k->y.time<=t->y.time<=e.time
theorem Best.congr {l l':List Ent} (h:∀ x,x∈l↔x∈l') {k:ByteArray} {t:Int} {e:Ent} (hb:Best l k t e):Best l' k t e:=⟨(h e).1 hb.mem,hb.key,hb.le,fun y hy=>hb.max y ((h y).2 hy)⟩
theorem best_of {l:List Ent} {k:ByteArray} {t:Int}:∀ {x:Ent},x∈l->x.key=k->x.time<=t->∃ e,Best l k t e/\x.time<=e.time:=by
 induction l with
 | nil=>intro x hx; cases hx
 | cons a l ih =>
  intro x hx hk ht
  by_cases ha:a.key=k/\a.time<=t
  ·by_cases hl:∃ z∈l,z.key=k/\z.time<=t
   ·obtain⟨z,hz,hzk,hzt⟩:=hl
    obtain⟨e,he,hze⟩:=ih hz hzk hzt
    by_cases hc:a.time<=e.time
    ·refine⟨e,⟨by simp [he.mem],he.key,he.le,fun y hy hyk hyt=>?_⟩,?_⟩
     ·rcases List.mem_cons.1 hy with rfl | hy
      ·exact hc
      ·exact he.max y hy hyk hyt
     ·rcases List.mem_cons.1 hx with rfl | hx
      ·exact hc
      ·exact he.max x hx hk ht
    ·refine⟨a,⟨by simp,ha.1,ha.2,fun y hy hyk hyt=>?_⟩,?_⟩
     ·rcases List.mem_cons.1 hy with rfl | hy
      ·exact Int.le_refl _
      ·have:=he.max y hy hyk hyt
       omega
     ·rcases List.mem_cons.1 hx with rfl | hx
      ·exact Int.le_refl _
      ·have:=he.max x hx hk ht
       omega
   ·have hno:∀ y∈l,y.key=k->y.time<=t->False:=fun y hy h1 h2=>hl ⟨y,hy,h1,h2⟩
    refine⟨a,⟨by simp,ha.1,ha.2,fun y hy hyk hyt=>?_⟩,?_⟩
    ·rcases List.mem_cons.1 hy with rfl | hy
     ·exact Int.le_refl _
     ·exact (hno y hy hyk hyt).elim
    ·rcases List.mem_cons.1 hx with rfl | hx
     ·exact Int.le_refl _
     ·exact (hno x hx hk ht).elim
  ·rcases List.mem_cons.1 hx with rfl | hx
   ·exact absurd ⟨hk,ht⟩ ha
   ·obtain⟨e,he,hxe⟩:=ih hx hk ht
    refine⟨e,⟨by simp [he.mem],he.key,he.le,fun y hy hyk hyt=>?_⟩,hxe⟩
    rcases List.mem_cons.1 hy with rfl | hy
    ·exact absurd ⟨hyk,hyt⟩ ha
    ·exact he.max y hy hyk hyt
def Same (t:Int) (l l':List Ent):Prop:=∀ k e,Best l k t e↔Best l' k t e
def Seen (t:Int) (l l':List Ent):Prop:=∀ k e,e.gone=false->(Best l k t e↔Best l' k t e)
theorem Same.seen {t:Int} {l l':List Ent} (h:Same t l l'):Seen t l l':=fun k e _=>h k e
theorem Same.refl (t:Int) (l:List Ent):Same t l l:=fun _ _=>Iff.rfl
theorem Same.trans {t:Int} {a b c:List Ent} (h:Same t a b) (k:Same t b c):Same t a c:=fun x e=>(h x e).trans (k x e)
theorem Seen.trans {t:Int} {a b c:List Ent} (h:Seen t a b) (k:Seen t b c):Seen t a c:=fun x e g=>(h x e g).trans (k x e g)
theorem same_mem {t:Int} {l l':List Ent} (h:∀ x,x∈l↔x∈l'):Same t l l':=fun k e=>⟨Best.congr h,Best.congr (fun x=>(h x).symm)⟩
theorem same_sub {t:Int} {l l':List Ent} (hs:∀ x∈l',x∈l) (hb:∀ k e,Best l k t e->e∈l'):Same t l l':=fun k e=>by
 constructor
 ·intro h
  exact⟨hb k e h,h.key,h.le,fun y hy=>h.max y (hs y hy)⟩
 ·intro h
  refine⟨hs e h.mem,h.key,h.le,fun y hy hyk hyt=>?_⟩
  obtain⟨g,hg,hyg⟩:=best_of hy hyk hyt
  have:=h.max g (hb k g hg) hg.key hg.le
  omega
def Newer (a b:List Ent):Prop:=∀ x∈a,∀ y∈b,x.key=y.key->y.time<x.time
theorem best_app {a b:List Ent} (h:Newer a b) {k:ByteArray} {t:Int} {e:Ent}:Best (a++b) k t e↔Best a k t e\/((∀ x∈a,x.key=k->¬x.time<=t)/\Best b k t e):=by
 constructor
 ·intro hb
  by_cases hx:∃ x∈a,x.key=k/\x.time<=t
  ·obtain⟨x,hxa,hxk,hxt⟩:=hx
   have hm:=hb.max x (by simp [hxa]) hxk hxt
   rcases List.mem_append.1 hb.mem with hea | heb
   ·exact .inl ⟨hea,hb.key,hb.le,fun y hy=>hb.max y (by simp [hy])⟩
   ·have:=h x hxa e heb (hxk.trans hb.key.symm)
    omega
  ·have hno:∀ x∈a,x.key=k->¬x.time<=t:=fun x h1 h2 h3=>hx ⟨x,h1,h2,h3⟩
   rcases List.mem_append.1 hb.mem with hea | heb
   ·exact absurd hb.le (hno e hea hb.key)
   ·exact .inr ⟨hno,heb,hb.key,hb.le,fun y hy=>hb.max y (by simp [hy])⟩
 ·rintro (hb | ⟨hno,hb⟩)
  ·refine⟨by simp [hb.mem],hb.key,hb.le,fun y hy hyk hyt=>?_⟩
   rcases List.mem_append.1 hy with hy | hy
   ·exact hb.max y hy hyk hyt
   ·have:=h e hb.mem y hy (hb.key.trans hyk.symm)
    omega
  ·refine⟨by simp [hb.mem],hb.key,hb.le,fun y hy hyk hyt=>?_⟩
   rcases List.mem_append.1 hy with hy | hy
   ·exact absurd hyt (hno y hy hyk)
   ·exact hb.max y hy hyk hyt
theorem Seen.left {t:Int} {a b b':List Ent} (h:Newer a b) (h':Newer a b') (hs:Seen t b b'):Seen t (a++b) (a++b'):=fun k e g=>by
 rw [best_app h,best_app h',hs k e g]
theorem Same.right {t:Int} {a a' b:List Ent} (h:Newer a b) (h':Newer a' b) (hs:Same t a a'):Same t (a++b) (a'++b):=fun k e=>by
 rw [best_app h,best_app h',hs k e]
 have:(∀ x∈a,x.key=k->¬x.time<=t)↔(∀ x∈a',x.key=k->¬x.time<=t):=by
  constructor
  ·intro hn x hx hk ht
   obtain⟨g,hg,_⟩:=best_of hx hk ht
   exact hn g ((hs k g).2 hg).mem hg.key hg.le
  ·intro hn x hx hk ht
   obtain⟨g,hg,_⟩:=best_of hx hk ht
   exact hn g ((hs k g).1 hg).mem hg.key hg.le
 rw [this]
def Look (ts:List Int) (r:List Ent) (t:Int):Prop:=t∈ts\/∀ x∈r,x.time<=t
theorem trim1_best {ts:List Int} {t:Int}:∀ {r:List Ent} {p:Option Ent},(∀ q,p=some q->∀ y∈r,ahead q y=true)->r.Pairwise (fun x y=>ahead x y=true)->(t∈ts\/((∀ x∈r,x.time<=t)/\∀ q,p=some q->q.time<=t)) ->
  ∀ k e,Best r k t e->(∀ q,p=some q->q.key=k->t<q.time)->e∈trim1 ts p r
 | [],p,_,_,_,k,e,hb,_=>by cases hb.mem
 | a :: r,p,hp,hs,hlook,k,e,hb,hpq=>by
  obtain⟨h1,h2⟩:=List.pairwise_cons.1 hs
  have hlook2:t∈ts\/((∀ x∈r,x.time<=t)/\∀ q,some a=some q->q.time<=t):=hlook.imp id (fun h=>⟨fun x hx=>h.1 x (by simp [hx]),fun q hq=>by injection hq with hq; rw [<- hq]; exact h.1 a (by simp)⟩)
  rw [trim1]
  have rec':e∈r->e∈trim1 ts (some a) r:=fun her=>by
   refine trim1_best (fun q hq y hy=>by injection hq with hq; rw [<- hq]; exact h1 y hy) h2 hlook2 k e ⟨her,hb.key,hb.le,fun y hy=>hb.max y (by simp [hy])⟩ (fun q hq hqk=>?_)
   injection hq with hq
   subst hq
   rcases Int.lt_or_le t a.time with hlt | hle
   ·exact hlt
   ·have:=hb.max a (by simp) hqk hle
    have h3:=h1 e her
    rw [ahead_iff,hqk,hb.key,sless_irrefl] at h3
    rcases h3 with h3 | h3
    ·cases h3
    ·omega
  rcases List.mem_cons.1 hb.mem with he | he
  ·subst he
   have hk:seenB ts p e=true:=by
    unfold seenB
    cases p with
    | none=>rfl
    | some q =>
     simp only [Bool.or_eq_true,Bool.not_eq_true',decide_eq_false_iff_not]
     by_cases hqk:q.key=e.key
     ·right
      have hqt:=hpq q rfl (hqk.trans hb.key)
      rcases hlook with hl | hl
      ·rw [List.any_eq_true]
       exact⟨t,hl,by simp only [Bool.and_eq_true,decide_eq_true_eq]; exact⟨hb.le,hqt⟩⟩
      ·have:=hl.2 q rfl
       omega
     ·exact .inl hqk
   rw [if_pos hk]
   simp
  ·split
   ·exact List.mem_cons_of_mem _ (rec' he)
   ·exact rec' he
theorem trim1_mem {ts:List Int} {p:Option Ent} {r:List Ent} {x:Ent} (h:x∈trim1 ts p r):x∈r:=(trim1_sub ts p r).subset h
theorem trim1_same {ts:List Int} {t:Int} {r:List Ent} (hr:r.Pairwise (fun x y=>ahead x y=true)) (hl:Look ts r t):Same t r (trim1 ts none r) :=
 same_sub (fun x hx=>trim1_mem hx) (fun k e hb=>trim1_best (fun q hq=>by cases hq) hr (hl.imp id (fun h=>⟨h,fun q hq=>by cases hq⟩)) k e hb (fun q hq=>by cases hq))
theorem drop1_mem:∀ {r:List Ent} {x:Ent},r.Pairwise (fun x y=>ahead x y=true)->x∈r->x∈drop1 r\/(x.gone=true/\∀ y∈r,y.key=x.key->x.time<=y.time)
 | [],x,_,h=>by cases h
 | a :: r,x,hs,h=>by
  obtain⟨h1,h2⟩:=List.pairwise_cons.1 hs
  rw [drop1]
  rcases List.mem_cons.1 h with rfl | hx
  ·by_cases hk:(!x.gone||!lastB x r)=true
   ·rw [if_pos hk]
    exact .inl (by simp)
   ·right
    simp only [Bool.or_eq_true,Bool.not_eq_true',not_or,Bool.not_eq_false] at hk
    refine⟨hk.1,fun y hy hyk=>?_⟩
    rcases List.mem_cons.1 hy with rfl | hy
    ·exact Int.le_refl _
    ·exfalso
     have hl:=hk.2
     cases r with
     | nil=>cases hy
     | cons f fs =>
      simp only [lastB,Bool.not_eq_true',decide_eq_false_iff_not] at hl
      have hxf:=h1 f (by simp)
      have hxy:=h1 y hy
      have hfx:f.key≠x.key:=hl
      rw [ahead_iff] at hxf
      rcases hxf with hxf | hxf
      ·rcases List.mem_cons.1 hy with rfl | hy
       ·exact hfx hyk
       ·have hfy:=(List.pairwise_cons.1 h2).1 y hy
        rw [ahead_iff,hyk] at hfy
        rcases hfy with hfy | hfy
        ·have:=sless_asymm hxf
         rw [hfy] at this
         cases this
        ·exact hfx hfy.1
      ·exact hfx hxf.1.symm
  ·rcases drop1_mem h2 hx with hd | ⟨hg,hm⟩
   ·left
    split
    ·exact List.mem_cons_of_mem _ hd
    ·exact hd
   ·right
    refine⟨hg,fun y hy hyk=>?_⟩
    rcases List.mem_cons.1 hy with rfl | hy
    ·have:=h1 x hx
     rw [ahead_iff,hyk,sless_irrefl] at this
     rcases this with h | h
     ·cases h
     ·omega
    ·exact hm y hy hyk
theorem drop1_seen {t:Int} {r:List Ent} (hr:r.Pairwise (fun x y=>ahead x y=true)):Seen t r (drop1 r):=fun k e g=>by
 have hsub:∀ x∈drop1 r,x∈r:=fun x hx=>(drop1_sub r).subset hx
 constructor
 ·intro h
  rcases drop1_mem hr h.mem with hd | ⟨hg,_⟩
  ·exact⟨hd,h.key,h.le,fun y hy=>h.max y (hsub y hy)⟩
  ·rw [hg] at g; cases g
 ·intro h
  refine⟨hsub e h.mem,h.key,h.le,fun y hy hyk hyt=>?_⟩
  rcases drop1_mem hr hy with hd | ⟨_,hm⟩
  ·exact h.max y hd hyk hyt
  ·exact hm e (hsub e h.mem) (h.key.trans hyk.symm)
theorem trimR_seen {ts:List Int} {t:Int} {r:List Ent} (b:Bool) (hr:r.Pairwise (fun x y=>ahead x y=true)) (hl:Look ts r t):Seen t r (trimR r ts b):=by
 unfold trimR
 split
 ·exact (trim1_same hr hl).seen.trans (drop1_seen (hr.sublist (trim1_sub ts none r)))
 ·exact (trim1_same hr hl).seen
theorem trimR_same {ts:List Int} {t:Int} {r:List Ent} (hr:r.Pairwise (fun x y=>ahead x y=true)) (hl:Look ts r t):Same t r (trimR r ts false):=by
 unfold trimR
 rw [if_neg (by decide)]
 exact trim1_same hr hl
end Go.Proofs.YtgoeenodllmdpaaGreat.B

namespace Go.Proofs.YtgoeenodllmdpaaGreat.B
open Go.RowKit
set_option linter.unusedVariables false
set_option linter.unusedSimpArgs false
structure LvOk (keep:Int) (i:Nat) (l:List Ent) (v:Sv):Prop where
 run:runOk l=true
 len:l.length<=sizeL i
 sv:sieveO (keysR l) keep=some v
theorem runOk_sub {r l:List Ent} (h:runOk r=true) (hs:l.Sublist r):runOk l=true:=by
 obtain⟨h1,h2,h3⟩:=runOk_pair h
 exact runOk_of (h1.sublist hs) (fun e he=>h2 e (hs.subset he)) (Nat.le_trans hs.length_le h3)
theorem setR_some {s x:Sr} {i:Nat} {r:List Ent} (h:setR s i r=some x):∃ v,x={ s with lev:=s.lev.set i r,sv:=s.sv.set i v }/\sieveO (keysR r) s.keep=some v/\r.length<=sizeL i:=by
 unfold setR at h
 split at h
 ·cases h
 ·rename_i v hv
  split at h
  ·rename_i hl
   injection h with h
   exact⟨v,h.symm,hv,hl⟩
  ·cases h
theorem Newer.sub {a b a' b':List Ent} (h:Newer a b) (ha:∀ x∈a',x∈a) (hb:∀ x∈b',x∈b):Newer a' b':=fun x hx y hy=>h x (ha x hx) y (hb y hy)
theorem Newer.app {a b c:List Ent} (h:Newer a b) (k:Newer a c):Newer a (b++c):=fun x hx y hy=>(List.mem_append.1 hy).elim (h x hx y) (k x hx y)
theorem Newer.app_left {a b c:List Ent} (h:Newer a c) (k:Newer b c):Newer (a++b) c:=fun x hx y hy=>(List.mem_append.1 hx).elim (fun h'=>h x h' y hy) (fun h'=>k x h' y hy)
theorem fine_of {a b:List Ent} (ha:runOk a=true) (hb:runOk b=true) (hn:Newer a b) (hl:a.length+b.length<=40):Fine a b:=⟨ha,hb,hn,hl⟩
theorem joinL_iff (a b:List Ent) (x:Ent):x∈joinL a b↔x∈a++b:=(joinL_perm b a).mem_iff
theorem join_trim {ts:List Int} {t:Int} {a b:List Ent} (bot:Bool) (h:Fine a b) (hl:Look ts (a++b) t):runOk (trimR (joinL a b) ts bot)=true/\(∀ x∈trimR (joinL a b) ts bot,x∈a++b)/\Seen t (a++b) (trimR (joinL a b) ts bot)/\(bot=false->Same t (a++b) (trimR (joinL a b) ts bot)):=by
 have hr:=h.run
 have hp:=(runOk_pair hr).1
 have hl':Look ts (joinL a b) t:=hl.imp id (fun g x hx=>g x ((joinL_iff a b x).1 hx))
 have hs:Same t (a++b) (joinL a b):=same_mem (fun x=>(joinL_iff a b x).symm)
 refine⟨runOk_sub hr (trimR_sub _ _ _),fun x hx=>(joinL_iff a b x).1 ((trimR_sub _ _ _).subset hx),hs.seen.trans (trimR_seen bot hp hl'),fun hb=>?_⟩
 subst hb
 exact hs.trans (trimR_same hp hl')
theorem Look.sub {ts:List Int} {t:Int} {r r':List Ent} (h:Look ts r t) (hs:∀ x∈r',x∈r):Look ts r' t:=h.imp id (fun g x hx=>g x (hs x hx))
section
variable {s x:Sr} {a b c r:List Ent} {u v w:Sv}
theorem into0 (hl:s.lev=[a,b,c]) (hs:s.sv=[u,v,w]) (hf:Fine r c) (hx:intoR 0 s r=some x) :
  ∃ c' w',x={ s with lev:=[a,b,c'],sv:=[u,v,w'] }/\LvOk s.keep 2 c' w'/\(∀ y∈c',y∈r++c)/\∀ t,Look s.tms (r++c) t->Seen t (r++c) c':=by
 rw [intoR,hl] at hx
 obtain⟨w',rfl,h2,h3⟩:=setR_some hx
 have hj:=fun t=>join_trim (ts:=s.tms) (t:=t) true hf
 refine⟨_,w',by rw [hl,hs]; rfl,⟨?_,h3,h2⟩,?_,fun t ht=>(hj t ht).2.2.1⟩
 ·exact runOk_sub hf.run (trimR_sub _ _ _)
 ·exact fun y hy=>(joinL_iff _ _ _).1 ((trimR_sub _ _ _).subset hy)
theorem into1 (hl:s.lev=[a,b,c]) (hs:s.sv=[u,v,w]) (hf:Fine r b) (hf2:Fine b c) (hrc:Newer r c) (hc:LvOk s.keep 2 c w) (hx:intoR 1 s r=some x) :
  ∃ b' c' v' w',x={ s with lev:=[a,b',c'],sv:=[u,v',w'] }/\LvOk s.keep 1 b' v'/\LvOk s.keep 2 c' w'/\Newer b' c'/\(∀ y∈b',y∈r++b)/\(∀ y∈b'++c',y∈r++(b++c))/\∀ t,Look s.tms (r++(b++c)) t->Seen t (r++(b++c)) (b'++c'):=by
 have hj:=fun t=>join_trim (ts:=s.tms) (t:=t) false hf
 have hsub:∀ y∈trimR (joinL r b) s.tms false,y∈r++b:=fun y hy=>(joinL_iff _ _ _).1 ((trimR_sub _ _ _).subset hy)
 have hrbc:Newer (r++b) c:=hrc.app_left hf2.new
 rw [intoR,hl] at hx
 simp only [List.getD_cons_succ,List.getD_cons_zero] at hx
 cases h1:setR s 1 (trimR (joinL r b) s.tms false) with
 | some z =>
  have hx:some z=some x:=by
   rw [<- hx,show (1-0:Nat)=1 from rfl]
   simp only [List.getD_cons_succ,List.getD_cons_zero,h1]
  injection hx with hx
  subst hx
  obtain⟨v',rfl,h2,h3⟩:=setR_some h1
  refine⟨trimR (joinL r b) s.tms false,c,v',w,by rw [hl,hs]; rfl,⟨runOk_sub hf.run (trimR_sub _ _ _),h3,h2⟩,hc,hrbc.sub hsub (fun _ h=>h),hsub,fun y hy=>?_,fun t ht=>?_⟩
  ·rcases List.mem_append.1 hy with h | h
   ·rw [<- List.append_assoc]
    exact List.mem_append_left _ (hsub y h)
   ·simp [h]
  ·have ht':Look s.tms (r++b) t:=ht.sub (fun y hy=>by rw [<- List.append_assoc]; exact List.mem_append_left _ hy)
   rw [<- List.append_assoc]
   exact (((hj t ht').2.2.2 rfl).right hrbc (hrbc.sub hsub (fun _ h=>h))).seen
 | none =>
  have hx:(match intoR 0 s b with | none=>none | some x=>setR x 1 (trimR r x.tms false))=some x:=by
   rw [<- hx,show (1-0:Nat)=1 from rfl]
   simp only [List.getD_cons_succ,List.getD_cons_zero,h1]
   rfl
  cases h0:intoR 0 s b with
  | none=>rw [h0] at hx; cases hx
  | some z =>
   rw [h0] at hx
   obtain⟨c',w',rfl,k1,k2,k3⟩:=into0 hl hs hf2 h0
   simp only at hx
   obtain⟨v',rfl,h2,h3⟩:=setR_some hx
   have hsubr:∀ y∈trimR r s.tms false,y∈r:=fun y hy=>(trimR_sub _ _ _).subset hy
   have hrn:Newer r (b++c):=Newer.app hf.new hrc
   have hn':Newer r c':=hrn.sub (fun _ h=>h) k2
   refine⟨trimR r s.tms false,c',v',w',by rfl,⟨runOk_sub hf.ra (trimR_sub _ _ _),h3,h2⟩,k1,hn'.sub hsubr (fun _ h=>h),fun y hy=>List.mem_append_left _ (hsubr y hy),fun y hy=>?_,fun t ht=>?_⟩
   ·rcases List.mem_append.1 hy with h | h
    ·exact List.mem_append_left _ (hsubr y h)
    ·exact List.mem_append_right _ (k2 y h)
   ·have t1:Look s.tms r t:=ht.sub (fun y hy=>List.mem_append_left _ hy)
    have t2:Look s.tms (b++c) t:=ht.sub (fun y hy=>List.mem_append_right _ hy)
    have e1:Seen t (r++(b++c)) (r++c'):=Seen.left hrn hn' (k3 t t2)
    have e2:Same t (r++c') (trimR r s.tms false++c'):=Same.right hn' (hn'.sub hsubr (fun _ h=>h)) (trimR_same (runOk_pair hf.ra).1 t1)
    exact e1.trans e2.seen
theorem into2 (hl:s.lev=[a,b,c]) (hs:s.sv=[u,v,w]) (hf:Fine r a) (hf1:Fine a b) (hf2:Fine b c) (hrb:Newer r b) (hrc:Newer r c) (hac:Newer a c) (hb:LvOk s.keep 1 b v) (hc:LvOk s.keep 2 c w) (hx:intoR 2 s r=some x) :
  ∃ a' b' c' u' v' w',x={ s with lev:=[a',b',c'],sv:=[u',v',w'] }/\LvOk s.keep 0 a' u'/\LvOk s.keep 1 b' v'/\LvOk s.keep 2 c' w'/\Newer a' (b'++c')/\Newer b' c'/\(∀ y∈a'++(b'++c'),y∈r++(a++(b++c)))/\∀ t,Look s.tms (r++(a++(b++c))) t->Seen t (r++(a++(b++c))) (a'++(b'++c')):=by
 have hj:=fun t=>join_trim (ts:=s.tms) (t:=t) false hf
 have hsub:∀ y∈trimR (joinL r a) s.tms false,y∈r++a:=fun y hy=>(joinL_iff _ _ _).1 ((trimR_sub _ _ _).subset hy)
 have hbc:Newer b c:=hf2.new
 have hra:Newer (r++a) (b++c):=(Newer.app hrb hrc).app_left (Newer.app hf1.new hac)
 rw [intoR,hl] at hx
 cases h1:setR s 0 (trimR (joinL r a) s.tms false) with
 | some z =>
  have hx:some z=some x:=by
   rw [<- hx,show (1-1:Nat)=0 from rfl]
   simp only [List.getD_cons_zero,h1]
  injection hx with hx
  subst hx
  obtain⟨u',rfl,h2,h3⟩:=setR_some h1
  refine⟨trimR (joinL r a) s.tms false,b,c,u',v,w,by rw [hl,hs]; rfl,⟨runOk_sub hf.run (trimR_sub _ _ _),h3,h2⟩,hb,hc,hra.sub hsub (fun _ h=>h),hbc,fun y hy=>?_,fun t ht=>?_⟩
  ·rcases List.mem_append.1 hy with h | h
   ·rw [<- List.append_assoc]
    exact List.mem_append_left _ (hsub y h)
   ·exact List.mem_append_right _ (List.mem_append_right _ h)
  ·have ht':Look s.tms (r++a) t:=ht.sub (fun y hy=>by rw [<- List.append_assoc]; exact List.mem_append_left _ hy)
   rw [<- List.append_assoc]
   exact (((hj t ht').2.2.2 rfl).right hra (hra.sub hsub (fun _ h=>h))).seen
 | none =>
  have hx:(match intoR 1 s a with | none=>none | some x=>setR x 0 (trimR r x.tms false))=some x:=by
   rw [<- hx,show (1-1:Nat)=0 from rfl]
   simp only [List.getD_cons_zero,h1]
   rfl
  cases h0:intoR 1 s a with
  | none=>rw [h0] at hx; cases hx
  | some z =>
   rw [h0] at hx
   obtain⟨b',c',v',w',rfl,k1,k2,k3,-,k4,k5⟩:=into1 hl hs hf1 hf2 hac hc h0
   simp only at hx
   obtain⟨u',rfl,h2,h3⟩:=setR_some hx
   have hsubr:∀ y∈trimR r s.tms false,y∈r:=fun y hy=>(trimR_sub _ _ _).subset hy
   have hrn:Newer r (a++(b++c)):=Newer.app hf.new (Newer.app hrb hrc)
   have hn':Newer r (b'++c'):=hrn.sub (fun _ h=>h) k4
   refine⟨trimR r s.tms false,b',c',u',v',w',by rfl,⟨runOk_sub hf.ra (trimR_sub _ _ _),h3,h2⟩,k1,k2,hn'.sub hsubr (fun _ h=>h),k3,fun y hy=>?_,fun t ht=>?_⟩
   ·rcases List.mem_append.1 hy with h | h
    ·exact List.mem_append_left _ (hsubr y h)
    ·exact List.mem_append_right _ (k4 y h)
   ·have t1:Look s.tms r t:=ht.sub (fun y hy=>List.mem_append_left _ hy)
    have t2:Look s.tms (a++(b++c)) t:=ht.sub (fun y hy=>List.mem_append_right _ hy)
    have e1:Seen t (r++(a++(b++c))) (r++(b'++c')):=Seen.left hrn hn' (k5 t t2)
    have e2:Same t (r++(b'++c')) (trimR r s.tms false++(b'++c')):=Same.right hn' (hn'.sub hsubr (fun _ h=>h)) (trimR_same (runOk_pair hf.ra).1 t1)
    exact e1.trans e2.seen
end
end Go.Proofs.YtgoeenodllmdpaaGreat.B

namespace Go.Proofs.YtgoeenodllmdpaaGreat.B
open Go.RowKit
set_option linter.unusedVariables false
set_option linter.unusedSimpArgs false
def entsR (s:Sr):List Ent:=s.top++s.lev.flatten
structure V (s:Sr) (a b c:List Ent) (u v w:Sv):Prop where
 lev:s.lev=[a,b,c]
 sv:s.sv=[u,v,w]
 keep:0<=s.keep/\s.keep<=5
 time:0<=s.time/\s.time<=999
 tms:timesR s.tms s.time=true
 top:runOk s.top=true
 top4:s.top.length<=4
 la:LvOk s.keep 0 a u
 lb:LvOk s.keep 1 b v
 lc:LvOk s.keep 2 c w
 ta:Newer s.top (a++(b++c))
 ab:Newer a (b++c)
 bc:Newer b c
 late:∀ e∈s.top++(a++(b++c)),e.time<=s.time
def Val (s:Sr):Prop:=∃ a b c u v w,V s a b c u v w
theorem entsR_of {s:Sr} {a b c:List Ent} (h:s.lev=[a,b,c]):entsR s=s.top++(a++(b++c)):=by
 unfold entsR
 rw [h]
 simp
section
variable {s x:Sr} {a b c:List Ent} {u v w:Sv}
theorem V.ok (h:V s a b c u v w):storeOk s=true:=by
 rw [<- storeI_eq]
 obtain⟨lev,sv,keep,time,tms,top,top4,la,lb,lc,ta,ab,bc,late⟩:=h
 have hl:∀ (up:List Ent),(∀ e∈up,e∈s.top++(a++(b++c)))->lateI s.time up=false:=fun up hu=>(lateI_iff _ _).2 (fun e he=>late e (hu e he))
 simp only [storeI,headI,okI,aboveI,lev,sv,List.getD_cons_zero,List.getD_cons_succ,List.take_zero,List.take_succ_cons,List.flatten_nil,List.flatten_cons,List.append_nil,List.length_cons,List.length_nil,Bool.and_eq_true,decide_eq_true_eq,Bool.not_eq_true']
 refine⟨⟨⟨⟨⟨⟨⟨⟨trivial,trivial⟩,top⟩,top4⟩,time⟩,tms⟩,⟨⟨⟨la.run,la.len⟩,la.sv⟩,?_⟩,?_⟩,⟨⟨⟨lb.run,lb.len⟩,lb.sv⟩,?_⟩,?_⟩,⟨⟨⟨lc.run,lc.len⟩,lc.sv⟩,?_⟩,?_⟩
 ·exact (newerI_iff _ _).2 (fun x hx y hy=>ta x hx y (by simp [hy]))
 ·exact hl _ (fun e he=>by simp [he])
 ·refine (newerI_iff _ _).2 (fun x hx y hy=>?_)
  rcases List.mem_append.1 hx with h | h
  ·exact ta x h y (by simp [hy])
  ·exact ab x h y (by simp [hy])
 ·exact hl _ (fun e he=>by rcases List.mem_append.1 he with h | h<;>simp [h])
 ·refine (newerI_iff _ _).2 (fun x hx y hy=>?_)
  rcases List.mem_append.1 hx with h | h
  ·exact ta x h y (by simp [hy])
  ·rcases List.mem_append.1 h with h | h
   ·exact ab x h y (by simp [hy])
   ·exact bc x h y hy
 ·refine hl _ (fun e he=>?_)
  rcases List.mem_append.1 he with h | h
  ·simp [h]
  ·rcases List.mem_append.1 h with h | h<;>simp [h]
theorem V.fine (h:V s a b c u v w):Fine s.top a/\Fine a b/\Fine b c:=by
 have:=store_fine h.ok
 rw [h.lev] at this
 exact this
def Found (s x:Sr):Prop:=∀ t,(t∈s.tms\/t=s.time)->Seen t (entsR s) (entsR x)
theorem V.look (h:V s a b c u v w) {t:Int} (ht:t∈s.tms\/t=s.time) {l:List Ent} (hl:∀ x∈l,x∈s.top++(a++(b++c))):Look s.tms l t :=
 ht.imp id (fun e x hx=>by rw [e]; exact h.late x (hl x hx))
theorem down_V (h:V s a b c u v w) (hx:downR s=some x):Val x/\x.top=[]/\x.time=s.time/\x.keep=s.keep/\x.tms=s.tms/\(∀ e∈entsR x,e∈entsR s)/\Found s x:=by
 obtain⟨f0,f1,f2⟩:=h.fine
 have hx':intoR 2 { s with top:=[] } s.top=some x:=hx
 have tb:Newer s.top b:=h.ta.sub (fun _ h=>h) (fun y hy=>by simp [hy])
 have tc:Newer s.top c:=h.ta.sub (fun _ h=>h) (fun y hy=>by simp [hy])
 have ac:Newer a c:=h.ab.sub (fun _ h=>h) (fun y hy=>by simp [hy])
 obtain⟨a',b',c',u',v',w',rfl,k1,k2,k3,k4,k5,k6,k7⟩:=into2 (s:={ s with top:=[] }) h.lev h.sv f0 f1 f2 tb tc ac h.lb h.lc hx'
 have hen:entsR { s with top:=[],lev:=[a',b',c'],sv:=[u',v',w'] }=a'++(b'++c'):=by
  rw [entsR_of rfl]
  rfl
 have hes:=entsR_of h.lev
 refine⟨⟨a',b',c',u',v',w',rfl,rfl,h.keep,h.time,h.tms,runOk_nil,Nat.zero_le _,k1,k2,k3,fun x hx=>(by cases hx),k4,k5,fun e he=>h.late e (k6 e (by simpa using he))⟩,rfl,rfl,rfl,rfl,fun e he=>?_,fun t ht=>?_⟩
 ·rw [hen] at he
  rw [hes]
  exact k6 e he
 ·rw [hen,hes]
  exact k7 t (h.look ht (fun _ h=>h))
theorem hold_V (h:V s a b c u v w) (hx:holdR s=some x):V x a b c u v w/\x.top=s.top/\x.lev=s.lev/\x.time=s.time/\x.keep=s.keep/\(x.tms=s.tms\/x.tms=s.tms++[s.time])/\s.time∈x.tms:=by
 have ho:=h.ok
 rw [<- holdI_eq ho] at hx
 have hx2:=hx
 rw [holdI_eq ho] at hx2
 unfold holdI at hx
 by_cases hm:s.time∈s.tms
 ·rw [if_pos hm] at hx
  injection hx with hx
  subst hx
  exact⟨h,rfl,rfl,rfl,rfl,.inl rfl,hm⟩
 ·rw [if_neg hm] at hx
  split at hx
  ·injection hx with hx
   subst hx
   have hg:¬s.tms.getLast?=some s.time:=fun e=>hm (List.mem_of_getLast? e)
   have ht:timesR (s.tms++[s.time]) s.time=true:=by
    cases hc:timesR (s.tms++[s.time]) s.time with
    | true=>rfl
    | false =>
     unfold holdR at hx2
     rw [if_pos ho,if_neg hg] at hx2
     simp only at hx2
     rw [hc,if_neg (by decide)] at hx2
     cases hx2
   exact⟨⟨h.lev,h.sv,h.keep,h.time,ht,h.top,h.top4,h.la,h.lb,h.lc,h.ta,h.ab,h.bc,h.late⟩,rfl,rfl,rfl,rfl,.inr rfl,by simp⟩
  ·cases hx
theorem free_V {n:Int} (h:V s a b c u v w) (hx:freeR s n=some x):V x a b c u v w/\x.top=s.top/\x.lev=s.lev/\x.time=s.time/\x.keep=s.keep/\x.tms=s.tms.filter (fun y=>!decide (y=n)):=by
 unfold freeR at hx
 rw [if_pos h.ok] at hx
 simp only at hx
 split at hx
 ·cases hx
 ·injection hx with hx
  subst hx
  have ht:timesR (s.tms.filter (fun y=>!decide (y=n))) s.time=true:=by
   have:=h.tms
   simp only [timesR,Bool.and_eq_true,decide_eq_true_eq] at this ⊢
   rw [asc1_iff] at this ⊢
   refine⟨⟨fun t ht=>?_,this.1.2.sublist List.filter_sublist⟩,Nat.le_trans (List.length_filter_le _ _) this.2⟩
   exact this.1.1 t (List.mem_filter.1 ht).1
  exact⟨⟨h.lev,h.sv,h.keep,h.time,ht,h.top,h.top4,h.la,h.lb,h.lc,h.ta,h.ab,h.bc,h.late⟩,rfl,rfl,rfl,rfl,rfl⟩
theorem join_V {l:Int} (h:V s a b c u v w) (hx:joinR s l=some x):Val x/\x.top=s.top/\x.time=s.time/\x.keep=s.keep/\x.tms=s.tms/\(∀ e∈entsR x,e∈entsR s)/\Found s x:=by
 obtain⟨f0,f1,f2⟩:=h.fine
 have hes:=entsR_of h.lev
 unfold joinR at hx
 split at hx
 case isFalse=>cases hx
 rename_i hl
 obtain⟨i,hi,rfl⟩:∃ i:Nat,i<=1/\l=i:=⟨l.toNat,by omega,by omega⟩
 rw [show ((i:Nat):Int).toNat=i by omega] at hx
 obtain⟨x0,hx0⟩:=setR_nil h.keep i
 have hset:=hx0 s rfl
 obtain⟨v0,he,hv0,-⟩:=setR_some hset
 have hxv:x0=v0:=by
  have:=congrArg Sr.sv he
  simp only at this
  have h1:(s.sv.set i x0)[i]?=(s.sv.set i v0)[i]?:=congrArg (fun q=>q[i]?) this
  rw [List.getElem?_set_self (by rw [h.sv]; simp; omega),List.getElem?_set_self (by rw [h.sv]; simp; omega)] at h1
  exact Option.some.inj h1
 rw [hset] at hx
 simp only at hx
 have tb:Newer s.top b:=h.ta.sub (fun _ h=>h) (fun y hy=>by simp [hy])
 have tc:Newer s.top c:=h.ta.sub (fun _ h=>h) (fun y hy=>by simp [hy])
 have ta:Newer s.top a:=h.ta.sub (fun _ h=>h) (fun y hy=>by simp [hy])
 have ac:Newer a c:=h.ab.sub (fun _ h=>h) (fun y hy=>by simp [hy])
 have nil0:LvOk s.keep i [] x0:=⟨runOk_nil,Nat.zero_le _,by rw [hxv]; exact hv0⟩
 have hcase:i=0\/i=1:=by omega
 rcases hcase with rfl | rfl
 ·rw [h.lev,h.sv] at hx
  obtain⟨b',c',v',w',rfl,k2,k3,k5,-,k6,k7⟩:=into1 (s:={ s with lev:=[[],b,c],sv:=[x0,v,w] }) rfl rfl f1 f2 ac h.lc hx
  have hsub:∀ y∈b'++c',y∈a++(b++c):=k6
  have hen:entsR { s with lev:=[[],b',c'],sv:=[x0,v',w'] }=s.top++(b'++c'):=by
   rw [entsR_of rfl]
   rfl
  refine⟨⟨[],b',c',x0,v',w',rfl,rfl,h.keep,h.time,h.tms,h.top,h.top4,nil0,k2,k3,h.ta.sub (fun _ h=>h) (fun y hy=>hsub y hy),fun x hx=>(by cases hx),k5,fun e he=>h.late e ?_⟩,rfl,rfl,rfl,rfl,fun e he=>?_,fun t ht=>?_⟩
  ·rcases List.mem_append.1 he with g | g
   ·exact List.mem_append_left _ g
   ·exact List.mem_append_right _ (hsub e g)
  ·rw [hen] at he
   rw [hes]
   rcases List.mem_append.1 he with g | g
   ·exact List.mem_append_left _ g
   ·exact List.mem_append_right _ (hsub e g)
  ·rw [hen,hes]
   exact Seen.left h.ta (h.ta.sub (fun _ h=>h) hsub) (k7 t (h.look ht (fun y hy=>List.mem_append_right _ hy)))
 ·rw [h.lev,h.sv] at hx
  obtain⟨c',w',rfl,k3,k6,k7⟩:=into0 (s:={ s with lev:=[a,[],c],sv:=[u,x0,w] }) rfl rfl f2 hx
  have hsub:∀ y∈c',y∈b++c:=k6
  have hsub2:∀ y∈a++c',y∈a++(b++c):=fun y hy=>by
   rcases List.mem_append.1 hy with g | g
   ·exact List.mem_append_left _ g
   ·exact List.mem_append_right _ (hsub y g)
  have hen:entsR { s with lev:=[a,[],c'],sv:=[u,x0,w'] }=s.top++(a++c'):=by
   rw [entsR_of rfl]
   rfl
  refine⟨⟨a,[],c',u,x0,w',rfl,rfl,h.keep,h.time,h.tms,h.top,h.top4,h.la,nil0,k3,h.ta.sub (fun _ h=>h) hsub2,h.ab.sub (fun _ h=>h) hsub,fun x hx=>(by cases hx),fun e he=>h.late e ?_⟩,rfl,rfl,rfl,rfl,fun e he=>?_,fun t ht=>?_⟩
  ·rcases List.mem_append.1 he with g | g
   ·exact List.mem_append_left _ g
   ·exact List.mem_append_right _ (hsub2 e g)
  ·rw [hen] at he
   rw [hes]
   rcases List.mem_append.1 he with g | g
   ·exact List.mem_append_left _ g
   ·exact List.mem_append_right _ (hsub2 e g)
  ·rw [hen,hes]
   have e1:Seen t (a++(b++c)) (a++c'):=Seen.left h.ab (h.ab.sub (fun _ h=>h) hsub) (k7 t (h.look ht (fun y hy=>List.mem_append_right _ (List.mem_append_right _ hy))))
   exact Seen.left h.ta (h.ta.sub (fun _ h=>h) hsub2) e1
theorem timesR_mono {ts:List Int} {n m:Int} (h:timesR ts n=true) (hnm:n<=m):timesR ts m=true:=by
 simp only [timesR,Bool.and_eq_true,decide_eq_true_eq] at h ⊢
 rw [asc1_iff] at h ⊢
 refine⟨⟨fun t ht=>?_,h.1.2⟩,h.2⟩
 obtain⟨h1,h2,h3⟩:=h.1.1 t ht
 exact⟨h1,by omega,h3⟩
theorem add_V {e:Ent} (h:V s a b c u v w) (he:e.time=s.time+1) (hx:addR s e=some x):Val x/\x.time=s.time+1/\x.keep=s.keep/\x.tms=s.tms/\entOk e=true/\∃ y,Found s y/\(∀ z∈entsR y,z∈entsR s)/\∀ z,z∈entsR x↔z=e\/z∈entsR y:=by
 unfold addR at hx
 split at hx
 case isFalse=>cases hx
 rename_i hc
 simp only [Bool.and_eq_true] at hc
 have hek:=hc.2
 have key:∀ {y:Sr},Val y->y.top.length<=3->y.time=s.time->y.keep=s.keep->y.tms=s.tms->(∀ z∈entsR y,z∈entsR s)->Found s y->x={ y with top:=joinL [e] y.top,time:=e.time } ->
   Val x/\x.time=s.time+1/\x.keep=s.keep/\x.tms=s.tms/\entOk e=true/\∃ y,Found s y/\(∀ z∈entsR y,z∈entsR s)/\∀ z,z∈entsR x↔z=e\/z∈entsR y:=by
  rintro y ⟨a',b',c',u',v',w',hy⟩ h3 ht hkp htm hsub hfd rfl
  have hty:=entOk_time hek
  have hnew:Newer [e] (y.top++(a'++(b'++c'))):=fun p hp q hq _=>by
   rw [List.mem_singleton.1 hp]
   have:=hy.late q hq
   omega
  have hf:Fine [e] y.top:=fine_of (runOk_one hek) hy.top (hnew.sub (fun _ h=>h) (fun q hq=>by simp [hq])) (by simp; omega)
  have hmem:∀ z,z∈joinL [e] y.top↔z=e\/z∈y.top:=fun z=>by rw [joinL_iff]; simp
  have hey:=entsR_of hy.lev
  have hex:entsR { y with top:=joinL [e] y.top,time:=e.time }=joinL [e] y.top++(a'++(b'++c')):=entsR_of hy.lev
  refine⟨⟨a',b',c',u',v',w',hy.lev,hy.sv,hy.keep,⟨by simp only; omega,hty.2⟩,timesR_mono hy.tms (by simp only; omega),hf.run,?_,hy.la,hy.lb,hy.lc,?_,hy.ab,hy.bc,?_⟩,he,hkp,htm,hek,y,hfd,hsub,fun z=>?_⟩
  ·simp only
   rw [(joinL_perm y.top [e]).length_eq]
   simp
   omega
  ·intro p hp q hq hpq
   rcases (hmem p).1 hp with rfl | hp
   ·exact hnew p (by simp) q (List.mem_append_right _ hq) hpq
   ·exact hy.ta p hp q hq hpq
  ·intro z hz
   simp only
   rcases List.mem_append.1 hz with g | g
   ·rcases (hmem z).1 g with rfl | g
    ·exact Int.le_refl _
    ·have:=hy.late z (List.mem_append_left _ g)
     omega
   ·have:=hy.late z (List.mem_append_right _ g)
    omega
  ·rw [hex,hey]
   simp only [List.mem_append,hmem]
   exact or_assoc
 by_cases h4:4<=s.top.length
 ·rw [if_pos h4] at hx
  cases hd:downR s with
  | none=>rw [hd] at hx; cases hx
  | some y =>
   rw [hd] at hx
   injection hx with hx
   obtain⟨k1,k2,k3,k4,k5,k6,k7⟩:=down_V h hd
   exact key k1 (by rw [k2]; simp) k3 k4 k5 k6 k7 hx.symm
 ·rw [if_neg h4] at hx
  injection hx with hx
  exact key ⟨a,b,c,u,v,w,h⟩ (by omega) rfl rfl rfl (fun _ h=>h) (fun t _=>(Same.refl t _).seen) hx.symm
theorem do_V {d:Dd} (h:V s a b c u v w) (hx:doR s d=some x):Val x:=by
 unfold doR at hx
 split at hx
 ·exact (add_V h rfl hx).1
 split at hx
 ·exact (add_V h rfl hx).1
 split at hx
 ·exact⟨a,b,c,u,v,w,(hold_V h hx).1⟩
 split at hx
 ·exact⟨a,b,c,u,v,w,(free_V h hx).1⟩
 split at hx
 ·unfold letR at hx
  rw [if_pos h.ok] at hx
  exact (down_V h hx).1
 split at hx
 ·exact (join_V h hx).1
 ·cases hx
theorem doAll_V:∀ (ds:List Dd) {s:Sr},Val s->Val (doAll s ds)
 | [],s,h=>h
 | d :: ds,s,h=>by
  have e:doAll s (d :: ds)=doAll ((doR s d).getD s) ds:=rfl
  rw [e]
  refine doAll_V ds ?_
  cases hd:doR s d with
  | none=>exact h
  | some x =>
   obtain⟨a,b,c,u,v,w,hv⟩:=h
   exact do_V hv hd
theorem sieveR_nil (k:Int):sieveR [] k=⟨⟨#[]⟩,⟨#[]⟩,⟨#[]⟩,[],k⟩:=by
 have h:brs 0 []=[]:=by rw [brs]
 unfold sieveR
 rw [show (500:Nat)=499+1 from rfl,bfs,h]
 show bfs 499 ([]++subs 0 []) _=_
 rw [show ([]++subs 0 []:List Fk)=[] from rfl]
 rfl
theorem newR_V {k:Int} (h:newR k=some s):Val s:=by
 unfold newR at h
 split at h
 ·rename_i hk
  injection h with h
  subst h
  have hn:∀ i,LvOk k i [] ⟨⟨#[]⟩,⟨#[]⟩,⟨#[]⟩,[],k⟩:=fun i=>⟨runOk_nil,Nat.zero_le _,by
   rw [sieveO,if_pos ⟨by decide,hk⟩]
   exact congrArg some (sieveR_nil k)⟩
  exact⟨[],[],[],_,_,_,rfl,rfl,hk,⟨Int.le_refl 0,show (0:Int)<=999 by decide⟩,show timesR [] 0=true by decide,runOk_nil,Nat.zero_le _,hn 0,hn 1,hn 2,fun x hx=>(by cases hx),fun x hx=>(by cases hx),fun x hx=>(by cases hx),fun e he=>by simp at he⟩
 ·cases h
end
end Go.Proofs.YtgoeenodllmdpaaGreat.B

namespace Go.Proofs.YtgoeenodllmdpaaGreat.B
open Go.RowKit Go.Proofs
set_option linter.unusedVariables false
set_option linter.unusedSimpArgs false
variable {E:Env}
theorem Svt.of {ks:List ByteArray} {keep:Int} (h:keysOk ks=true) (hk:0<=keep/\keep<=5):∃ F L,Svt ks keep F L (sieveR ks keep):=by
 obtain⟨F,L,h1,h2,h3⟩:=Tr.of h keep
 exact⟨F,L,h1,h2,by omega,hk⟩
theorem sieveO_some {ks:List ByteArray} {keep:Int} {v:Sv} (h:sieveO ks keep=some v):keysOk ks=true/\0<=keep/\keep<=5/\v=sieveR ks keep:=by
 unfold sieveO at h
 split at h
 ·rename_i h1
  exact⟨h1.1,h1.2.1,h1.2.2,(Option.some.inj h).symm⟩
 ·cases h
def getR (s:Sr) (k:ByteArray) (t:Int):Option Ent:=(s.top :: s.lev).findSome? (atR k t)
theorem atR_key {k:ByteArray} {t:Int}:∀ {r:List Ent} {e:Ent},atR k t r=some e->e∈r/\e.key=k/\e.time<=t
 | [],e,h=>by cases h
 | x :: r,e,h=>by
  rw [atR] at h
  split at h
  ·rename_i h1
   obtain rfl:=Option.some.inj h
   exact⟨by simp,h1.1,h1.2⟩
  ·obtain⟨h1,h2⟩:=atR_key h
   exact⟨List.mem_cons_of_mem _ h1,h2⟩
theorem keys1_in:∀ {r:List Ent} {p:Option Ent} {e:Ent},e∈r->e.key∈keys1 p r\/∃ q,p=some q/\q.key=e.key
 | x :: r,p,e,h=>by
  have own:x.key∈keys1 p (x :: r)\/∃ q,p=some q/\q.key=x.key:=by
   rw [keys1]
   split
   ·exact .inl (by simp)
   ·rename_i hn
    cases p with
    | none=>exact absurd rfl hn
    | some q=>exact .inr ⟨q,rfl,by
      have h2:¬(!decide (q.key=x.key))=true:=hn
      simpa using h2⟩
  have sub:∀ {y:ByteArray},y∈keys1 (some x) r->y∈keys1 p (x :: r):=by
   intro y hy
   rw [keys1]
   split
   ·exact List.mem_cons_of_mem _ hy
   ·exact hy
  rcases List.mem_cons.1 h with rfl | h
  ·exact own
  ·rcases keys1_in (p:=some x) h with h1 | ⟨q,hq,hk⟩
   ·exact .inl (sub h1)
   ·obtain rfl:=Option.some.inj hq
    rw [<- hk]
    exact own
theorem keysR_mem {r:List Ent} {e:Ent} (h:e∈r):e.key∈keysR r:=by
 rcases keys1_in (p:=none) h with h | ⟨q,hq,_⟩
 ·exact h
 ·cases hq
theorem hidden {l:List Ent} {keep:Int} {v:Sv} {k:ByteArray} {t:Int} (h:sieveO (keysR l) keep=some v) (hh:hasR (keysR l) keep k=false):atR k t l=none:=by
 cases ha:atR k t l with
 | none=>rfl
 | some e =>
  obtain⟨h1,h2,_⟩:=atR_key ha
  obtain⟨h3,h4,h5,_⟩:=sieveO_some h
  have:=hasR_self h3 h4 (keysR_mem h1)
  rw [h2,hh] at this
  cases this
theorem storeOk_level {s:Sr} (h:storeOk s=true) {i:Nat} (hi:i<3) (hl:i<s.lev.length) (hv:i<s.sv.length):sieveO (keysR s.lev[i]) s.keep=some s.sv[i]:=by
 simp only [storeOk,Bool.and_eq_true,decide_eq_true_eq] at h
 have lv:levelOk s i=true:=by
  match i,hi with
  | 0,_=>exact h.2.1.1
  | 1,_=>exact h.2.2.1.1
  | 2,_=>exact h.2.2.2.1
 simp only [levelOk,Bool.and_eq_true,decide_eq_true_eq] at lv
 have:=lv.2
 rw [getD_get [] hl,getD_get default hv] at this
 exact this
theorem findSome_drop {α β:Type} {f:α->Option β} {l:List α} {i:Nat} (hi:i<l.length):(l.drop i).findSome? f=(f l[i]).or ((l.drop (i+1)).findSome? f):=by
 rw [List.drop_eq_getElem_cons hi,List.findSome?_cons]
 cases f l[i]<;>rfl
def FdI (s:Sr) (a b c d:AV) (k:ByteArray) (time:Int) (H:Hp) (m:Nat) (t:Tm) (H':Hp):Prop:=∃ i:Nat,i+m=3/\t 1=.str k/\t 2=.int .i64 time/\t 3=.pt H.length 0 0/\t 6=.pt (H.length+1) 0 0/\t 25=b/\t 26=.int .i64 3/\t 27=.int .i64 i/\(s.lev.drop i).findSome? (atR k time)=getR s k time/\HLe H H' /\
 H'.at H.length=some ⟨[[a,b,c,.int .i64 s.keep,.int .i64 s.time,d]],6,28,false⟩/\H'.at (H.length+1)=some ⟨[[.str ⟨#[]⟩,.int .i64 0,.bool false,.int .i64 0]],4,99,false⟩
set_option maxHeartbeats 1600000 in
theorem find_ok (v:AV) (s:Sr) (k:ByteArray) (time:Int) (H:Hp) (hs:St H v s) (hb:StB s) (ho:storeOk s=true) (hk:keyOk k=true) :
  AC Tryz.prog E 85 [v,.str k,.int .i64 time] H (fun u H'=>u=.tu (entAV (getR s k time))/\H'=H):=by
 have hst:=hs
 obtain⟨a,b,c,d,lr,sr,rfl,ha,hb1,hlr,hc,hsr,hd⟩:=hs
 obtain⟨hB1,hB2,hB3,hB4,hB5,hB6,hB7,hB8,hB9⟩:=hb
 have hsm:=storeOk_small ho
 have e3:s.lev.length=3:=hsm.2.2.2.2.2.2.2.1
 have s3:s.sv.length=3:=hsm.2.2.2.2.2.2.2.2
 have ll:=hlr.length
 have ls:=hsr.length
 have l1:=hb1.len
 rw [ll,e3] at l1
 have hplain:(AV.tu (entAV (getR s k time))).plain=true:=by unfold entAV; split<;>simp [entRow]
 refine AC_byp (tC_le tabJ_ok) h_impl_Store_find hplain ?_
 obtain⟨H1,hH1⟩:∃ H1:Hp,H1=H++[some ⟨[[a,b,c,.int .i64 s.keep,.int .i64 s.time,d]],6,28,false⟩,some ⟨[[.str ⟨#[]⟩,.int .i64 0,.bool false,.int .i64 0]],4,99,false⟩]:=⟨_,rfl⟩
 have hle1:HLe H H1:=by rw [hH1]; exact HLe.self _ _
 have b0:H1.at H.length=some ⟨[[a,b,c,.int .i64 s.keep,.int .i64 s.time,d]],6,28,false⟩:=by rw [hH1]; simp
 have b1:H1.at (H.length+1)=some ⟨[[.str ⟨#[]⟩,.int .i64 0,.bool false,.int .i64 0]],4,99,false⟩:=by rw [hH1]; simp
 have u1:=Hp.at_lt b1
 simp [c_impl_Store_find,stAV,Rows.one ha,hb1.one,hc.one,Rows.one hd,<- hH1,b0]
 refine cg_use (at_ok a s.top k time H1 (ha.le hle1) (by have:=hB1.1; omega)) ?_
 cases ht:atR k time s.top with
 | some e =>
  have hg:getR s k time=some e:=by unfold getR; rw [List.findSome?_cons,ht]
  rw [hg]
  obtain⟨ek,ev,eg,et⟩:=e
  simp [entAV,entRow,b1,u1,Hp.at_app,Hp.at_set,set_in',at_in]
  exact (hle1.set (by omega) _).app _
 | none =>
  have hg:s.lev.findSome? (atR k time)=getR s k time:=by unfold getR; rw [List.findSome?_cons,ht]
  obtain⟨G,hG⟩:∃ G:Hp,G=H1++[some ⟨[[.str ⟨#[]⟩,.int .i64 0,.bool false,.int .i64 0]],4,99,false⟩]:=⟨_,rfl⟩
  have hleG:HLe H1 G:=by rw [hG]; exact HLe.self _ _
  have g0:=hleG.2 _ _ b0
  have g1:=hleG.2 _ _ b1
  simp [entAV,entRow]
  simp only [<- hG]
  simp [g0,l1,hb1.slc]
  refine W_for (FdI s a b c d k time H) 3 ?_ (tC_mono AC_mono) ?_
  ·exact⟨0,by simp,by simp,by simp,by simp,by simp,by simp,by simp,by simp,by simpa using hg,hle1.trans hleG,g0,g1⟩
  rintro m t H' ⟨i,him,t1,t2,t3,t6,t25,t26,t27,hP,hle,c0,c1⟩
  simp [t1,t2,t3,t6,t25,t26,t27,c0]
  refine c_split (fun hq=>?_) (fun hq=>?_)<;>simp at hq
  ·have hi3:i<3:=by omega
   have hil:i<s.lev.length:=by omega
   have his:i<s.sv.length:=by omega
   have hiI:(i:Int)<3:=by omega
   have hw:=wrapN (i:=i) (by omega)
   obtain⟨o1,i1,ob1,rfl,x1,x2,x3⟩:=hb1.get (j:=i) (by omega)
   obtain⟨u,hu,hue⟩:=hlr.get i (by omega) hil
   rw [hu] at x3
   obtain⟨o2,i2,ob2,rfl,y1,y2,y3⟩:=hc.get (j:=i) (by omega)
   obtain⟨r,hr,hrs,_⟩:=hsr.get i (by omega) his
   rw [hr] at y3
   have x1':=hle.2 _ _ x1
   have y1':=hle.2 _ _ y1
   have q1:i<lr.length:=by omega
   have q2:i<sr.length:=by omega
   have hso:=storeOk_level ho hi3 hil his
   obtain⟨v1,v2,v3,v4⟩:=sieveO_some hso
   obtain⟨F,L,hsvt⟩:=Svt.of v1 ⟨v2,v3⟩
   rw [<- v4] at hsvt
   simp [t1,t2,t3,t6,t25,t26,t27,c0,x1',x2,x3,y1',y2,y3,q1,q2]
   have cH:=has_ok (E:=E) s.sv[i] r k _ _ F L H' hsvt (hrs.le hle) hk
   simp only [svAV] at cH
   refine cg_use cH ?_
   rw [findSome_drop hil] at hP
   cases hh:hasR (keysR s.lev[i]) s.keep k with
   | false =>
    rw [hidden hso hh,Option.none_or] at hP
    simp [t1,t2,t3,t6,t25,t26,t27,hw]
    exact⟨m-1,by omega,i+1,by omega,by simp [t1],by simp [t2],by simp [t3],by simp [t6],by simp [t25],by simp [t26],by simp,hP,hle,c0,c1⟩
   | true =>
    simp [t1,t2,t3,t6,t25,t26,t27]
    refine cg_use (at_ok u s.lev[i] k time H' (hue.le hle) (by have:=(hB2 _ (List.getElem_mem hil)).1; omega)) ?_
    have w1:=Hp.at_lt c1
    cases hat:atR k time s.lev[i] with
    | some e =>
     rw [hat,Option.some_or] at hP
     rw [<- hP]
     obtain⟨ek,ev,eg,et⟩:=e
     simp [entAV,entRow,t1,t2,t3,t6,t25,t26,t27,c1,w1,Hp.at_app,Hp.at_set,set_in',at_in]
     exact (hle.set (by omega) _).app _
    | none =>
     rw [hat,Option.none_or] at hP
     obtain⟨G2,hG2⟩:∃ G:Hp,G=H'++[some ⟨[[.str ⟨#[]⟩,.int .i64 0,.bool false,.int .i64 0]],4,99,false⟩]:=⟨_,rfl⟩
     have hleG2:HLe H' G2:=by rw [hG2]; exact HLe.self _ _
     simp [entAV,entRow,t1,t2,t3,t6,t25,t26,t27,hw]
     simp only [<- hG2]
     exact⟨m-1,by omega,i+1,by omega,by simp [t1],by simp [t2],by simp [t3],by simp [t6],by simp [t25],by simp [t26],by simp,hP,hle.trans hleG2,hleG2.2 _ _ c0,hleG2.2 _ _ c1⟩
  ·have:i=3:=by omega
   subst this
   rw [List.drop_of_length_le (by omega)] at hP
   rw [<- hP]
   have w1:=Hp.at_lt c1
   simp [entAV,entRow,t1,t2,t3,t6,t25,t26,t27,c1,w1,Hp.at_app,Hp.at_set,set_in',at_in]
   exact hle.set (by omega) _
def knownR (s:Sr) (t:Int):Bool:=decide (t=s.time)||decide (t∈s.tms)
theorem known_ok (v:AV) (s:Sr) (time:Int) (H:Hp) (hs:St H v s) (hb:StB s) :
  AC Tryz.prog E 81 [v,.int .i64 time] H (fun u H'=>u=.bool (knownR s time)/\H'=H):=by
 obtain⟨a,b,c,d,lr,sr,rfl,ha,hb1,hlr,hc,hsr,hd⟩:=hs
 refine AC_byp (tC_le tabJ_ok) h_impl_Store_known (by simp) ?_
 obtain⟨H1,hH1⟩:∃ H1:Hp,H1=H++[some ⟨[[a,b,c,.int .i64 s.keep,.int .i64 s.time,d]],6,28,false⟩]:=⟨_,rfl⟩
 have hle1:HLe H H1:=by rw [hH1]; exact HLe.self _ _
 have b0:H1.at H.length=some ⟨[[a,b,c,.int .i64 s.keep,.int .i64 s.time,d]],6,28,false⟩:=by rw [hH1]; simp
 simp [c_impl_Store_known,stAV,Rows.one ha,hb1.one,hc.one,Rows.one hd,<- hH1,b0]
 by_cases he:time=s.time
 ·simp [he,knownR,hle1]
 ·simp [he,b0,knownR]
  refine cg_use (ContainsI_ok d s.tms time H1 (hd.le hle1) (by have:=hb.2.2.2.2.1; omega)) ?_
  simp [hle1]
def gotR (s:Sr) (k:ByteArray) (t:Int):Int × Bool:=if storeOk s=true/\keyOk k=true/\knownR s t=true then match getR s k t with
  | some e=>(e.val,!e.gone)
  | none=>(0,false)
 else (0,false)
theorem implStoreGet_ok (v:AV) (s:Sr) (k:ByteArray) (time:Int) (H:Hp) (hs:St H v s) (hb:StB s) (hk:k.size<4611686018427387904) :
  AC Tryz.prog E 41 [v,.str k,.int .i64 time] H (fun u H'=>u=.tu [.int .i64 (gotR s k time).1,.bool (gotR s k time).2]/\H'=H):=by
 have hs0:=hs
 obtain⟨a,b,c,d,rfl,n1,n2,n3,n4,_,_⟩:=hs.shape
 refine AC_byp (tC_le tabJ_ok) h_impl_StoreGet (by simp) ?_
 obtain⟨H1,hH1⟩:∃ H1:Hp,H1=H++[some ⟨[[a,b,c,.int .i64 s.keep,.int .i64 s.time,d]],6,28,false⟩]:=⟨_,rfl⟩
 have hle1:HLe H H1:=by rw [hH1]; exact HLe.self _ _
 have b0:H1.at H.length=some ⟨[[a,b,c,.int .i64 s.keep,.int .i64 s.time,d]],6,28,false⟩:=by rw [hH1]; simp
 simp [c_impl_StoreGet,n1,n2,n3,n4,<- hH1,b0]
 refine cg_use (implStoreOk_ok _ s H1 (hs0.le hle1) hb) ?_
 have hkey:∀ {C:CallP} {d:Option Nat} {ag} {p:Plan} {t:Tm} {H:Hp} {K:Tm->Hp->Prop},_:=@fun C d ag p t H K=>tabJ_key C d ag p t H K k hk
 unfold gotR
 cases ho:storeOk s with
 | false=>simp [hle1]
 | true =>
  cases hko:keyOk k with
  | false=>simp [hkey,hko,hle1]
  | true =>
   simp [hkey,hko,b0]
   refine cg_use (known_ok _ s time H1 (hs0.le hle1) hb) ?_
   cases hkn:knownR s time with
   | false=>simp [hle1]
   | true =>
    simp [b0]
    refine cg_use (find_ok _ s k time H1 (hs0.le hle1) hb ho hko) ?_
    cases hg:getR s k time with
    | none =>
     simp [entAV,entRow,Hp.at_app]
     exact hle1.app _
    | some e =>
     obtain⟨ek,ev,eg,et⟩:=e
     simp [entAV,entRow,Hp.at_app]
     exact hle1.app _
end Go.Proofs.YtgoeenodllmdpaaGreat.B

namespace Go.Proofs.YtgoeenodllmdpaaGreat.B
open Go.RowKit Go.Proofs
set_option linter.unusedVariables false
set_option linter.unusedSimpArgs false
theorem atR_none {k:ByteArray} {t:Int}:∀ {r:List Ent},atR k t r=none↔∀ x∈r,x.key=k->¬x.time<=t
 | []=>by simp [atR]
 | y :: r=>by
  rw [atR]
  by_cases h:y.key=k/\y.time<=t
  ·rw [if_pos h]
   refine⟨(fun h1=>by cases h1),fun h1=>absurd h.2 (h1 y (by simp) h.1)⟩
  ·rw [if_neg h,atR_none]
   refine⟨fun h1 x hx hk ht=>?_,fun h1 x hx=>h1 x (List.mem_cons_of_mem _ hx)⟩
   rcases List.mem_cons.1 hx with rfl | hx
   ·exact h ⟨hk,ht⟩
   ·exact h1 x hx hk ht
theorem atR_best {k:ByteArray} {t:Int}:∀ {r:List Ent},r.Pairwise (fun a b=>ahead a b=true)->∀ {e:Ent},atR k t r=some e↔Best r k t e
 | [],_,e=>by
  refine⟨(fun h=>by cases h),(fun h=>by cases h.mem)⟩
 | y :: r,hp,e=>by
  obtain⟨h1,h2⟩:=List.pairwise_cons.1 hp
  rw [atR]
  by_cases h:y.key=k/\y.time<=t
  ·rw [if_pos h]
   have hlt:∀ z∈r,z.key=k->z.time<y.time:=fun z hz hk=>by
    rcases (ahead_iff _ _).1 (h1 z hz) with h3 | h3
    ·rw [h.1,hk] at h3
     rw [sless_irrefl] at h3
     cases h3
    ·exact h3.2
   constructor
   ·intro he
    obtain rfl:=Option.some.inj he
    refine⟨by simp,h.1,h.2,fun z hz hk ht=>?_⟩
    rcases List.mem_cons.1 hz with rfl | hz
    ·exact Int.le_refl _
    ·have:=hlt z hz hk
     omega
   ·intro hb
    rcases List.mem_cons.1 hb.mem with he | he
    ·rw [he]
    ·have a1:=hlt e he hb.key
     have a2:=hb.max y (by simp) h.1 h.2
     omega
  ·rw [if_neg h,atR_best h2]
   constructor
   ·intro hb
    refine⟨List.mem_cons_of_mem _ hb.mem,hb.key,hb.le,fun z hz hk ht=>?_⟩
    rcases List.mem_cons.1 hz with rfl | hz
    ·exact absurd ⟨hk,ht⟩ h
    ·exact hb.max z hz hk ht
   ·intro hb
    rcases List.mem_cons.1 hb.mem with he | he
    ·rw [<- he] at h
     exact absurd ⟨hb.key,hb.le⟩ h
    ·exact⟨he,hb.key,hb.le,fun z hz=>hb.max z (List.mem_cons_of_mem _ hz)⟩
theorem find_best {k:ByteArray} {t:Int}:∀ {ls:List (List Ent)},(∀ l∈ls,l.Pairwise (fun a b=>ahead a b=true))->ls.Pairwise Newer->∀ {e:Ent},ls.findSome? (atR k t)=some e↔Best ls.flatten k t e
 | [],_,_,e=>by
  refine⟨(fun h=>by cases h),(fun h=>by cases h.mem)⟩
 | l :: ls,h1,h2,e=>by
  obtain⟨h3,h4⟩:=List.pairwise_cons.1 h2
  have hn:Newer l ls.flatten:=fun x hx y hy hk=>by
   obtain⟨m,hm,hy⟩:=List.mem_flatten.1 hy
   exact h3 m hm x hx y hy hk
  have ih:=find_best (k:=k) (t:=t) (fun m hm=>h1 m (List.mem_cons_of_mem _ hm)) h4 (e:=e)
  rw [List.findSome?_cons,List.flatten_cons,best_app hn,<- atR_best (h1 l (by simp)),<- ih,<- atR_none]
  cases atR k t l with
  | none=>simp
  | some x=>simp
theorem Val.best {s:Sr} (h:Val s) {k:ByteArray} {t:Int} {e:Ent}:getR s k t=some e↔Best (entsR s) k t e:=by
 obtain⟨a,b,c,u,v,w,h⟩:=h
 unfold getR
 rw [find_best]
 ·rfl
 ·intro l hl
  rw [h.lev] at hl
  simp only [List.mem_cons,List.not_mem_nil,or_false] at hl
  rcases hl with rfl | rfl | rfl | rfl
  ·exact (runOk_pair h.top).1
  ·exact (runOk_pair h.la.run).1
  ·exact (runOk_pair h.lb.run).1
  ·exact (runOk_pair h.lc.run).1
 ·rw [h.lev]
  refine List.pairwise_cons.2 ⟨fun l hl=>?_,List.pairwise_cons.2 ⟨fun l hl=>?_,List.pairwise_cons.2 ⟨fun l hl=>?_,List.pairwise_singleton _ _⟩⟩⟩
  ·refine h.ta.sub (fun _ h=>h) (fun x hx=>?_)
   simp only [List.mem_cons,List.not_mem_nil,or_false] at hl
   rcases hl with rfl | rfl | rfl<;>simp [hx]
  ·refine h.ab.sub (fun _ h=>h) (fun x hx=>?_)
   simp only [List.mem_cons,List.not_mem_nil,or_false] at hl
   rcases hl with rfl | rfl<;>simp [hx]
  ·rw [List.mem_singleton.1 hl]
   exact h.bc
theorem Val.ent {s:Sr} (h:Val s):∀ e∈entsR s,entOk e=true:=by
 obtain⟨a,b,c,u,v,w,h⟩:=h
 rw [entsR_of h.lev]
 intro e he
 simp only [List.mem_append] at he
 rcases he with he | he | he | he
 ·exact (runOk_pair h.top).2.1 e he
 ·exact (runOk_pair h.la.run).2.1 e he
 ·exact (runOk_pair h.lb.run).2.1 e he
 ·exact (runOk_pair h.lc.run).2.1 e he
theorem entOk_gone {e:Ent} (h:entOk e=true) (hg:e.gone=true):e.val=0:=by
 simp only [entOk,Bool.and_eq_true,Bool.or_eq_true,decide_eq_true_eq] at h
 rcases h.1.2 with h1 | h1
 ·rw [hg] at h1
  cases h1
 ·exact h1
end Go.Proofs.YtgoeenodllmdpaaGreat.B

namespace Go.Proofs.YtgoeenodllmdpaaGreat.B
open Go.RowKit Go.Proofs
set_option linter.unusedVariables false
set_option linter.unusedSimpArgs false
variable {E:Env}
end Go.Proofs.YtgoeenodllmdpaaGreat.B

namespace Go.Proofs.YtgoeenodllmdpaaGreat.B
open Go.RowKit Go.Proofs
set_option linter.unusedVariables false
set_option linter.unusedSimpArgs false
variable {E:Env}
end Go.Proofs.YtgoeenodllmdpaaGreat.B

namespace Go.Proofs.YtgoeenodllmdpaaGreat.B
open Go.RowKit Go.Proofs
set_option linter.unusedVariables false
set_option linter.unusedSimpArgs false
variable {E:Env}
theorem RetH.toS {H0 H:Hp} {u:AV} {s:Sr} {o:Option Sr} (h:RetH H0 H u s o):∃ w n ok,u=.tu [w,n,ok]/\RetS H0 H (.tu [w,ok]) o:=by
 obtain⟨h1,h2⟩:=h
 cases o with
 | none=>exact⟨_,_,_,h2,h1,rfl⟩
 | some x =>
  obtain⟨w,e,hm⟩:=h2
  exact⟨_,_,_,e,h1,w,rfl,hm⟩
theorem l13Do_ok (v:AV) (s:Sr) (e:Dd) (H:Hp) (hs:St H v s) (hb:StB s) (hk:e.key.size<4611686018427387904) :
  AC Tryz.prog E 72 [v,ddAV e] H (fun u H'=>RetS H H' u (doR s e)):=by
 have hs0:=hs
 obtain⟨a,b,c,d,rfl,n1,n2,n3,n4,hea,hed⟩:=hs.shape
 refine AC_by fol (tC_le tab2_ok) h_spec_l13Do ?_
 obtain⟨H1,hH1⟩:∃ H1:Hp,H1=H++[some ⟨[[a,b,c,.int .i64 s.keep,.int .i64 s.time,d]],6,28,false⟩,some ⟨[[.int .i64 e.kind,.str e.key,.int .i64 e.num]],3,47,false⟩,some ⟨[[.nils,.nils,.nils,.int .i64 0,.int .i64 0,.nils]],6,28,false⟩]:=⟨_,rfl⟩
 have hle1:HLe H H1:=by rw [hH1]; exact HLe.self _ _
 have b0:H1.at H.length=some ⟨[[a,b,c,.int .i64 s.keep,.int .i64 s.time,d]],6,28,false⟩:=by rw [hH1]; simp
 have b1:H1.at (H.length+1)=some ⟨[[.int .i64 e.kind,.str e.key,.int .i64 e.num]],3,47,false⟩:=by rw [hH1]; simp
 have b2:H1.at (H.length+2)=some ⟨[[.nils,.nils,.nils,.int .i64 0,.int .i64 0,.nils]],6,28,false⟩:=by rw [hH1]; simp
 have hl1:H1.length=H.length+3:=by rw [hH1]; simp
 have u2:=Hp.at_lt b2
 have hs1:=hs0.le hle1
 simp [c_spec_l13Do,ddAV,n1,n2,n3,n4,<- hH1,b1]
 refine c_split (fun q0=>?_) (fun q0=>?_)<;>simp at q0
 ·have hd:doR s e=putR s e.key e.num:=by simp [doR,q0]
  simp [b0,b1]
  refine cg_ex (StorePut_ok _ s e.key e.num H1 hs1 hb hk) ?_
  intro v2 H2 hret
  obtain⟨xa,xb,xc,xk,xt,xd,rfl,o1,o2,o3,o4,o5,o6⟩:=hret.shape
  have b22:=hret.1.2 _ _ b2
  have u22:=Hp.at_lt b22
  simp [o1,o2,o3,o4,o5,o6,b22,Hp.at_set,u22]
  rw [hd]
  have hF:=Fr.one H2 (H.length+2) (some ⟨[[xa,xb,xc,xk,xt,xd]],6,28,false⟩)
  exact hret.fin hle1 hF (fun x ob hx ho=>by rw [hx,b22] at ho; cases ho; rfl) (fun x hx=>by rw [hx]; omega)
 simp
 refine c_split (fun q1=>?_) (fun q1=>?_)<;>simp at q1
 ·have hd:doR s e=takeR s e.key:=by simp [doR,q1]
  simp [b0,b1]
  refine cg_ex (StoreTake_ok _ s e.key H1 hs1 hb hk) ?_
  intro v2 H2 hret
  obtain⟨xa,xb,xc,xk,xt,xd,rfl,o1,o2,o3,o4,o5,o6⟩:=hret.shape
  have b22:=hret.1.2 _ _ b2
  have u22:=Hp.at_lt b22
  simp [o1,o2,o3,o4,o5,o6,b22,Hp.at_set,u22]
  rw [hd]
  have hF:=Fr.one H2 (H.length+2) (some ⟨[[xa,xb,xc,xk,xt,xd]],6,28,false⟩)
  exact hret.fin hle1 hF (fun x ob hx ho=>by rw [hx,b22] at ho; cases ho; rfl) (fun x hx=>by rw [hx]; omega)
 simp
 refine c_split (fun q2=>?_) (fun q2=>?_)<;>simp at q2
 ·have hd:doR s e=holdR s:=by simp [doR,q2]
  simp [b0,b1]
  refine cg_ex (StoreHold_ok _ s H1 hs1 hb) ?_
  intro v2 H2 hret
  obtain⟨w,n,ok,hv2,hret'⟩:=hret.toS
  subst hv2
  clear hret
  have hret:=hret'
  clear hret'
  obtain⟨xa,xb,xc,xk,xt,xd,hw,o1,o2,o3,o4,o5,o6⟩:=hret.shape
  cases hw
  have b22:=hret.1.2 _ _ b2
  have u22:=Hp.at_lt b22
  simp [o1,o2,o3,o4,o5,o6,b22,Hp.at_set,u22,Hp.at_app,set_in']
  rw [hd]
  have hF:=(Fr.one H2 (H.length+2) (some ⟨[[xa,xb,xc,xk,xt,xd]],6,28,false⟩)).app [some ⟨[[xa,xb,xc,xk,xt,xd]],6,28,false⟩]
  exact hret.fin hle1 hF (fun x ob hx ho=>by rw [hx,b22] at ho; cases ho; rfl) (fun x hx=>by rw [hx]; omega)
 simp
 refine c_split (fun q3=>?_) (fun q3=>?_)<;>simp at q3
 ·have hd:doR s e=freeR s e.num:=by simp [doR,q3]
  simp [b0,b1]
  refine cg_ex (StoreFree_ok _ s e.num H1 hs1 hb) ?_
  intro v2 H2 hret
  obtain⟨xa,xb,xc,xk,xt,xd,rfl,o1,o2,o3,o4,o5,o6⟩:=hret.shape
  have b22:=hret.1.2 _ _ b2
  have u22:=Hp.at_lt b22
  simp [o1,o2,o3,o4,o5,o6,b22,Hp.at_set,u22]
  rw [hd]
  have hF:=Fr.one H2 (H.length+2) (some ⟨[[xa,xb,xc,xk,xt,xd]],6,28,false⟩)
  exact hret.fin hle1 hF (fun x ob hx ho=>by rw [hx,b22] at ho; cases ho; rfl) (fun x hx=>by rw [hx]; omega)
 simp
 refine c_split (fun q4=>?_) (fun q4=>?_)<;>simp at q4
 ·have hd:doR s e=letR s:=by simp [doR,q4]
  simp [b0,b1]
  refine cg_ex (StoreDown_ok _ s H1 hs1 hb) ?_
  intro v2 H2 hret
  obtain⟨xa,xb,xc,xk,xt,xd,rfl,o1,o2,o3,o4,o5,o6⟩:=hret.shape
  have b22:=hret.1.2 _ _ b2
  have u22:=Hp.at_lt b22
  simp [o1,o2,o3,o4,o5,o6,b22,Hp.at_set,u22]
  rw [hd]
  have hF:=Fr.one H2 (H.length+2) (some ⟨[[xa,xb,xc,xk,xt,xd]],6,28,false⟩)
  exact hret.fin hle1 hF (fun x ob hx ho=>by rw [hx,b22] at ho; cases ho; rfl) (fun x hx=>by rw [hx]; omega)
 simp
 refine c_split (fun q5=>?_) (fun q5=>?_)<;>simp at q5
 ·have hd:doR s e=joinR s e.num:=by simp [doR,q5]
  simp [b0,b1]
  refine cg_ex (StoreJoin_ok _ s e.num H1 hs1 hb) ?_
  intro v2 H2 hret
  obtain⟨xa,xb,xc,xk,xt,xd,rfl,o1,o2,o3,o4,o5,o6⟩:=hret.shape
  have b22:=hret.1.2 _ _ b2
  have u22:=Hp.at_lt b22
  simp [o1,o2,o3,o4,o5,o6,b22,Hp.at_set,u22]
  rw [hd]
  have hF:=Fr.one H2 (H.length+2) (some ⟨[[xa,xb,xc,xk,xt,xd]],6,28,false⟩)
  exact hret.fin hle1 hF (fun x ob hx ho=>by rw [hx,b22] at ho; cases ho; rfl) (fun x hx=>by rw [hx]; omega)
 have hd:doR s e=none:=by simp [doR,q0,q1,q2,q3,q4,q5]
 simp [b2,Hp.at_set,u2,hd,RetS]
 exact hle1.set (by omega) _
end Go.Proofs.YtgoeenodllmdpaaGreat.B

namespace Go.Proofs.YtgoeenodllmdpaaGreat.B
open Go.RowKit Go.Proofs
set_option linter.unusedVariables false
set_option linter.unusedSimpArgs false
variable {E:Env}
end Go.Proofs.YtgoeenodllmdpaaGreat.B

namespace Go.Proofs.YtgoeenodllmdpaaGreat.B
open Go.RowKit Go.Proofs
set_option linter.unusedVariables false
set_option linter.unusedSimpArgs false
variable {E:Env}
def ddRow (d:Dd):List AV:=[.int .i64 d.kind,.str d.key,.int .i64 d.num]
def Dds (H:Hp) (v:AV) (ds:List Dd):Prop:=Rows 3 H v (ds.map ddRow)
theorem Dds.get {H:Hp} {v:AV} {ds:List Dd} (h:Dds H v ds) {j:Nat} (hj:j<ds.length):∃ o i ob,v=.sl o i ds.length/\H.at o=some ob/\ob.esz=3/\ob.rows[i+j]?=some [.int .i64 ds[j].kind,.str ds[j].key,.int .i64 ds[j].num]:=by
 obtain⟨o,i,ob,h1,h2,h3,h4⟩:=Rows.get h (j:=j) (by simpa using hj)
 exact⟨o,i,ob,by simpa using h1,h2,h3,by simpa [ddRow] using h4⟩
theorem doAll_step (s:Sr) (ds:List Dd) {i:Nat} (hi:i<ds.length):doAll s (ds.take (i+1))=(doR (doAll s (ds.take i)) ds[i]).getD (doAll s (ds.take i)):=by
 rw [List.take_succ_eq_append_getElem hi,doAll,List.foldl_append]
 rfl
theorem PastDo_ok (v u:AV) (s:Sr) (ds:List Dd) (H:Hp) (hs:St H v s) (hb:StB s) (hu:Dds H u ds) (hk:∀ d∈ds,d.key.size<4611686018427387904) :
  AC Tryz.prog E 31 [v,u] H (fun w H'=>RetS H H' w (pastR s ds)):=by
 have hs0:=hs
 obtain⟨a,b,c,d,rfl,n1,n2,n3,n4,hea,hed⟩:=hs.shape
 refine AC_by fol (tC_le tab2_ok) h_spec_PastDo ?_
 obtain⟨H1,hH1⟩:∃ H1:Hp,H1=H++[some ⟨[[a,b,c,.int .i64 s.keep,.int .i64 s.time,d]],6,28,false⟩,some ⟨[[.nils,.nils,.nils,.int .i64 0,.int .i64 0,.nils]],6,28,false⟩]:=⟨_,rfl⟩
 have hle1:HLe H H1:=by rw [hH1]; exact HLe.self _ _
 have b0:H1.at H.length=some ⟨[[a,b,c,.int .i64 s.keep,.int .i64 s.time,d]],6,28,false⟩:=by rw [hH1]; simp
 have b1:H1.at (H.length+1)=some ⟨[[.nils,.nils,.nils,.int .i64 0,.int .i64 0,.nils]],6,28,false⟩:=by rw [hH1]; simp
 have hl1:H1.length=H.length+2:=by rw [hH1]; simp
 have u1:=Hp.at_lt b1
 have hlen:lenV u=.int .i64 ds.length:=by simpa using Rows.len hu
 have hslc:slC u:=Rows.slc hu
 simp [c_spec_PastDo,n1,n2,n3,n4,<- hH1,b0]
 refine cg_use (StoreOk_ok _ s H1 (hs0.le hle1) hb) ?_
 cases hso:storeOk s with
 | false =>
  simp [b1,Hp.at_set,u1,pastR,hso,RetS]
  exact hle1.set (by omega) _
 | true =>
 have hsm:=storeOk_small hso
 simp [hlen,hslc]
 refine c_split (fun hq=>?_) (fun hq=>?_)<;>simp at hq
 ·have hp:pastR s ds=none:=by simp [pastR,hso]; omega
  simp [b1,Hp.at_set,u1,hp,RetS]
  exact hle1.set (by omega) _
 have hp:pastR s ds=some (doAll s ds):=by simp [pastR,hso]; omega
 simp [b0]
 refine cg_ex (l12Copy_ok _ s H1 (hs0.le hle1) hb hsm.2.2.2.2.2.2.2.1 hsm.2.2.2.2.2.2.2.2) ?_
 rintro v2 H2 ⟨hle2,hm2⟩
 obtain⟨xa,xl,xs,xd,rfl,xn1,xn2,xdi⟩:=hm2.shape
 have b02:=hle2.2 _ _ b0
 have b12:=hle2.2 _ _ b1
 have u0:=Hp.at_lt b02
 have m01:H.length≠H.length+1:=by omega
 obtain⟨H3,hH3⟩:∃ H3:Hp,H3=List.set H2 H.length (some ⟨[[xa,.sl xl 0 3,.sl xs 0 3,.int .i64 s.keep,.int .i64 s.time,xd]],6,28,false⟩):=⟨_,rfl⟩
 have hF3:Fr (fun x=>x=H.length) H2 H3:=by rw [hH3]; exact Fr.one _ _ _
 have hm3:=(hm2.fr hF3 (fun x ob hx ho=>by rw [hx,b02] at ho; cases ho; rfl)).base hle1.1
 have hle3:HLe H H3:=(hle1.trans hle2).fr_le hF3 (fun x hx=>by rw [hx]; exact Nat.le_refl _)
 have b03:H3.at H.length=some ⟨[[xa,.sl xl 0 3,.sl xs 0 3,.int .i64 s.keep,.int .i64 s.time,xd]],6,28,false⟩:=by rw [hH3]; exact Hp.at_set _ u0
 have b13:=hF3.2 _ _ m01.symm b12
 simp [xn1,xn2,b02,Hp.at_set,u0,<- hH3]
 refine W_for (fun m t H'=>∃ (i:Nat) (x:Sr) (wa:AV) (wl ws:Nat) (wd:AV),i+m=ds.length/\t 1=u/\t 2=.pt H.length 0 0/\t 4=.pt (H.length+1) 0 0/\t 6=.int .i64 i/\HLe H H' /\
  H'.at H.length=some ⟨[[wa,.sl wl 0 3,.sl ws 0 3,.int .i64 x.keep,.int .i64 x.time,wd]],6,28,false⟩/\H'.at (H.length+1)=some ⟨[[.nils,.nils,.nils,.int .i64 0,.int .i64 0,.nils]],6,28,false⟩ /\
  one wa=true/\one wd=true/\MSt H H' (.ag [wa,.sl wl 0 3,.sl ws 0 3,.int .i64 x.keep,.int .i64 x.time,wd]) x/\Small x/\x=doAll s (ds.take i)) ds.length ?_ (tC_mono AC_mono) ?_
 ·exact⟨0,s,xa,xl,xs,xd,by omega,by simp,by simp,by simp,by simp,hle3,b03,b13,xn1,xn2,hm3,hsm,by simp [doAll]⟩
 rintro m t H' ⟨i,x,wa,wl,ws,wd,him,h1,h2,h4,h6,hle',c0,c1,wn1,wn2,hm,hsx,hx⟩
 have t0:=Hp.at_lt c0
 have t1:=Hp.at_lt c1
 simp [h1,h2,h4,h6,hlen,hslc]
 refine c_split (fun hq2=>?_) (fun hq2=>?_)<;>simp at hq2
 ·have hi:i<ds.length:=by omega
  obtain⟨o1,i1,ob1,rfl,a1,a2,a3⟩:=Dds.get (Rows.le hu hle') hi
  have hw:=wrapN (i:=i) (by omega)
  simp [h1,h2,h4,h6,c0,a1,a2,a3,hi]
  refine⟨?_,?_⟩
  ·refine cg_ex (l13Do_ok _ x (ds[i]) H' (hm.st) hsx.stB (hk _ (List.getElem_mem hi))) ?_
   rintro v5 H5 hret
   have hle5:HLe H' H5:=hret.1
   have c05:=hle5.2 _ _ c0
   have c15:=hle5.2 _ _ c1
   have a15:=hle5.2 _ _ a1
   have t05:=Hp.at_lt c05
   have t15:=Hp.at_lt c15
   have ta5:=Hp.at_lt a15
   cases hd:doR x ds[i] with
   | none =>
    rw [hd] at hret
    obtain⟨hle5',rfl⟩:=hret
    simp [h1,h2,h4,h6,c05,c15,a15,a2,a3,hi,hw,Hp.at_app,Hp.at_set,Hp.at_set_ne,List.length_set,t05,t15,ta5,m01,m01.symm,set_in']
    refine⟨m-1,by omega,i+1,by omega,by omega,(hle'.trans hle5').app _,x,wa,wl,ws,wd,by simp,wn1,wn2,(hm.le hle5').le (HLe.self _ _),hsx,?_⟩
    rw [doAll_step s ds hi,<- hx,hd]
    rfl
   | some y =>
    rw [hd] at hret
    obtain⟨hle5',w5,rfl,hm5⟩:=hret
    obtain⟨ya,yl,ys,yd,hy,yn1,yn2,ydi⟩:=hm5.shape
    subst hy
    simp [yn1,yn2,h1,h2,h4,h6,c05,c15,a15,a2,a3,hi,hw,Hp.at_app,Hp.at_set,Hp.at_set_ne,List.length_set,t05,t15,ta5,m01,m01.symm,set_in']
    have hF:=(Fr.one H5 H.length (some ⟨[[ya,.sl yl 0 3,.sl ys 0 3,.int .i64 y.keep,.int .i64 y.time,yd]],6,28,false⟩)).app [some ⟨[[ya,.sl yl 0 3,.sl ys 0 3,.int .i64 y.keep,.int .i64 y.time,yd]],6,28,false⟩]
    refine⟨m-1,by omega,i+1,by omega,by omega,(hle'.trans hle5').fr_le hF (fun z hz=>by rw [hz]; exact Nat.le_refl _),y,ya,yl,ys,yd,by simp,yn1,yn2,(hm5.fr hF (fun z ob hz ho=>by rw [hz,c05] at ho; cases ho; rfl)).base hle'.1,doR_small hd,?_⟩
    rw [doAll_step s ds hi,<- hx,hd]
    rfl
  ·have ta:=Hp.at_lt a1
   simp [Hp.at_app,t0,t1,ta,c0,a1,a2,a3,hi]
   refine cg_ex (l13Do_ok _ x (ds[i]) _ ((hm.le (HLe.self _ _)).st) hsx.stB (hk _ (List.getElem_mem hi))) ?_
   rintro v5 H5 hret
   have hle5:HLe H' H5:=(HLe.self H' _).trans hret.1
   have c05:=hle5.2 _ _ c0
   have c15:=hle5.2 _ _ c1
   have a15:=hle5.2 _ _ a1
   have t05:=Hp.at_lt c05
   have t15:=Hp.at_lt c15
   have ta5:=Hp.at_lt a15
   have c75:=hret.1.2 _ _ (Hp.at_app_0.trans Hp.at_0)
   have t75:=Hp.at_lt c75
   have m70:H'.length≠H.length:=by omega
   have m71:H'.length≠H.length+1:=by omega
   have m7a:H'.length≠o1:=by have:=Hp.at_lt a1; omega
   cases hd:doR x ds[i] with
   | none =>
    rw [hd] at hret
    obtain⟨hle5',rfl⟩:=hret
    simp [h1,h2,h4,h6,c05,c15,a15,a2,a3,hi,hw,Hp.at_app,Hp.at_set,Hp.at_set_ne,List.length_set,t05,t15,ta5,m01,m01.symm,c75,t75,m70,m71,m7a,m70.symm,m71.symm,m7a.symm]
    have hF:=Fr.one H5 H'.length (some ⟨[[.nils,.nils,.nils,.int .i64 0,.int .i64 0,.nils]],6,28,false⟩)
    refine⟨m-1,by omega,i+1,by omega,by omega,(hle'.trans hle5).fr_le hF (fun z hz=>by rw [hz]; exact hle'.1),x,wa,wl,ws,wd,by simp,wn1,wn2,(hm.le hle5).fr hF (fun z ob hz ho=>by rw [hz,c75] at ho; cases ho; rfl),hsx,?_⟩
    rw [doAll_step s ds hi,<- hx,hd]
    rfl
   | some y =>
    rw [hd] at hret
    obtain⟨hle5',w5,rfl,hm5⟩:=hret
    obtain⟨ya,yl,ys,yd,hy,yn1,yn2,ydi⟩:=hm5.shape
    subst hy
    simp [yn1,yn2,h1,h2,h4,h6,c05,c15,a15,a2,a3,hi,hw,Hp.at_app,Hp.at_set,Hp.at_set_ne,List.length_set,t05,t15,ta5,m01,m01.symm,c75,t75,m70,m71,m7a,m70.symm,m71.symm,m7a.symm]
    have hF:=((Fr.refl (fun z=>z=H'.length\/z=H.length) H5).set (o:=H'.length) (.inl (.inl rfl)) (some ⟨[[ya,.sl yl 0 3,.sl ys 0 3,.int .i64 y.keep,.int .i64 y.time,yd]],6,28,false⟩)).set (o:=H.length) (.inl (.inr rfl)) (some ⟨[[ya,.sl yl 0 3,.sl ys 0 3,.int .i64 y.keep,.int .i64 y.time,yd]],6,28,false⟩)
    refine⟨m-1,by omega,i+1,by omega,by omega,(hle'.trans hle5).fr_le hF (fun z hz=>by have:=hle'.1; rcases hz with h | h<;>omega),y,ya,yl,ys,yd,by simp,yn1,yn2,(hm5.fr hF (fun z ob hz ho=>by rcases hz with h | h<;>rw [h] at ho<;>simp only [c75,c05] at ho<;>cases ho<;>rfl)).base (Nat.le_trans hle'.1 (by simp)),doR_small hd,?_⟩
    rw [doAll_step s ds hi,<- hx,hd]
    rfl
 ·have hie:i=ds.length:=by omega
  subst hie
  rw [List.take_of_length_le (Nat.le_refl _)] at hx
  simp [h2,h4,c0,c1,wn1,wn2,Hp.at_set,t1,hp,<- hx]
  have hF:=Fr.one H' (H.length+1) (some ⟨[[wa,.sl wl 0 3,.sl ws 0 3,.int .i64 x.keep,.int .i64 x.time,wd]],6,28,false⟩)
  exact⟨hle'.fr_le hF (fun y hy=>by rw [hy]; omega),_,rfl,MSt.fr hm hF (fun y ob hy ho=>by rw [hy,c1] at ho; cases ho; rfl)⟩
end Go.Proofs.YtgoeenodllmdpaaGreat.B

namespace Go.Proofs.YtgoeenodllmdpaaGreat.B
open Go.RowKit Go.Proofs
set_option linter.unusedVariables false
set_option linter.unusedSimpArgs false
variable {E:Env}
end Go.Proofs.YtgoeenodllmdpaaGreat.B

namespace Go.Proofs.YtgoeenodllmdpaaGreat.B
open Go.RowKit Go.Proofs
set_option linter.unusedVariables false
set_option linter.unusedSimpArgs false
variable {E:Env}
theorem St.far {H:Hp} {v:AV} {s:Sr} (h:St H v s):FarP false (fun _ _ _=>True) 0 H v s:=by
 obtain⟨a,b,c,d,lr,sr,e,h1,h2,h3,h4,h5,h6⟩:=h
 exact⟨a,b,c,d,lr,sr,e,h1,h2,All2.mono (fun _ _ ⟨u,k1,k2⟩=>⟨u,k1,k2,fun _ _=>Nat.zero_le _⟩) h3,h4,All2.mono (fun _ _ ⟨u,k1,k2,k3⟩=>⟨u,k1,k2,fun _ _=>Nat.zero_le _⟩) h5,h6,fun _ _=>Nat.zero_le _,trivial⟩
theorem St.fr6 {S:Nat->Prop} {H H':Hp} {v:AV} {s:Sr} (h:St H v s) (hf:Fr S H H') (hS:∀ y ob,S y->H.at y=some ob->ob.esz=6):St H' v s:=(h.far.fr hf (fun y hy=>.inr (fun ob ho=>hS y ob hy ho))).st
end Go.Proofs.YtgoeenodllmdpaaGreat.B

namespace Go.Proofs.YtgoeenodllmdpaaGreat.B
open Go.RowKit Go.Proofs
set_option linter.unusedVariables false
set_option linter.unusedSimpArgs false
end Go.Proofs.YtgoeenodllmdpaaGreat.B

namespace Go.Proofs.YtgoeenodllmdpaaGreat.B
open Go.RowKit Go.Proofs
set_option linter.unusedVariables false
set_option linter.unusedSimpArgs false
def cutK (keep:Int) (z:ByteArray × Nat):ByteArray:=z.1.extract 0 (z.2+1+keep.toNat)
theorem cutK_size (keep:Int) (z:ByteArray × Nat):(cutK keep z).size=min (z.2+1+keep.toNat) z.1.size:=by
 unfold cutK
 rw [ByteArray.size_extract]
 omega
theorem cutK_letter (keep:Int) (z:ByteArray × Nat) {d:Nat} (h:d<=z.2):letter (cutK keep z) d=letter z.1 d:=by
 have hs:=cutK_size keep z
 rcases Nat.lt_or_ge d z.1.size with h1 | h1
 ·rw [letter_in h1,letter_in (by omega)]
  unfold cutK
  simp [ByteArray.data_extract]
 ·rw [letter_end h1,letter_end (by omega)]
theorem cutK_rest (keep:Int) (z:ByteArray × Nat) {d:Nat} (h:d<=z.2):restK (cutK keep z) (d+1) keep=restK z.1 (d+1) keep:=by
 have hs:=cutK_size keep z
 unfold restK
 rw [hs]
 unfold cutK
 apply ByteArray.ext
 simp only [ByteArray.data_extract,Array.extract_extract]
 congr 1
 ·omega
 ·omega
def grpG {α:Type} (f:α->ByteArray) (d:Nat) (l:List α):List α:=match l with
 | []=>[]
 | z :: _=>l.filter (fun y=>letter (f y) d==letter (f z) d)
theorem grpG_map {α:Type} (f:α->ByteArray) (d:Nat) (l:List α):(grpG f d l).map f=grp d (l.map f):=by
 cases l with
 | nil=>rfl
 | cons z l =>
  unfold grpG grp
  simp only [List.map_cons]
  rw [<- List.map_cons,List.filter_map]
  rfl
theorem grpG_pos {α:Type} (f:α->ByteArray) (d:Nat) (z:α) (l:List α):0<(grpG f d (z :: l)).length:=by
 simp [grpG]
def brsG {α:Type} (f:α->ByteArray) (d:Nat):List α->List (List α)
 | []=>[]
 | z :: l=>grpG f d (z :: l) :: brsG f d ((z :: l).drop (grpG f d (z :: l)).length)
termination_by l=>l.length
decreasing_by
 have:=grpG_pos f d z l
 simp only [List.length_drop,List.length_cons]
 omega
theorem brsG_cons {α:Type} (f:α->ByteArray) (d:Nat) (z:α) (l:List α):brsG f d (z :: l)=grpG f d (z :: l) :: brsG f d ((z :: l).drop (grpG f d (z :: l)).length):=by rw [brsG]
theorem brsG_map {α:Type} (f:α->ByteArray) (d:Nat):∀ (n:Nat) (l:List α),l.length<=n->(brsG f d l).map (List.map f)=brs d (l.map f)
 | _,[],_=>by rw [brsG,List.map_nil,List.map_nil,brs]
 | 0,z :: l,h=>by simp at h
 | n+1,z :: l,h=>by
  have hp:=grpG_pos f d z l
  have hm:=grpG_map f d (z :: l)
  rw [brsG_cons,List.map_cons,hm,List.map_cons,brs_cons]
  congr 1
  have hl:(grp d (f z :: l.map f)).length=(grpG f d (z :: l)).length:=by
   rw [<- List.map_cons,<- hm,List.length_map]
  rw [brsG_map f d n _ (by simp only [List.length_drop,List.length_cons] at h ⊢; omega),hl,List.map_drop,List.map_cons]
theorem brsG_same {α:Type} {f g:α->ByteArray} {d:Nat}:∀ (n:Nat) (l:List α),l.length<=n->(∀ z∈l,letter (f z) d=letter (g z) d)->brsG f d l=brsG g d l
 | _,[],_,_=>by rw [brsG,brsG]
 | 0,z :: l,h,_=>by simp at h
 | n+1,z :: l,h,hs=>by
  have he:grpG f d (z :: l)=grpG g d (z :: l):=by
   unfold grpG
   simp only
   apply List.filter_congr
   intro y hy
   rw [hs y hy,hs z (by simp)]
  have hp:=grpG_pos f d z l
  rw [brsG_cons,brsG_cons,<- he]
  congr 1
  refine brsG_same n _ (by simp only [List.length_drop,List.length_cons] at h ⊢; omega) (fun y hy=>hs y (List.mem_of_mem_drop hy))
theorem grpG_sub {α:Type} (f:α->ByteArray) (d:Nat) (l:List α):(grpG f d l).Sublist l:=by
 cases l with
 | nil=>exact List.Sublist.refl _
 | cons z l=>exact List.filter_sublist
theorem brsG_mem {α:Type} (f:α->ByteArray) (d:Nat):∀ (n:Nat) (l:List α),l.length<=n->∀ g∈brsG f d l,∀ z∈g,z∈l
 | _,[],_,g,hg,_,_=>by rw [brsG] at hg; cases hg
 | 0,z :: l,h,_,_,_,_=>by simp at h
 | n+1,z :: l,h,g,hg,y,hy=>by
  have hp:=grpG_pos f d z l
  rw [brsG_cons] at hg
  rcases List.mem_cons.1 hg with rfl | hg
  ·exact (grpG_sub f d _).subset hy
  ·exact List.mem_of_mem_drop (brsG_mem f d n _ (by simp only [List.length_drop,List.length_cons] at h ⊢; omega) g hg y hy)
abbrev FkG (α:Type):=List α × Nat
def manyG {α:Type} (g:List α):Bool:=decide (1<g.length)
def kidsG {α:Type} (f:α->ByteArray) (q:FkG α):List (FkG α):=((brsG f q.2 q.1).filter manyG).map (fun g=>(g,q.2+1))
def toFk {α:Type} (f:α->ByteArray) (q:FkG α):Fk:=(q.1.map f,q.2)
theorem kidsG_map {α:Type} (f:α->ByteArray) (q:FkG α):(kidsG f q).map (toFk f)=kids (toFk f q):=by
 unfold kidsG kids subs toFk
 simp only
 rw [<- brsG_map f q.2 q.1.length q.1 (Nat.le_refl _),List.filter_map,List.map_map,List.map_map]
 congr 1
 apply List.filter_congr
 intro g _
 simp [manyG,many]
def Deep:Nat->FkG (ByteArray × Nat)->Prop
 | 0,_=>True
 | n+1,q=>(∀ z∈q.1,q.2<=z.2)/\∀ k∈kidsG Prod.fst q,Deep n k
theorem addBs_same {keep:Int} (d:Nat):∀ (gs:List (List (ByteArray × Nat))) (b:Bool) (s:Sv),s.k=keep->(∀ g∈gs,g≠[]/\∀ z∈g,d<=z.2)->addBs d b s (gs.map (List.map (cutK keep)))=addBs d b s (gs.map (List.map Prod.fst))
 | [],b,s,_,_=>rfl
 | g :: gs,b,s,hk,h=>by
  obtain⟨h1,h2⟩:=h g (by simp)
  have e:addB d b s (g.map (cutK keep))=addB d b s (g.map Prod.fst):=by
   cases g with
   | nil=>exact absurd rfl h1
   | cons z g =>
    have hz:=h2 z (by simp)
    simp only [addB,List.map_cons,List.headD_cons,many,List.length_cons,List.length_map]
    rw [cutK_letter keep z hz,hk,cutK_rest keep z hz]
  rw [List.map_cons,List.map_cons,addBs,addBs,e]
  exact addBs_same d gs false _ (by simp [addB,hk]) (fun x hx=>h x (List.mem_cons_of_mem _ hx))
theorem brsG_ne {α:Type} (f:α->ByteArray) (d:Nat):∀ (n:Nat) (l:List α),l.length<=n->∀ g∈brsG f d l,g≠[]
 | _,[],_,g,hg=>by rw [brsG] at hg; cases hg
 | 0,z :: l,h,_,_=>by simp at h
 | n+1,z :: l,h,g,hg=>by
  have hp:=grpG_pos f d z l
  rw [brsG_cons] at hg
  rcases List.mem_cons.1 hg with rfl | hg
  ·exact List.length_pos_iff.1 hp
  ·exact brsG_ne f d n _ (by simp only [List.length_drop,List.length_cons] at h ⊢; omega) g hg
theorem addBs_k (d:Nat):∀ (gs:List (List ByteArray)) (b:Bool) (s:Sv),(addBs d b s gs).k=s.k
 | [],_,_=>rfl
 | g :: gs,b,s=>by
  rw [addBs,addBs_k d gs]
  rfl
theorem bfs_same {keep:Int}:∀ (n:Nat) (q:List (FkG (ByteArray × Nat))) (s:Sv),s.k=keep->(∀ f∈q,∀ m,Deep m f)->bfs n (q.map (toFk (cutK keep))) s=bfs n (q.map (toFk Prod.fst)) s
 | 0,q,s,_,_=>rfl
 | n+1,[],s,_,_=>rfl
 | n+1,f :: q,s,hk,hq=>by
  have h1:=(hq f (by simp) 1).1
  have h2:∀ k∈kidsG Prod.fst f,∀ m,Deep m k:=fun k hk m=>(hq f (by simp) (m+1)).2 k hk
  have hl:brsG (cutK keep) f.2 f.1=brsG Prod.fst f.2 f.1:=brsG_same f.1.length f.1 (Nat.le_refl _) (fun z hz=>cutK_letter keep z (h1 z hz))
  have hkids:(kidsG Prod.fst f).map (toFk (cutK keep))=kids (toFk (cutK keep) f):=by
   rw [<- kidsG_map]
   unfold kidsG
   rw [hl]
  have e1:brs f.2 (f.1.map (cutK keep))=(brsG Prod.fst f.2 f.1).map (List.map (cutK keep)):=by
   rw [<- brsG_map _ _ f.1.length f.1 (Nat.le_refl _),hl]
  have e2:brs f.2 (f.1.map Prod.fst)=(brsG Prod.fst f.2 f.1).map (List.map Prod.fst):=by
   rw [<- brsG_map _ _ f.1.length f.1 (Nat.le_refl _)]
  have ea:=addBs_same (keep:=keep) f.2 (brsG Prod.fst f.2 f.1) true s hk (fun g hg=>⟨brsG_ne _ _ f.1.length f.1 (Nat.le_refl _) g hg,fun z hz=>h1 z (brsG_mem _ _ f.1.length f.1 (Nat.le_refl _) g hg z hz)⟩)
  have eb:∀ (h:ByteArray × Nat->ByteArray),bfs (n+1) ((f :: q).map (toFk h)) s=bfs n (q.map (toFk h)++kids (toFk h f)) (addBs f.2 true s (brs f.2 (f.1.map h))):=fun h=>rfl
  rw [eb,eb,e1,e2,ea,<- hkids,<- kidsG_map,<- List.map_append,<- List.map_append]
  have hkk:∀ (gs:List (List ByteArray)),(addBs f.2 true s gs).k=keep:=fun gs=>by rw [addBs_k,hk]
  refine bfs_same n (q++kidsG Prod.fst f) _ (hkk _) (fun x hx=>?_)
  rcases List.mem_append.1 hx with hx | hx
  ·exact hq x (List.mem_cons_of_mem _ hx)
  ·exact h2 x hx
def leafs:Nat->List ByteArray->Nat->List (ByteArray × Nat)
 | 0,_,_=>[]
 | n+1,ks,d=>(brs d ks).flatMap (fun g=>if many g=true then leafs n g (d+1) else [(g.headD ⟨#[]⟩,d)])
theorem brs_flat {d:Nat}:∀ (n:Nat) {ks:List ByteArray},ks.length<=n->SP d ks->(brs d ks).flatten=ks
 | _,[],_,_=>by rw [brs]; rfl
 | 0,k :: ks,h,_=>by simp at h
 | n+1,k :: ks,h,hs=>by
  have hp:=grp_pos d k ks
  obtain⟨e1,e2⟩:=grp_take hs
  rw [brs_cons,List.flatten_cons,brs_flat n (by simp only [List.length_drop,List.length_cons] at h ⊢; omega) (hs.sub (List.drop_sublist _ _))]
  conv=>lhs; lhs; rw [e1,<- e2]
  exact List.take_append_drop _ _
theorem brs_ne:∀ (n d:Nat) (ks:List ByteArray),ks.length<=n->∀ g∈brs d ks,g≠[]
 | _,d,[],_,g,hg=>by rw [brs] at hg; cases hg
 | 0,d,k :: ks,h,_,_=>by simp at h
 | n+1,d,k :: ks,h,g,hg=>by
  have hp:=grp_pos d k ks
  rw [brs_cons] at hg
  rcases List.mem_cons.1 hg with rfl | hg
  ·exact List.length_pos_iff.1 hp
  ·exact brs_ne n d _ (by simp only [List.length_drop,List.length_cons] at h ⊢; omega) g hg
theorem mem_tw {α:Type} {p:α->Bool}:∀ {l:List α} {y:α},y∈l.takeWhile p->p y=true
 | a :: l,y,h=>by
  rw [List.takeWhile_cons] at h
  split at h
  ·rcases List.mem_cons.1 h with rfl | h
   ·assumption
   ·exact mem_tw h
  ·cases h
theorem leafs_fst:∀ (n:Nat) {ks:List ByteArray} {d:Nat},SP d ks->Good (ks,d)->7<=n+d->(leafs n ks d).map Prod.fst=ks
 | 0,ks,d,_,hg,hn=>by
  have:=hg.deep
  simp only at this
  omega
 | n+1,ks,d,hs,hg,hn=>by
  have key:∀ (gs:List (List ByteArray)),(∀ g∈gs,g∈brs d ks)->(gs.flatMap (fun g=>if many g=true then leafs n g (d+1) else [(g.headD ⟨#[]⟩,d)])).map Prod.fst=gs.flatten:=by
   intro gs
   induction gs with
   | nil=>intro _; rfl
   | cons g gs ih =>
    intro hm
    have hgm:=hm g (by simp)
    rw [List.flatMap_cons,List.map_append,List.flatten_cons,ih (fun x hx=>hm x (List.mem_cons_of_mem _ hx))]
    congr 1
    cases hmg:many g with
    | true =>
     rw [if_pos rfl]
     exact leafs_fst n (SP.of_brs ks.length d (Nat.le_refl _) hs g hgm) (kid_good hg hgm hmg) (by omega)
    | false =>
     rw [if_neg (by simp)]
     have hl:g.length<=1:=by simpa [many] using hmg
     have hne:g≠[]:=brs_ne ks.length d ks (Nat.le_refl _) g hgm
     match g,hl,hne with
     | [x],_,_=>rfl
  rw [leafs,key _ (fun g h=>h),brs_flat ks.length (Nat.le_refl _) hs]
theorem leafs_deep:∀ (n:Nat) (ks:List ByteArray) (d:Nat),∀ z∈leafs n ks d,d<=z.2
 | 0,_,_,z,hz=>by cases hz
 | n+1,ks,d,z,hz=>by
  rw [leafs] at hz
  obtain⟨g,hg,hz⟩:=List.mem_flatMap.1 hz
  split at hz
  ·have:=leafs_deep n g (d+1) z hz
   omega
  ·rw [List.mem_singleton.1 hz]
   exact Nat.le_refl _
theorem parts_eq {α:Type}:∀ {xs ys:List (List α)},xs.flatten=ys.flatten->xs.map List.length=ys.map List.length->xs=ys
 | [],[],_,_=>rfl
 | [],_ :: _,_,h=>by simp at h
 | _ :: _,[],_,h=>by simp at h
 | x :: xs,y :: ys,h,hl=>by
  simp only [List.map_cons,List.cons.injEq] at hl
  simp only [List.flatten_cons] at h
  have hxy:x=y:=by
   have:=congrArg (List.take x.length) h
   rw [List.take_left,hl.1,List.take_left] at this
   exact this
  subst hxy
  have:=List.append_cancel_left h
  rw [parts_eq this hl.2]
theorem brsG_flat {d:Nat}:∀ (n:Nat) {zs:List (ByteArray × Nat)},zs.length<=n->SP d (zs.map Prod.fst)->(brsG Prod.fst d zs).flatten=zs
 | _,[],_,_=>by rw [brsG]; rfl
 | 0,k :: ks,h,_=>by simp at h
 | n+1,z :: zs,h,hs=>by
  have hp:=grpG_pos Prod.fst d z zs
  have hm:=grpG_map Prod.fst d (z :: zs)
  have e:grpG Prod.fst d (z :: zs)=(z :: zs).take (grpG Prod.fst d (z :: zs)).length:=by
   rw [List.map_cons] at hs hm
   obtain⟨e1,e2⟩:=grp_take hs
   -- a filter that keeps as many at the front as it keeps at all
   have hlen:(grpG Prod.fst d (z :: zs)).length=cnt d (z.1 :: zs.map Prod.fst):=by
    rw [<- e2,<- hm,List.length_map]
   unfold grpG at hlen ⊢
   simp only at hlen ⊢
   rw [List.filter_cons,if_pos (by simp)] at hlen ⊢
   have hf:zs.filter (fun y=>letter y.1 d==letter z.1 d)=zs.takeWhile (fun y=>letter y.1 d==letter z.1 d):=by
    have h3:((zs.map Prod.fst).filter (fun x=>letter x d==letter z.1 d)).length=((zs.map Prod.fst).takeWhile (fun x=>letter x d==letter z.1 d)).length:=by
     rw [cnt] at hlen
     simp only [List.length_cons] at hlen
     rw [List.filter_map,List.length_map]
     have:(zs.filter ((fun x=>letter x d==letter z.1 d) ∘ Prod.fst)).length=(zs.filter (fun y=>letter y.1 d==letter z.1 d)).length:=rfl
     omega
    have h4:(zs.takeWhile (fun y=>letter y.1 d==letter z.1 d)).length=((zs.map Prod.fst).takeWhile (fun x=>letter x d==letter z.1 d)).length:=by
     rw [List.takeWhile_map,List.length_map]
     rfl
    have h5:(zs.filter (fun y=>letter y.1 d==letter z.1 d)).length=((zs.map Prod.fst).filter (fun x=>letter x d==letter z.1 d)).length:=by
     rw [List.filter_map,List.length_map]
     rfl
    have hsub:(zs.takeWhile (fun y=>letter y.1 d==letter z.1 d)).Sublist (zs.filter (fun y=>letter y.1 d==letter z.1 d)):=by
     have:=(List.takeWhile_sublist (l:=zs) (fun y=>letter y.1 d==letter z.1 d)).filter (fun y=>letter y.1 d==letter z.1 d)
     rwa [List.filter_eq_self.2 (fun y hy=>mem_tw (p:=fun y:ByteArray × Nat=>letter y.1 d==letter z.1 d) hy)] at this
    exact (hsub.eq_of_length (by omega)).symm
   rw [hf,List.length_cons,List.take_succ_cons]
   congr 1
   exact List.prefix_iff_eq_take.1 (List.takeWhile_prefix _)
  rw [brsG_cons,List.flatten_cons,brsG_flat n (by simp only [List.length_drop,List.length_cons] at h ⊢; omega) (by rw [List.map_drop]; exact hs.sub (List.drop_sublist _ _))]
  conv=>lhs; lhs; rw [e]
  exact List.take_append_drop _ _
def sgm (n d:Nat) (g:List ByteArray):List (ByteArray × Nat):=if many g=true then leafs n g (d+1) else [(g.headD ⟨#[]⟩,d)]
theorem leafs_succ (n:Nat) (ks:List ByteArray) (d:Nat):leafs (n+1) ks d=((brs d ks).map (sgm n d)).flatten:=by
 rw [leafs,List.flatMap]
 rfl
theorem sgm_fst {n d:Nat} {ks g:List ByteArray} (hs:SP d ks) (hg:Good (ks,d)) (hn:7<=n+1+d) (hm:g∈brs d ks):(sgm n d g).map Prod.fst=g:=by
 unfold sgm
 cases hmg:many g with
 | true =>
  rw [if_pos rfl]
  exact leafs_fst n (SP.of_brs ks.length d (Nat.le_refl _) hs g hm) (kid_good hg hm hmg) (by omega)
 | false =>
  rw [if_neg (by simp)]
  have hl:g.length<=1:=by simpa [many] using hmg
  have hne:g≠[]:=brs_ne ks.length d ks (Nat.le_refl _) g hm
  match g,hl,hne with
  | [x],_,_=>rfl
theorem leafs_brs {n d:Nat} {ks:List ByteArray} (hs:SP d ks) (hg:Good (ks,d)) (hn:7<=n+1+d):brsG Prod.fst d (leafs (n+1) ks d)=(brs d ks).map (sgm n d):=by
 have hf:=leafs_fst (n+1) hs hg hn
 apply parts_eq
 ·rw [brsG_flat _ (Nat.le_refl _) (by rw [hf]; exact hs),leafs_succ]
 ·have h1:=brsG_map Prod.fst d _ (leafs (n+1) ks d) (Nat.le_refl _)
  rw [hf] at h1
  have h2:(brsG Prod.fst d (leafs (n+1) ks d)).map List.length=(brs d ks).map List.length:=by
   rw [<- h1,List.map_map]
   apply List.map_congr_left
   intro x _
   simp
  rw [h2,List.map_map]
  apply List.map_congr_left
  intro g hgm
  have:=congrArg List.length (sgm_fst hs hg hn hgm)
  rw [List.length_map] at this
  exact this.symm
theorem leafs_Deep:∀ (m n:Nat) (ks:List ByteArray) (d:Nat),SP d ks->Good (ks,d)->7<=n+d->Deep m (leafs n ks d,d)
 | 0,_,_,_,_,_,_=>trivial
 | m+1,0,ks,d,_,hg,hn=>by
  have:=hg.deep
  simp only at this
  omega
 | m+1,n+1,ks,d,hs,hg,hn=>by
  refine⟨fun z hz=>leafs_deep (n+1) ks d z hz,fun k hk=>?_⟩
  unfold kidsG at hk
  simp only at hk
  rw [leafs_brs hs hg hn] at hk
  obtain⟨x,hx,rfl⟩:=List.mem_map.1 hk
  obtain⟨hx1,hx2⟩:=List.mem_filter.1 hx
  obtain⟨g,hgm,rfl⟩:=List.mem_map.1 hx1
  have hlen:(sgm n d g).length=g.length:=by
   have:=congrArg List.length (sgm_fst hs hg hn hgm)
   rw [List.length_map] at this
   exact this
  have hmg:many g=true:=by
   have h3:1<(sgm n d g).length:=by simpa [manyG] using hx2
   simp only [many,decide_eq_true_eq]
   omega
  have e:sgm n d g=leafs n g (d+1):=by
   unfold sgm
   rw [if_pos hmg]
  rw [e]
  exact leafs_Deep m n g (d+1) (SP.of_brs ks.length d (Nat.le_refl _) hs g hgm) (kid_good hg hgm hmg) (by omega)
def headsR (ks:List ByteArray) (keep:Int):List ByteArray:=(leafs 7 ks 0).map (cutK keep)
theorem sieve_heads {ks:List ByteArray} {keep:Int} (h:keysOk ks=true):sieveR (headsR ks keep) keep=sieveR ks keep:=by
 have hs:=SP.of_keys h
 have hg:=(keysOk_good h).1
 have:=bfs_same (keep:=keep) 500 [(leafs 7 ks 0,0)] ⟨⟨#[]⟩,⟨#[]⟩,⟨#[]⟩,[],keep⟩ rfl (fun f hf m=>by
  rw [List.mem_singleton.1 hf]
  exact leafs_Deep m 7 ks 0 hs hg (by omega))
 have hf:=leafs_fst 7 hs hg (by omega)
 simp only [List.map_cons,List.map_nil,toFk] at this
 rw [hf] at this
 exact this
theorem keyOk_cut {keep:Int} {z:ByteArray × Nat} (h:keyOk z.1=true):keyOk (cutK keep z)=true:=by
 have hs:=cutK_size keep z
 simp only [keyOk,decide_eq_true_eq] at h ⊢
 refine⟨fun i hi=>?_,by omega⟩
 have h1:=h.1 i (by omega)
 have e:letter (cutK keep z) i=letter z.1 i:=by
  rw [letter_in hi,letter_in (show i<z.1.size by omega)]
  unfold cutK
  simp [ByteArray.data_extract]
 rw [<- letter_lt hi,e,letter_lt (show i<z.1.size by omega)]
 exact h1
theorem sless_of {a b:ByteArray} (ha:keyOk a=true) (hb:keyOk b=true) {j:Nat} (h1:∀ i,i<j->letter a i=letter b i) (h2:(letter a j).toNat<(letter b j).toNat):sless a b=true:=by
 rcases sless_total a b with h | h | h
 ·exact h
 ·rw [h] at h2
  omega
 ·have:=letters_le hb ha h (fun i hi=>(h1 i hi).symm)
  omega
theorem brs_pw {d:Nat}:∀ (n:Nat) {ks:List ByteArray},ks.length<=n->SP d ks->(brs d ks).Pairwise (fun g h=>∀ x∈g,∀ y∈h,(letter x d).toNat<(letter y d).toNat)
 | _,[],_,_=>by rw [brs]; exact List.Pairwise.nil
 | 0,k :: ks,h,_=>by simp at h
 | n+1,k :: ks,h,hs=>by
  have hp:=grp_pos d k ks
  obtain⟨e1,e2⟩:=grp_take hs
  have hdl:((k :: ks).drop (grp d (k :: ks)).length).length<=n:=by simp only [List.length_drop,List.length_cons] at h ⊢; omega
  rw [brs_cons]
  refine List.pairwise_cons.2 ⟨fun g hg x hx y hy=>?_,brs_pw n hdl (hs.sub (List.drop_sublist _ _))⟩
  obtain⟨ks',hsub,rfl⟩:=brs_sub _ d _ (Nat.le_refl _) g hg
  have hyd:y∈(k :: ks).drop (grp d (k :: ks)).length:=hsub.subset ((grp_sub d ks').subset hy)
  have hxt:x∈(k :: ks).take (grp d (k :: ks)).length:=by rw [e2,<- e1]; exact hx
  have hpw:=hs.pw
  rw [<- List.take_append_drop (grp d (k :: ks)).length (k :: ks)] at hpw
  have hxy:=(List.pairwise_append.1 hpw).2.2 x hxt y hyd
  have hxk:x∈k :: ks:=List.mem_of_mem_take hxt
  have hyk:y∈k :: ks:=List.mem_of_mem_drop hyd
  have hle:=letters_le (hs.ok x hxk) (hs.ok y hyk) hxy.1 hxy.2
  have hne:letter x d≠letter y d:=by
   intro e
   -- then y would be in the first group,of which there is nothing left behind
   have hx3:letter x d=letter k d:=by
    unfold grp at hx
    simp only at hx
    simpa using (List.mem_filter.1 hx).2
   have hcount:(grp d (k :: ks)).length=(((k :: ks).take (grp d (k :: ks)).length).filter (fun z=>letter z d==letter k d)).length+(((k :: ks).drop (grp d (k :: ks)).length).filter (fun z=>letter z d==letter k d)).length:=by
    rw [<- List.length_append,<- List.filter_append,List.take_append_drop]
    rfl
   have h0:0<(((k :: ks).drop (grp d (k :: ks)).length).filter (fun z=>letter z d==letter k d)).length:=by
    apply List.length_pos_of_mem
    exact List.mem_filter.2 ⟨hyd,by simp [<- e,hx3]⟩
   have h3:((k :: ks).take (grp d (k :: ks)).length).filter (fun z=>letter z d==letter k d)=(k :: ks).take (grp d (k :: ks)).length:=by
    apply List.filter_eq_self.2
    intro z hz
    rw [e2,<- e1] at hz
    unfold grp at hz
    simp only at hz
    exact (List.mem_filter.1 hz).2
   rw [h3,List.length_take] at hcount
   have:=(grp_sub d (k :: ks)).length_le
   omega
  have:(letter x d).toNat≠(letter y d).toNat:=fun e=>hne (UInt8.toNat_inj.1 e)
  omega
def Told (z w:ByteArray × Nat):Prop:=∃ j,j<=z.2/\j<=w.2/\(∀ i,i<j->letter z.1 i=letter w.1 i)/\(letter z.1 j).toNat<(letter w.1 j).toNat
theorem leafs_told:∀ (n:Nat) (ks:List ByteArray) (d:Nat),SP d ks->Good (ks,d)->7<=n+d->(leafs n ks d).Pairwise Told
 | 0,_,_,_,_,_=>List.Pairwise.nil
 | n+1,ks,d,hs,hg,hn=>by
  rw [leafs_succ,List.pairwise_flatten]
  refine⟨fun l hl=>?_,?_⟩
  ·obtain⟨g,hgm,rfl⟩:=List.mem_map.1 hl
   unfold sgm
   cases hmg:many g with
   | true =>
    rw [if_pos rfl]
    exact leafs_told n g (d+1) (SP.of_brs ks.length d (Nat.le_refl _) hs g hgm) (kid_good hg hgm hmg) (by omega)
   | false =>
    rw [if_neg (by simp)]
    exact List.pairwise_singleton _ _
  ·rw [List.pairwise_map]
   refine (brs_pw ks.length (Nat.le_refl _) hs).imp_of_mem (fun {g h} hgm hhm hgh z hz w hw=>?_)
   have hzg:z.1∈g:=by rw [<- sgm_fst hs hg hn hgm]; exact List.mem_map_of_mem hz
   have hwh:w.1∈h:=by rw [<- sgm_fst hs hg hn hhm]; exact List.mem_map_of_mem hw
   have dz:d<=z.2:=leafs_deep (n+1) ks d z (by rw [leafs_succ]; exact List.mem_flatten.2 ⟨_,List.mem_map_of_mem hgm,hz⟩)
   have dw:d<=w.2:=leafs_deep (n+1) ks d w (by rw [leafs_succ]; exact List.mem_flatten.2 ⟨_,List.mem_map_of_mem hhm,hw⟩)
   have hzk:z.1∈ks:=by
    rw [<- brs_flat ks.length (Nat.le_refl _) hs]
    exact List.mem_flatten.2 ⟨g,hgm,hzg⟩
   have hwk:w.1∈ks:=by
    rw [<- brs_flat ks.length (Nat.le_refl _) hs]
    exact List.mem_flatten.2 ⟨h,hhm,hwh⟩
   exact⟨d,dz,dw,fun i hi=>hg.2.2.1 z.1 hzk w.1 hwk i hi,hgh _ hzg _ hwh⟩
theorem heads_pw {ks:List ByteArray} {keep:Int} (h:keysOk ks=true):(headsR ks keep).Pairwise (fun a b=>sless a b=true):=by
 have hs:=SP.of_keys h
 have hf:=leafs_fst 7 hs (keysOk_good h).1 (by omega)
 have hk:∀ z∈leafs 7 ks 0,keyOk z.1=true:=fun z hz=>hs.ok z.1 (by rw [<- hf]; exact List.mem_map_of_mem hz)
 unfold headsR
 rw [List.pairwise_map]
 refine (leafs_told 7 ks 0 hs (keysOk_good h).1 (by omega)).imp_of_mem (fun {z w} hz hw ⟨j,h1,h2,h3,h4⟩=>?_)
 refine sless_of (keyOk_cut (hk z hz)) (keyOk_cut (hk w hw)) (j:=j) (fun i hi=>?_) ?_
 ·rw [cutK_letter keep z (by omega),cutK_letter keep w (by omega)]
  exact h3 i hi
 ·rw [cutK_letter keep z h1,cutK_letter keep w h2]
  exact h4
end Go.Proofs.YtgoeenodllmdpaaGreat.B

namespace Go.Proofs.YtgoeenodllmdpaaGreat.B
open Go.RowKit Go.Proofs
set_option linter.unusedVariables false
set_option linter.unusedSimpArgs false
variable {E:Env}
theorem recs_d (d:Nat):∀ (gs:List (List ByteArray)) (b:Bool),∀ x∈recs d b gs,x.d=d
 | [],_,x,h=>by cases h
 | g :: gs,b,x,h=>by
  rw [recs] at h
  rcases List.mem_cons.1 h with rfl | h
  ·rfl
  ·exact recs_d d gs false x h
theorem Tr.lmono {ks:List ByteArray} {F:List Fk} {L:List Br} (h:Tr ks F L):L.Pairwise (fun a b=>a.d<=b.d):=by
 rw [h.l,List.pairwise_flatMap]
 refine⟨fun f _=>?_,h.mono.imp (fun {a b} hab x hx y hy=>?_)⟩
 ·refine List.pairwise_iff_forall_sublist.2 (fun {a b} hab=>?_)
  have ha:=recs_d f.2 _ _ a (hab.subset (by simp))
  have hb:=recs_d f.2 _ _ b (hab.subset (by simp))
  omega
 ·have hx:=recs_d a.2 _ _ x hx
  have hy:=recs_d b.2 _ _ y hy
  omega
theorem Tr.later {ks:List ByteArray} {F:List Fk} {L:List Br} (h:Tr ks F L) {p q:Nat} (hp:p<L.length) (hq:q<L.length) (hd:(L[q]).d=(L[p]).d+1):p<q:=by
 rcases Nat.lt_trichotomy p q with h1 | h1 | h1
 ·exact h1
 ·subst h1
  omega
 ·have:=List.pairwise_iff_getElem.1 h.lmono q p hq hp h1
  omega
theorem ba_toList (x:ByteArray) (a b:Nat):(x.extract a b).data.toList=(x.data.toList.drop a).take (b-a):=by
 rw [ByteArray.data_extract,Array.toList_extract]
theorem ba_ext {x y:ByteArray} (h:x.data.toList=y.data.toList):x=y:=ByteArray.ext (Array.toList_inj.1 h)
theorem ba_len (x:ByteArray):x.data.toList.length=x.size:=Array.length_toList
theorem letter_get {x:ByteArray} {d:Nat} (h:d<x.size):x.data.toList[d]'(by rw [ba_len]; exact h)=letter x d:=by
 rw [letter_in h]
 simp
theorem way_more {x:ByteArray} {d:Nat} (h:d<x.size):x.extract 0 d++lit1 (letter x d)=x.extract 0 (d+1):=by
 apply ba_ext
 rw [ba_app,ba_toList,ba_toList]
 simp only [List.drop_zero,Nat.sub_zero]
 rw [List.take_succ_eq_append_getElem (by rw [ba_len]; exact h),letter_get h]
 rfl
theorem leaf_text {keep:Int} {x way:ByteArray} {d:Nat} (hk:keyOk x=true) (h0:0<=keep) (hw:x.extract 0 d=way) (hs:way.size=d):(if letter x d=45 then way else way++lit1 (letter x d))++restK x (d+1) keep=cutK keep (x,d):=by
 have hxs:d<=x.size:=by
  rw [<- hw,ByteArray.size_extract] at hs
  omega
 have hrest:restK x (d+1) keep=(x.extract (d+1) x.size).extract 0 (min (x.size-(d+1)) keep.toNat):=rfl
 have hcut:cutK keep (x,d)=x.extract 0 (d+1+keep.toNat):=rfl
 rw [hrest,hcut]
 have hlen:=ba_len x
 by_cases hl:letter x d=45
 ·rw [if_pos hl,<- hw]
  have hxd:=(letter_ok hk d).1 hl
  apply ba_ext
  rw [ba_app,ba_toList,ba_toList,ba_toList,ba_toList]
  simp only [List.drop_zero,Nat.sub_zero]
  rw [List.drop_of_length_le (by omega),List.take_nil,List.take_nil,List.append_nil,List.take_of_length_le (by omega),List.take_of_length_le (by omega)]
 ·rw [if_neg hl]
  have hd:d<x.size:=by
   rcases Nat.lt_or_ge d x.size with h | h
   ·exact h
   ·exact absurd ((letter_ok hk d).2 h) hl
  rw [<- hw,way_more hd]
  apply ba_ext
  rw [ba_app,ba_toList,ba_toList,ba_toList,ba_toList]
  simp only [List.drop_zero,Nat.sub_zero]
  have e1:List.take (d+1+keep.toNat) x.data.toList=List.take (d+1) x.data.toList++List.take keep.toNat (List.drop (d+1) x.data.toList):=List.take_add
  rw [e1]
  congr 1
  rw [List.take_take,List.take_eq_take_iff,List.length_drop,hlen]
  omega
end Go.Proofs.YtgoeenodllmdpaaGreat.B

namespace Go.Proofs.YtgoeenodllmdpaaGreat.B
open Go.RowKit Go.Proofs
set_option linter.unusedVariables false
set_option linter.unusedSimpArgs false
variable {E:Env}
def partRow (keep:Int) (z:ByteArray × Nat):List AV:=[.str (cutK keep z),.bool (wholeK z.1 z.2 keep)]
def KeepP (H H':Hp):Prop:=H.length<=H'.length/\∀ y ob,H.at y=some ob->ob.ety≠216->H'.at y=some ob
theorem KeepP.trans {a b c:Hp} (h:KeepP a b) (k:KeepP b c):KeepP a c:=⟨Nat.le_trans h.1 k.1,fun y ob ho he=>k.2 y ob (h.2 y ob ho he) he⟩
theorem HLe.keepP {a b:Hp} (h:HLe a b):KeepP a b:=⟨h.1,fun y ob ho _=>h.2 y ob ho⟩
theorem g_more {ks g:List ByteArray} {d:Nat} (hs:SP d ks) (hg:g∈brs d ks) (hm:many g=true):∀ y∈g,d<y.size/\letter y d≠45/\letter y d=letter (g.headD ⟨#[]⟩) d:=by
 have h2:=SP.of_brs ks.length d (Nat.le_refl _) hs g hg
 have hlen:2<=g.length:=by
  have:1<g.length:=by simpa [many] using hm
  omega
 intro y hy
 have hsz:=h2.size hlen y hy
 have hne:letter y d≠45:=fun e=>by
  have:=(letter_ok (h2.ok y hy) d).1 e
  omega
 refine⟨by omega,hne,?_⟩
 obtain⟨ks',_,rfl⟩:=brs_sub ks.length d ks (Nat.le_refl _) g hg
 match hk:grp d ks',hy with
 | a :: r,hy =>
  refine grp_same (d:=d) (ks:=ks') (by rw [hk]; exact hy) (by rw [hk]; simp)
theorem cG_mid {C:CallP} (hm:CMono C) {q:Bool} {a b:CC} {K:Tm->Hp->Prop} {Q:Ex->Tm->Hp->Prop} {t:Tm} {H:Hp} (I:Tm->Hp->Prop) (h1:cG (.bool q) C a b (thenX I Q) t H) (h2:∀ t H,I t H->K t H):cG (.bool q) C a b (thenX K Q) t H:=by
 have key:∀ (e:Ex) (t:Tm) (H:Hp),thenX I Q e t H->thenX K Q e t H:=by
  intro e t H h
  cases e with
  | normal=>exact h2 _ _ h
  | exit id=>exact h
  | ret=>exact h
 exact⟨fun e=>W_mono hm a _ _ t H key (h1.1 e),fun e=>W_mono hm b _ _ t H key (h1.2 e)⟩
theorem Svt.cut1 {ks:List ByteArray} {keep:Int} {F:List Fk} {L:List Br} {s:Sv} (h:Svt ks keep F L s) {p:Nat} (hp:p<L.length):s.l.extract p (p+1)=lit1 (L[p].ltr):=by
 apply ba_ext
 rw [ba_toList,h.en.l,show p+1-p=1 by omega,List.drop_eq_getElem_cons (by simpa using hp),List.getElem_map]
 rfl
theorem flat_take {β:Type} {f:List ByteArray->List β}:∀ {gs:List (List ByteArray)} {i:Nat} (hi:i<gs.length),(∀ g∈gs,(f g).length=g.length)->((gs.take i).map f).flatten.length+gs[i].length<=gs.flatten.length
 | g :: gs,0,_,_=>by simp
 | g :: gs,i+1,hi,hf=>by
  have ih:=flat_take (f:=f) (gs:=gs) (i:=i) (by simpa using hi) (fun x hx=>hf x (List.mem_cons_of_mem _ hx))
  have h1:=hf g (by simp)
  simp only [List.take_succ_cons,List.map_cons,List.flatten_cons,List.length_append,List.getElem_cons_succ]
  omega
theorem flat_succ {β:Type} {f:List ByteArray->List β} {gs:List (List ByteArray)} {i:Nat} (hi:i<gs.length):((gs.take (i+1)).map f).flatten=((gs.take i).map f).flatten++f gs[i]:=by
 rw [List.take_succ_eq_append_getElem hi,List.map_append,List.flatten_append]
 simp
def PtK (p q:Nat) (way nx:ByteArray) (w:AV) (H H':Hp) (t:Tm) (K:Hp):Prop:=t 2=.str way/\t 3=w/\t 4=.pt H.length 0 0/\t 12=.int .i64 p/\t 11=.int .i64 q/\t 13=.str nx/\K=H'
def PtJ (keep:Int) (n d a q:Nat) (gs:List (List ByteArray)) (way:ByteArray) (out:List (ByteArray × Nat)) (s:Sv) (r:AV) (H0 H:Hp) (m:Nat) (t:Tm) (H':Hp):Prop:=∃ (i p:Nat) (w:AV),i+m=gs.length/\p=a+i/\t 2=.str way/\t 3=w/\t 4=.pt H.length 0 0/\t 12=.int .i64 p/\t 11=.int .i64 q/\HLe H0 H'/\KeepP H H' /\
 OwnM 2 216 (partRow keep) H0 H' w (out++((gs.take i).map (sgm n d)).flatten)/\H'.at H.length=some ⟨[[.str s.l,.str s.m,.str s.f,r,.int .i64 s.k]],5,66,false⟩
theorem leafs_len {n d:Nat} {ks:List ByteArray} (hs:SP d ks) (hg:Good (ks,d)) (hn:7<=n+d):(leafs n ks d).length=ks.length:=by
 have:=congrArg List.length (leafs_fst n hs hg hn)
 rwa [List.length_map] at this
set_option maxHeartbeats 3200000 in
theorem parts_ok (s:Sv) (r:AV) (ks:List ByteArray) (keep:Int) (F:List Fk) (L:List Br) (H0:Hp) (h:Svt ks keep F L s) (hke:ks≠[]) (hr:Strs H0 r s.r) :
  ∀ (n j d:Nat) (ks':List ByteArray) (way:ByteArray) (v:AV) (out:List (ByteArray × Nat)) (H:Hp),F[j]?=some (ks',d)->7<=n+d->way.size=d->(∀ x∈ks',x.extract 0 d=way)->HLe H0 H->OwnM 2 216 (partRow keep) H0 H v out->out.length+ks'.length<=1000000 ->
  AC Tryz.prog E 236 [svAV s r,.int .i64 j,.str way,v] H (fun u H'=>∃ w,u=.tu [w,.bool true]/\HLe H0 H'/\KeepP H H'/\OwnM 2 216 (partRow keep) H0 H' w (out++leafs n ks' d))
 | 0,j,d,ks',way,v,out,H,hj,hn,_,_,_,_,_=>by
  obtain⟨hjl,hje⟩:=List.getElem?_eq_some_iff.1 hj
  have hgd:=h.tr.good F[j] (List.getElem_mem hjl)
  rw [hje] at hgd
  have:=hgd.deep
  simp only at this
  omega
 | n+1,j,d,ks',way,v,out,H,hj,hn,hws,hway,hle0,hv,hlen=>by
  have ih:=parts_ok s r ks keep F L H0 h hke hr n
  obtain⟨hjl,hje⟩:=List.getElem?_eq_some_iff.1 hj
  have hgd:=h.tr.good F[j] (List.getElem_mem hjl)
  have hsp:=h.tr.sp F[j] (List.getElem_mem hjl)
  rw [hje] at hgd hsp
  have hd5:d<=5:=hgd.deep
  have hr1:=Rows.one hr
  have hll:=h.len
  have hjb:j<1099511627776:=by
   have e:=congrArg List.length h.tr.f
   rw [List.length_cons,List.length_map] at e
   have:=List.length_filter_le Br.many L
   omega
  refine AC_by fol (tC_le tabJ_ok) h_impl_Sieve_parts ?_
  obtain⟨H1,hH1,hle1,b0⟩:=svBox s r H
  have hwI:¬((5:Int)<way.size):=by omega
  simp [c_impl_Sieve_parts,svAV,hr1,<- hH1,hwI,b0]
  have cB:=branches_ok (E:=E) s r (L.map (·.fst)) j H1 hr1 h.bf (by rw [List.length_map]; omega) hjb
  simp only [svAV] at cB
  refine cg_use cB ?_
  obtain⟨a,p1,p2,p3,p4,p5⟩:=h.tr.span hke hjl
  have p6:∀ (i:Nat) (hi:i<(brs d ks').length) (hl:a+i<L.length),(L[a+i]).g=(brs d ks')[i]/\(L[a+i]).d=d:=by
   intro i hi hl
   have:=p5 i (by rw [hje]; exact hi) hl
   simp only [hje] at this
   exact this
  clear p5
  simp only [hje] at p2 p3 p4
  have hflat:=brs_flat ks'.length (Nat.le_refl _) hsp
  have hleafs:=leafs_succ n ks' d
  have hsf:∀ g∈brs d ks',(sgm n d g).map Prod.fst=g:=fun g hg=>sgm_fst hsp hgd (by omega) hg
  obtain⟨gs,hgs⟩:∃ gs,gs=brs d ks':=⟨_,rfl⟩
  have hgm:∀ g∈gs,g∈brs d ks':=by rw [hgs]; exact fun g h=>h
  simp only [<- hgs] at p2 p3 p4 p6 hflat hleafs hsf
  obtain⟨q,hqa⟩:∃ q:Nat,q=a+gs.length:=⟨_,rfl⟩
  have hspan:spanI (L.map (·.fst)) j=.tu [.int .i64 a,.int .i64 q]:=by
   unfold spanI nullsN
   rw [p1]
   simp only
   rw [p4,show a+1+(gs.length-1)=q by omega]
  rw [hspan]
  simp
  refine W_for (PtJ keep n d a q gs way out s r H0 H) gs.length ?_ (tC_mono AC_mono) ?_
  ·exact⟨0,a,v,by omega,by omega,by simp,by simp,by simp,by simp,by simp,hle0.trans hle1,hle1.keepP,by simpa using hv.le hle1,b0⟩
  rintro m t H' ⟨i,p,w,him,hp,t2,t3,t4,t12,t11,hle,hkp,hw,b0'⟩
  simp [t2,t3,t4,t12,t11]
  refine c_split (fun hq=>?_) (fun hq=>?_)<;>simp at hq
  ·have hi:i<gs.length:=by omega
   have hpq:p<q:=by omega
   have hpL:p<L.length:=by omega
   have hls:=h.ls
   obtain⟨z1,z2⟩:=p6 i hi (by omega)
   simp only [<- hp] at z1 z2
   have hlt:=h.lt hpL
   obtain⟨x,hx⟩:∃ x,x=gs[i].headD ⟨#[]⟩:=⟨_,rfl⟩
   have hltr:L[p].ltr=letter x d:=by
    unfold Br.ltr
    rw [z1,z2,hx]
   rw [hltr] at hlt
   have hw2:=wrapN (i:=p) (by omega)
   have hbm:=h.bm.bt (i:=p) (by rw [List.length_map]; omega)
   rw [List.getElem_map] at hbm
   have hms:s.m.size=L.length:=by rw [h.bm.size,List.length_map]
   have hmany:L[p].many=many gs[i]:=by unfold Br.many; rw [z1]
   have hgi:=hgm _ (List.getElem_mem hi)
   have hu8:decide (((letter x d).toNat:Int)=45)=decide (letter x d=45):=u8_eq (letter x d) 45
   simp [t2,t3,t4,t12,t11,b0',hlt,hls,hpL,hu8]
   obtain⟨nx,hnx⟩:∃ nx,nx=if letter x d=45 then way else way++lit1 (letter x d):=⟨_,rfl⟩
   have hl1:(lit1 (letter x d)).size=1:=rfl
   have hnxs:nx.size<=6:=by
    rw [hnx]
    split
    ·omega
    ·rw [ByteArray.size_append]
     omega
   have hcut:=h.cut1 hpL
   rw [hltr] at hcut
   refine cG_mid (tC_mono AC_mono) (PtK p q way nx w H H') ?_ ?_
   ·refine c_split (fun hq0=>?_) (fun hq0=>?_)<;>simp at hq0
    ·rw [if_neg hq0] at hnx
     have hwp:IntKind.i64.wrap ((p:Int)+1)=((p+1:Nat):Int):=hw2
     simp [t2,t3,t4,t12,t11,b0',hls,hwp]
     refine⟨⟨by omega,by omega⟩,by omega,by simp [t2],by simp [t3],by simp [t4],by simp [t12],by simp [t11],?_,rfl⟩
     simp [hnx,hcut]
    ·rw [if_pos hq0] at hnx
     simp
     exact⟨by simp [t2],by simp [t3],by simp [t4],by simp [t12],by simp [t11],by simp [hnx],rfl⟩
   clear t2 t3 t4 t12 t11
   rintro t K ⟨t2,t3,t4,t12,t11,t13,rfl⟩
   show W _ _ _ _ _
   cases hm:many gs[i] with
   | false =>
    rw [hm] at hmany
    rw [hmany] at hbm
    simp only [Bool.false_eq_true,if_false] at hbm
    have hrs:=h.rs hpL hmany
    have hrst:L[p].rst keep=restK x (d+1) keep:=by unfold Br.rst; rw [z1,z2,hx]
    rw [hrst] at hrs
    have hgl:gs[i].length<=1:=by simpa [many] using hm
    have hgne:gs[i]≠[]:=brs_ne ks'.length d ks' (Nat.le_refl _) _ hgi
    have hg1:gs[i]=[x]:=by
     match hgg:gs[i],hgl,hgne with
     | [y],_,_ =>
      rw [hgg] at hx
      rw [hx]
      rfl
    have hxk:x∈ks':=by
     rw [<- hflat]
     exact List.mem_flatten.2 ⟨gs[i],List.getElem_mem hi,by rw [hg1]; simp⟩
    have htx:nx++restK x (d+1) keep=cutK keep (x,d):=by
     rw [hnx]
     exact leaf_text (hsp.ok x hxk) h.kp.1 (hway x hxk) hws
    have hxs:(restK x (d+1) keep).size<1000:=by
     unfold restK
     rw [ByteArray.size_extract]
     have:=h.kp
     omega
    have cC:=complete_ok (E:=E) s r (L.map Br.many) p K (hr.le hle) h.bm (by rw [List.length_map]; omega) (by rw [List.length_map]; omega) (by rw [List.length_map]; exact hls) _ hrs _ hlt
    have cR:=rest_ok (E:=E) s r (L.map Br.many) p K (hr.le hle) h.bm (by rw [List.length_map]; omega) (by rw [List.length_map]; omega) _ hrs
    simp only [svAV] at cC cR
    have hwk:(decide (letter x d=45)||decide (((restK x (d+1) keep).size:Int)<s.k))=wholeK x d keep:=by rw [h.en.k]; rfl
    rw [hwk] at cC
    have hft:=flat_take (f:=sgm n d) hi (fun g hg=>by
     have:=congrArg List.length (hsf g hg)
     rwa [List.length_map] at this)
    rw [hflat] at hft
    simp [t2,t3,t4,t12,t11,t13,b0',hbm,hms,hpL]
    refine cg_use cR ?_
    have hsz9:nx.size+(restK x (d+1) keep).size<=9223372036854775807:=by omega
    simp [t2,t3,t4,t12,t11,t13,b0',hsz9,htx]
    refine cg_use cC ?_
    simp
    refine appG_add (y:=(x,d)) (row:=partRow keep) (bytes:=24) (H0:=H0) hw hle (by rw [List.length_append]; omega) rfl (fun v2 K2 g1 g2 g3 g4=>?_)
    simp [t2,t3,t4,t12,t11,hw2]
    have hkpK:KeepP K K2:=⟨g3.1,fun y ob ho he=>g3.2 y ob (fun hy=>he (hw.1.ety hy ho)) ho⟩
    have hkp2:KeepP H K2:=hkp.trans hkpK
    refine⟨m-1,by omega,i+1,p+1,v2,by omega,by omega,by simp [t2],by simp,by simp [t4],by simp,by simp [t11],g1,hkp2,?_,hkpK.2 _ _ b0' (by simp)⟩
    ·have e:sgm n d gs[i]=[(x,d)]:=by
      unfold sgm
      rw [hm,<- hx]
      rfl
     rw [flat_succ hi,e,<- List.append_assoc]
     exact g2
   | true =>
    rw [hm] at hmany
    rw [hmany,if_pos rfl] at hbm
    have cN:=node_ok (E:=E) s r (L.map Br.many) p K hr1 h.bm (by rw [List.length_map]; omega) (by rw [List.length_map]; omega)
    simp only [svAV] at cN
    simp [t2,t3,t4,t12,t11,t13,b0',hbm,hms,hpL]
    refine cg_use cN ?_
    have hkd:=h.kid hpL hmany
    obtain⟨j2,hj2⟩:∃ j2,j2=((L.map Br.many).take (p+1)).countP id:=⟨_,rfl⟩
    rw [<- hj2] at hkd cN ⊢
    have hkk:L[p].kid=(gs[i],d+1):=by unfold Br.kid; rw [z1,z2]
    rw [hkk] at hkd
    obtain⟨hj2l,hj2e⟩:=List.getElem?_eq_some_iff.1 hkd
    have hj2b:j2<1099511627776:=by
     have e:=congrArg List.length h.tr.f
     rw [List.length_cons,List.length_map] at e
     have:=List.length_filter_le Br.many L
     omega
    obtain⟨a2,s1,s2,s3,s4,s5⟩:=h.tr.span hke hj2l
    have s6:=s5 0 s3 (by omega)
    have hlater:p<a2:=by
     refine h.tr.later hpL (show a2<L.length by omega) ?_
     have:(L[a2+0]'(by omega)).d=F[j2].2:=s6.2
     simp only [Nat.add_zero] at this
     rw [this,hj2e,z2]
    have hspan2:∃ e2:Int,spanI (L.map (·.fst)) j2=.tu [.int .i64 a2,.int .i64 e2]:=by
     unfold spanI
     rw [s1]
     exact⟨_,rfl⟩
    obtain⟨e2,hspan2⟩:=hspan2
    have cB2:=branches_ok (E:=E) s r (L.map (·.fst)) j2 K hr1 h.bf (by rw [List.length_map]; omega) hj2b
    simp only [svAV] at cB2
    rw [hspan2] at cB2
    have hgmo:=g_more hsp hgi hm
    have hne45:letter x d≠45:=by
     match hgg:gs[i],hm,hgmo with
     | y :: g',_,hgmo =>
      have:=hgmo y (by simp)
      rw [hx,hgg]
      exact this.2.1
    have hnle:¬a2<=p:=by omega
    simp [t2,t3,t4,t12,t11,t13,b0']
    refine cg_use cB2 ?_
    simp [t2,t3,t4,t12,t11,t13,b0',hnle,hlt,hls,hpL,hu8,hne45]
    refine cg_use cN ?_
    have hnx2:nx=way++lit1 (letter x d):=by rw [hnx,if_neg hne45]
    have hft:=flat_take (f:=sgm n d) hi (fun g hg=>by
     have:=congrArg List.length (hsf g hg)
     rwa [List.length_map] at this)
    rw [hflat] at hft
    have cP:=ih j2 (d+1) gs[i] nx w _ K hkd (by omega) (by rw [hnx2,ByteArray.size_append]; omega) (fun y hy=>by
     obtain⟨m1,m2,m3⟩:=hgmo y hy
     have hyk:y∈ks':=by
      rw [<- hflat]
      exact List.mem_flatten.2 ⟨gs[i],List.getElem_mem hi,hy⟩
     rw [<- way_more m1,hway y hyk,hnx2,m3,hx]) hle hw (by rw [List.length_append]; omega)
    simp only [svAV] at cP
    simp [t2,t3,t4,t12,t11,t13,b0']
    refine cg_ex cP ?_
    rintro v2 K2 ⟨w2,rfl,g1,g2,g3⟩
    simp [t2,t3,t4,t12,t11,t13,hw2]
    refine⟨m-1,by omega,i+1,p+1,w2,by omega,by omega,by simp [t2],by simp,by simp [t4],by simp,by simp [t11],g1,hkp.trans g2,?_,g2.2 _ _ b0' (by simp)⟩
    have e:sgm n d gs[i]=leafs n gs[i] (d+1):=by
     unfold sgm
     rw [if_pos hm]
    rw [flat_succ hi,e,<- List.append_assoc]
    exact g3
  ·have hieq:i=gs.length:=by omega
   rw [hieq,List.take_length,<- hleafs] at hw
   simp [t2,t3,t4,t12,t11]
   exact⟨hle,hkp,hw⟩
end Go.Proofs.YtgoeenodllmdpaaGreat.B

namespace Go.Proofs.YtgoeenodllmdpaaGreat.B
open Go.RowKit Go.Proofs
set_option linter.unusedVariables false
set_option linter.unusedSimpArgs false
variable {E:Env}
def nu (q:List Fk):Nat:=(q.map fun f=>f.1.length * (7-f.2)).sum
theorem nu_subs (d:Nat) (gs:List (List ByteArray)):nu (subs d gs)<=(gs.map List.length).sum * (6-d):=by
 induction gs with
 | nil=>simp [subs,nu]
 | cons g gs ih =>
  have e:nu (subs d (g :: gs))=(if many g=true then g.length * (7-(d+1)) else 0)+nu (subs d gs):=by
   unfold subs nu
   rw [List.filter_cons]
   split<;>simp
  have h7:7-(d+1)=6-d:=by omega
  rw [e,h7]
  simp only [List.map_cons,List.sum_cons]
  rw [Nat.add_mul]
  split<;>omega
theorem allF_few:∀ (n:Nat) (q:List Fk),(∀ f∈q,Good f)->((allF n q).flatMap recF).length<=nu q
 | 0,q,_=>by simp [allF]
 | n+1,[],_=>by simp [allF]
 | n+1,(ks,d) :: q,hq=>by
  have hf:=hq (ks,d) (by simp)
  have hd:d<=5:=hf.deep
  have ih:=allF_few n (q++kids (ks,d)) (fun f h=>by
   rcases List.mem_append.1 h with h | h
   ·exact hq f (List.mem_cons_of_mem _ h)
   ·exact hf.subs f h)
  have h1:=nu_subs d (brs d ks)
  obtain⟨h2,h3⟩:=brs_sum ks.length d ks (Nat.le_refl _)
  rw [h2] at h1
  have e1:nu (q++kids (ks,d))=nu q+nu (subs d (brs d ks)):=by simp [nu,kids]
  have e2:nu ((ks,d) :: q)=ks.length * (7-d)+nu q:=by simp [nu]
  have e3:7-d=(6-d)+1:=by omega
  have e4:(recF (ks,d)).length=(brs d ks).length:=recs_len _ _ _
  rw [e2,e3,Nat.mul_add,allF,List.flatMap_cons,List.length_append,e4]
  rw [e1] at ih
  omega
theorem BitsOk_ok (s:ByteArray) (b:List Bool) (H:Hp) (hb:BitsIs s b) (hs:b.length<=400) :
  AC Tryz.prog E 235 [.str s] H (fun v H'=>v=.bool true/\H'=H):=by
 refine AC_byp (CLe.refl (AC Tryz.prog E)) h_impl_BitsOk (by simp) ?_
 have hsz:=hb.size
 simp [c_impl_BitsOk,hsz]
 refine W_for (fun k t H'=>∃ i:Nat,i+k=b.length/\t 0=.str s/\t 5=.int .i64 b.length/\t 6=.int .i64 i/\HLe H H') b.length ?_ AC_mono ?_
 ·exact⟨0,by simp,by simp,by simp [hsz],by simp,HLe.refl _⟩
 rintro k t H' ⟨i,hik,h0,h5,h6,hle⟩
 simp [h0,h5,h6]
 refine c_split (fun hq=>?_) (fun hq=>?_)<;>simp at hq
 ·have hi:i<b.length:=by omega
  have hw:=wrapN (i:=i) (by omega)
  have hbt:=hb.bt hi
  cases hbi:b[i] with
  | false =>
   rw [hbi] at hbt
   simp at hbt
   simp [h0,h5,h6,hbt,hsz,hi,hw]
   exact⟨k-1,by omega,i+1,by omega,by omega,hle⟩
  | true =>
   rw [hbi] at hbt
   simp at hbt
   simp [h0,h5,h6,hbt,hsz,hi,hw]
   exact⟨k-1,by omega,i+1,by omega,by omega,hle⟩
 ·have hI:(b.length:Int)<=400:=by omega
  simp [h0,hsz,hI,hs,hle]
def Parts (keep:Int) (H:Hp) (v:AV) (zs:List (ByteArray × Nat)):Prop:=Rows 2 H v (zs.map (partRow keep))
theorem Parts.get {keep:Int} {H:Hp} {v:AV} {zs:List (ByteArray × Nat)} (h:Parts keep H v zs) {j:Nat} (hj:j<zs.length):∃ o i ob,v=.sl o i zs.length/\H.at o=some ob/\ob.esz=2/\ob.rows[i+j]?=some [.str (cutK keep zs[j]),.bool (wholeK zs[j].1 zs[j].2 keep)]:=by
 obtain⟨o,i,ob,h1,h2,h3,h4⟩:=Rows.get h (j:=j) (by simpa using hj)
 exact⟨o,i,ob,by simpa using h1,h2,h3,by simpa [partRow] using h4⟩
theorem texts_ok (keep:Int) (a:AV) (zs:List (ByteArray × Nat)) (H:Hp) (ha:Parts keep H a zs) (hn:zs.length<1000000) :
  AC Tryz.prog E 237 [a] H (fun v H'=>HLe H H'/\OwnS H H' v (zs.map (cutK keep))):=by
 refine AC_by fol (tC_le tabJ_ok) h_impl_texts ?_
 have l1:lenV a=.int .i64 zs.length:=by simpa using Rows.len ha
 have hsl:slC a:=Rows.slc ha
 simp [c_impl_texts,l1,hsl]
 refine W_for (fun m t H'=>∃ (i:Nat) (w:AV),i+m=zs.length/\t 3=w/\t 6=a/\t 7=.int .i64 zs.length/\t 8=.int .i64 i/\HLe H H'/\OwnS H H' w ((zs.take i).map (cutK keep))) zs.length ?_ (tC_mono AC_mono) ?_
 ·exact⟨0,.nils,by simp,by simp,by simp,by simp,by simp,HLe.refl _,OwnM.nils⟩
 rintro m t H' ⟨i,w,him,t3,t6,t7,t8,hle,hw⟩
 simp [t3,t6,t7,t8]
 refine c_split (fun hq=>?_) (fun hq=>?_)<;>simp at hq
 ·have hi:i<zs.length:=by omega
  have hw2:=wrapN (i:=i) (by omega)
  obtain⟨o1,i1,ob1,rfl,x1,x2,x3⟩:=Parts.get ha hi
  have x1':=hle.2 _ _ x1
  obtain⟨G,hG⟩:∃ G:Hp,G=H'++[some ⟨[[.str (cutK keep zs[i]),.bool (wholeK zs[i].1 zs[i].2 keep)]],2,216,false⟩]:=⟨_,rfl⟩
  have hleG:HLe H' G:=by rw [hG]; exact HLe.self _ _
  have bG:G.at H'.length=some ⟨[[.str (cutK keep zs[i]),.bool (wholeK zs[i].1 zs[i].2 keep)]],2,216,false⟩:=by rw [hG]; simp
  have hlt:=Hp.at_lt x1'
  have x1G:(H'++[some ⟨[[.str ⟨#[]⟩,.bool false]],2,216,false⟩]:Hp).at o1=some ob1:=(HLe.self _ _).2 _ _ x1'
  simp [t3,t6,t7,t8,x1',x1G,x2,x3,hi]
  have hGl:H'.length+1=G.length:=by rw [hG]; simp
  rw [<- app2,<- hG,hGl]
  refine appG_add (y:=cutK keep zs[i]) (row:=strRow) (bytes:=16) (H0:=H) (hw.le hleG) (hle.trans hleG) (by rw [List.length_map,List.length_take]; omega) rfl (fun v2 K2 g1 g2 g3 g4=>?_)
  simp [t3,t6,t7,t8,hw2]
  refine⟨m-1,by omega,i+1,by omega,by omega,g1,?_⟩
  rw [List.take_succ_eq_append_getElem (by simpa using hi),List.getElem_map,<- List.map_take]
  exact g2
 ·have:i=zs.length:=by omega
  subst this
  simp [t3]
  exact⟨hle,by simpa using hw⟩
theorem keysOk_of {ks:List ByteArray} (h1:ks.Pairwise (fun a b=>sless a b=true)) (h2:∀ k∈ks,keyOk k=true) (h3:ks.length<=24):keysOk ks=true:=by
 simp only [keysOk,decide_eq_true_eq]
 refine⟨fun i hi=>⟨h2 _ (List.getElem_mem hi),fun h0=>?_⟩,h3⟩
 exact List.pairwise_iff_getElem.1 h1 (i-1) i (by omega) hi (by omega)
theorem heads_ok' {ks:List ByteArray} {keep:Int} (h:keysOk ks=true):keysOk (headsR ks keep)=true/\(headsR ks keep).length=ks.length:=by
 have hs:=SP.of_keys h
 have hf:=leafs_fst 7 hs (keysOk_good h).1 (by omega)
 have hlen:(headsR ks keep).length=ks.length:=by
  unfold headsR
  have:=congrArg List.length hf
  rw [List.length_map] at this ⊢
  exact this
 refine⟨keysOk_of (heads_pw h) (fun k hk=>?_) (by rw [hlen]; exact (keysOk_good h).2),hlen⟩
 unfold headsR at hk
 obtain⟨z,hz,rfl⟩:=List.mem_map.1 hk
 exact keyOk_cut (hs.ok z.1 (by rw [<- hf]; exact List.mem_map_of_mem hz))
theorem sieveR_few {ks:List ByteArray} {keep:Int} (h:keysOk ks=true):(sieveR ks keep).l.size<=400:=by
 obtain⟨hg,hl⟩:=keysOk_good h
 have h1:=allF_few 500 [(ks,0)] (fun f hf=>by rw [List.mem_singleton.1 hf]; exact hg)
 have h2:nu [(ks,0)]=ks.length * 7:=by simp [nu]
 have e:Enc [] keep ⟨⟨#[]⟩,⟨#[]⟩,⟨#[]⟩,[],keep⟩:=⟨rfl,rfl,rfl,rfl,rfl⟩
 have he:=(Enc.bfs 500 [(ks,0)] e).l
 rw [List.nil_append] at he
 have:=congrArg List.length he
 rw [List.length_map] at this
 have h3:(sieveR ks keep).l.data.toList.length=(sieveR ks keep).l.size:=Array.length_toList
 unfold sieveR at h3 ⊢
 omega
end Go.Proofs.YtgoeenodllmdpaaGreat.B

namespace Go.Proofs.YtgoeenodllmdpaaGreat.B
open Go.RowKit Go.Proofs
set_option linter.unusedVariables false
set_option linter.unusedSimpArgs false
variable {E:Env}
theorem parts0_ok (ks:List ByteArray) (keep:Int) (r:AV) (F:List Fk) (L:List Br) (H0 H:Hp) (h:Svt ks keep F L (sieveR ks keep)) (hk:keysOk ks=true) (hle:HLe H0 H) (hr:Strs H0 r (sieveR ks keep).r) :
  AC Tryz.prog E 236 [svAV (sieveR ks keep) r,.int .i64 0,.str ⟨#[]⟩,.nils] H (fun u H'=>∃ w,u=.tu [w,.bool true]/\HLe H0 H'/\KeepP H H'/\OwnM 2 216 (partRow keep) H0 H' w (leafs 7 ks 0)):=by
 by_cases hke:ks=[]
 ·have hL:=h.tr.z hke
  have hl7:leafs 7 ks 0=[]:=by rw [hke,leafs,brs]; rfl
  rw [hl7]
  refine AC_by fol (tC_le tabJ_ok) h_impl_Sieve_parts ?_
  obtain⟨H1,hH1,hle1,b0⟩:=svBox (sieveR ks keep) r H
  have hr1:=Rows.one hr
  have e0:(⟨#[]⟩:ByteArray).size=0:=rfl
  simp [c_impl_Sieve_parts,svAV,hr1,<- hH1,b0,e0]
  have e1:spanI (L.map (·.fst)) 0=.tu [.int .i64 0,.int .i64 0]:=by
   rw [hL]
   rfl
  have cB:=branches_ok (E:=E) (sieveR ks keep) r (L.map (·.fst)) 0 H1 hr1 h.bf (by rw [hL]; simp) (by omega)
  simp only [svAV] at cB
  rw [e1] at cB
  refine cg_use cB ?_
  simp
  refine W_for (fun m t H'=>t 3=.nils/\t 11=.int .i64 0/\t 12=.int .i64 0/\H'=H1) 0 ?_ (tC_mono AC_mono) ?_
  ·exact⟨by simp,by simp,by simp,rfl⟩
  rintro m t H' ⟨t3,t11,t12,rfl⟩
  simp [t3,t11,t12]
  exact⟨hle.trans hle1,hle1.keepP,OwnM.nils⟩
 ·have:=parts_ok (E:=E) (sieveR ks keep) r ks keep F L H0 h hke hr 7 0 0 ks ⟨#[]⟩ .nils [] H (by rw [h.tr.f]; rfl) (by omega) rfl (fun x _=>by
   apply ba_ext
   rw [ba_toList]
   rfl) hle OwnM.nils (by have:=(keysOk_good hk).2; simp; omega)
  simpa using this
def HdJ (s:Sv) (w:AV) (H H2:Hp) (t:Tm) (K:Hp):Prop:=t 1=.pt H.length 0 0/\t 5=w/\t 6=.bool true/\∃ L7 r2,t 7=.pt L7 0 0/\K.at L7=some ⟨[[.str s.l,.str s.m,.str s.f,r2,.int .i64 s.k]],5,66,false⟩/\Strs K r2 s.r/\HLe H2 K/\s.r.length<=12000
theorem Parts.le {keep:Int} {H H':Hp} {v:AV} {zs:List (ByteArray × Nat)} (h:Parts keep H v zs) (hle:HLe H H'):Parts keep H' v zs:=Rows.le h hle
set_option maxHeartbeats 3200000 in
theorem heads_ok (ks:List ByteArray) (keep:Int) (r:AV) (H:Hp) (hk:keysOk ks=true) (hkp:0<=keep/\keep<=5) (hr:Strs H r (sieveR ks keep).r) :
  AC Tryz.prog E 187 [svAV (sieveR ks keep) r] H (fun u H'=>∃ w,u=.tu [w,.bool true]/\HLe H H'/\Parts keep H' w (leafs 7 ks 0)):=by
 obtain⟨F,L,hsv⟩:=Svt.of hk hkp
 have hfew:=sieveR_few (keep:=keep) hk
 have hls:=hsv.ls
 have hso:=sieve_heads (keep:=keep) hk
 obtain⟨hhk,hhl⟩:=heads_ok' (keep:=keep) hk
 have hks:=(keysOk_good hk).2
 have hsk:(sieveR ks keep).k=keep:=hsv.en.k
 have hms:(sieveR ks keep).m.size=L.length:=by rw [hsv.bm.size,List.length_map]
 have hfs:(sieveR ks keep).f.size=L.length:=by rw [hsv.bf.size,List.length_map]
 have hrl:(sieveR ks keep).r.length=(sieveR ks keep).m.data.toList.count 48:=by
  have h1:=(bits_count hsv.bm L.length).2
  have h2:(sieveR ks keep).m.extract 0 L.length=(sieveR ks keep).m:=by rw [<- hms]; exact ba_whole _
  rw [h2,List.take_of_length_le (by simp),List.countP_map] at h1
  rw [h1,hsv.en.r,List.length_map,List.countP_eq_length_filter]
  rfl
 have hsvo:sieveO (headsR ks keep) keep=some (sieveR ks keep):=by
  unfold sieveO
  rw [if_pos ⟨hhk,hkp⟩,hso]
 obtain⟨s,hs⟩:∃ s,s=sieveR ks keep:=⟨_,rfl⟩
 have cP:∀ K:Hp,HLe H K->AC Tryz.prog E 236 [svAV s r,.int .i64 0,.str ⟨#[]⟩,.nils] K (fun u H'=>∃ w,u=.tu [w,.bool true]/\HLe H H'/\KeepP K H'/\OwnM 2 216 (partRow keep) H H' w (leafs 7 ks 0)):=fun K hK=>by
  rw [hs]
  exact parts0_ok ks keep r F L H K hsv hk hK hr
 rw [<- hs] at hsv hr hfew hls hsk hms hfs hrl hsvo ⊢
 clear hso
 clear hs
 subst hsk
 refine AC_by fol (tC_le tabJ_ok) h_impl_Sieve_heads ?_
 obtain⟨H1,hH1,hle1,b0⟩:=svBox s r H
 have hr1:=Rows.one hr
 have hk5:decide (0<=s.k/\s.k<=5)=true:=decide_eq_true hkp
 have hrlen:=Strs.len hr
 simp [-RgP_both,c_impl_Sieve_heads,svAV,hr1,<- hH1,b0,hls]
 refine cg_use (BitsOk_ok s.m _ H1 hsv.bm (by rw [List.length_map]; omega)) ?_
 simp [-RgP_both,b0]
 refine cg_use (BitsOk_ok s.f _ H1 hsv.bf (by rw [List.length_map]; omega)) ?_
 simp [-RgP_both,b0,hms,hfs]
 refine cg_use (isKeep_ok s.k H1) ?_
 rw [hk5]
 simp [-RgP_both,b0,hrlen,Strs.slc hr]
 refine cg_use (Count_ok s.m 48 H1) ?_
 rw [<- hrl]
 simp [-RgP_both,b0]
 have cP1:=cP H1 hle1
 simp only [svAV] at cP1
 refine cg_ex cP1 ?_
 rintro u H2 ⟨w,rfl,hle2,hkp2,hw⟩
 have b2:=hkp2.2 _ _ b0 (by simp)
 simp [-RgP_both,b2]
 have hwp:Parts s.k H2 w (leafs 7 ks 0):=hw.rows
 have hzl:(leafs 7 ks 0).length<1000000:=by
  have:(headsR ks s.k).length=(leafs 7 ks 0).length:=by unfold headsR; rw [List.length_map]
  omega
 have hhs:∀ k∈headsR ks s.k,k.size<4611686018427387904:=fun k hk=>by
  have:=keyOk_size ((SP.of_keys hhk).ok k hk)
  omega
 refine RgP_then (tC_mono AC_mono) (HdJ s w H H2) ?_ ?_
 ·obtain⟨G,hG⟩:∃ G:Hp,G=H2++[some ⟨[[.str ⟨#[]⟩,.str ⟨#[]⟩,.str ⟨#[]⟩,.nils,.int .i64 0]],5,66,false⟩]:=⟨_,rfl⟩
  have hleG:HLe H2 G:=by rw [hG]; exact HLe.self _ _
  have bG:=hleG.2 _ _ b2
  have cG:G.at H2.length=some ⟨[[.str ⟨#[]⟩,.str ⟨#[]⟩,.str ⟨#[]⟩,.nils,.int .i64 0]],5,66,false⟩:=by rw [hG]; simp
  rw [RgP_both]
  refine⟨?_,?_⟩
  ·simp [-RgP_both]
   refine cg_ex (texts_ok s.k w _ H2 hwp hzl) ?_
   rintro v3 H3 ⟨hle3,hv3⟩
   have b3:=hle3.2 _ _ b2
   simp [-RgP_both,b3]
   rw [RgP_both]
   refine⟨?_,?_⟩
   ·simp
    refine cg_ex (implSieveOf_ok v3 (headsR ks s.k) s.k H3 hv3.rows hhs (by omega)) ?_
    rintro v4 H4 ⟨hle4,hret⟩
    rw [hsvo] at hret
    obtain⟨r2,rfl,hr2,hr2l⟩:=hret
    have b4:=hle4.2 _ _ b3
    have b4':=(HLe.self H4 [some ⟨[[.str ⟨#[]⟩,.str ⟨#[]⟩,.str ⟨#[]⟩,.nils,.int .i64 0]],5,66,false⟩]).2 _ _ b4
    simp [svAV,b4,b4',Rows.one hr2.rows]
    exact⟨by simp,by simp,by simp,H4.length,r2,by simp,by simp,(hr2.le (HLe.self _ _)).rows,(hle3.trans hle4).app _,hr2l⟩
   ·obtain⟨G3,hG3⟩:∃ G:Hp,G=H3++[some ⟨[[.str ⟨#[]⟩,.str ⟨#[]⟩,.str ⟨#[]⟩,.nils,.int .i64 0]],5,66,false⟩]:=⟨_,rfl⟩
    have hleG3:HLe H3 G3:=by rw [hG3]; exact HLe.self _ _
    have bG3:=hleG3.2 _ _ b3
    have cG3:G3.at H3.length=some ⟨[[.str ⟨#[]⟩,.str ⟨#[]⟩,.str ⟨#[]⟩,.nils,.int .i64 0]],5,66,false⟩:=by rw [hG3]; simp
    simp [<- hG3,bG3]
    refine cg_ex (implSieveOf_ok v3 (headsR ks s.k) s.k G3 (hv3.le hleG3).rows hhs (by omega)) ?_
    rintro v4 H4 ⟨hle4,hret⟩
    rw [hsvo] at hret
    obtain⟨r2,rfl,hr2,hr2l⟩:=hret
    have b4:=hle4.2 _ _ bG3
    have c4:=hle4.2 _ _ cG3
    have u4:=Hp.at_lt c4
    have hl3:=hle3.1
    simp [svAV,b4,c4,u4,Rows.one hr2.rows,Hp.at_set]
    have hr5:=hr2.frE (Fr.one H4 H3.length (some ⟨[[.str s.l,.str s.m,.str s.f,r2,.int .i64 s.k]],5,66,false⟩)) (fun y ob hy ho=>by rw [hy,c4] at ho; cases ho; simp)
    exact⟨by simp,by simp,by simp,H3.length,r2,by simp,Hp.at_set _ u4,hr5.rows,((hle3.trans hleG3).trans hle4).set hl3 _,hr2l⟩
  ·simp [-RgP_both,<- hG,bG]
   refine cg_ex (texts_ok s.k w _ G (hwp.le hleG) hzl) ?_
   rintro v3 H3 ⟨hle3,hv3⟩
   have b3:=hle3.2 _ _ bG
   have c3:=hle3.2 _ _ cG
   simp [b3]
   refine cg_ex (implSieveOf_ok v3 (headsR ks s.k) s.k H3 hv3.rows hhs (by omega)) ?_
   rintro v4 H4 ⟨hle4,hret⟩
   rw [hsvo] at hret
   obtain⟨r2,rfl,hr2,hr2l⟩:=hret
   have b4:=hle4.2 _ _ b3
   have c4:=hle4.2 _ _ c3
   have u4:=Hp.at_lt c4
   simp [svAV,b4,c4,u4,Rows.one hr2.rows,Hp.at_set]
   have hr5:=hr2.frE (Fr.one H4 H2.length (some ⟨[[.str s.l,.str s.m,.str s.f,r2,.int .i64 s.k]],5,66,false⟩)) (fun y ob hy ho=>by rw [hy,c4] at ho; cases ho; simp)
   exact⟨by simp,by simp,by simp,H2.length,r2,by simp,Hp.at_set _ u4,hr5.rows,((hleG.trans hle3).trans hle4).set (Nat.le_refl _) _,hr2l⟩
 ·rintro t K ⟨t1,t5,t6,L7,r2,t7,hat,hr2,hleK,hr2l⟩
  have bK:=hleK.2 _ _ b2
  show W _ _ _ _ _
  have cS:=same_ok (E:=E) r2 r s s K hr2 (hr.le (hle2.trans hleK)) (by omega)
  simp only [svAV] at cS
  simp [t1,t5,t6,t7,hat,bK]
  refine cg_use cS ?_
  simp [t5]
  exact⟨hle2.trans hleK,hwp.le hleK⟩
end Go.Proofs.YtgoeenodllmdpaaGreat.B

namespace Go.Proofs.YtgoeenodllmdpaaGreat.B
open Go.RowKit Go.Proofs
set_option linter.unusedVariables false
set_option linter.unusedSimpArgs false
variable {E:Env}
def mayK (keep:Int) (fr:ByteArray) (z:ByteArray × Nat):Bool:=!sless (cutK keep z) fr||(!wholeK z.1 z.2 keep&&begins fr (cutK keep z))
def seekP (keep:Int) (fr:ByteArray) (zs:List (ByteArray × Nat)):Option ByteArray:=(zs.find? (mayK keep fr)).map (cutK keep)
def meetsR (ks:List ByteArray) (keep:Int) (fr to:ByteArray):Bool:=keyOk fr&&keyOk to&&!sless to fr&&(match seekP keep fr (leafs 7 ks 0) with
 | some h=>!sless to h
 | none=>false)
theorem find_drop {α:Type} {p:α->Bool} {l:List α} {i:Nat} (hi:i<l.length):(l.drop i).find? p=if p l[i]=true then some l[i] else (l.drop (i+1)).find? p:=by
 rw [List.drop_eq_getElem_cons hi,List.find?_cons]
 cases p l[i]<;>rfl
theorem SieveSeek_ok (ks:List ByteArray) (keep:Int) (r:AV) (fr:ByteArray) (H:Hp) (hk:keysOk ks=true) (hkp:0<=keep/\keep<=5) (hr:Strs H r (sieveR ks keep).r) (hf:keyOk fr=true) :
  AC Tryz.prog E 166 [svAV (sieveR ks keep) r,.str fr] H (fun u H'=>u=.tu [.str ((seekP keep fr (leafs 7 ks 0)).getD ⟨#[]⟩),.bool (seekP keep fr (leafs 7 ks 0)).isSome]/\H'=H):=by
 refine AC_byp (tC_le tabJ_ok) h_impl_SieveSeek (by simp) ?_
 obtain⟨H1,hH1,hle1,b0⟩:=svBox (sieveR ks keep) r H
 have hr1:=Rows.one hr
 have hfs:=keyOk_size hf
 have hkey:∀ {C:CallP} {d:Option Nat} {ag} {p:Plan} {t:Tm} {H:Hp} {K:Tm->Hp->Prop},_:=@fun C d ag p t H K=>tabJ_key C d ag p t H K fr (by omega)
 simp [c_impl_SieveSeek,svAV,hr1,<- hH1,b0]
 have cH:=heads_ok (E:=E) ks keep r H1 hk hkp (hr.le hle1)
 simp only [svAV] at cH
 refine cg_ex cH ?_
 rintro u H2 ⟨w,rfl,hle2,hw⟩
 have hlen:lenV w=.int .i64 (leafs 7 ks 0).length:=by simpa using Rows.len hw
 have hsl:slC w:=Rows.slc hw
 obtain⟨zs,hzs⟩:∃ zs,zs=leafs 7 ks 0:=⟨_,rfl⟩
 have hzk:∀ z∈zs,keyOk z.1=true:=fun z hz=>by
  have hs:=SP.of_keys hk
  have hfst:=leafs_fst 7 hs (keysOk_good hk).1 (by omega)
  exact hs.ok z.1 (by rw [<- hfst,<- hzs]; exact List.mem_map_of_mem hz)
 have hzl:zs.length<1000000:=by
  have hs:=SP.of_keys hk
  have:=leafs_len (n:=7) hs (keysOk_good hk).1 (by omega)
  have:=(keysOk_good hk).2
  rw [hzs]
  omega
 rw [<- hzs] at hw hlen ⊢
 simp [hkey,hf,hlen,hsl]
 refine W_for (fun m t H'=>∃ i:Nat,i+m=zs.length/\t 1=.str fr/\t 22=w/\t 23=.int .i64 zs.length/\t 24=.int .i64 i/\(zs.drop i).find? (mayK keep fr)=zs.find? (mayK keep fr)/\HLe H2 H') zs.length ?_ (tC_mono AC_mono) ?_
 ·exact⟨0,by simp,by simp,by simp,by simp,by simp,by simp,HLe.refl _⟩
 rintro m t H' ⟨i,him,t1,t22,t23,t24,hP,hle⟩
 have hleH:=(hle1.trans hle2).trans hle
 simp [t1,t22,t23,t24]
 refine c_split (fun hq=>?_) (fun hq=>?_)<;>simp at hq
 ·have hi:i<zs.length:=by omega
  have hw2:=wrapN (i:=i) (by omega)
  obtain⟨o1,i1,ob1,rfl,x1,x2,x3⟩:=Parts.get hw hi
  have x1':=hle.2 _ _ x1
  have hkz:=hzk _ (List.getElem_mem hi)
  rw [find_drop hi] at hP
  obtain⟨z,hz⟩:∃ z,z=zs[i]:=⟨_,rfl⟩
  rw [<- hz] at x3 hP hkz
  have hcs:(cutK keep z).size<=5:=keyOk_size (keyOk_cut hkz)
  have x1G:(H'++[some ⟨[[.str ⟨#[]⟩,.bool false]],2,216,false⟩]:Hp).at o1=some ob1:=(HLe.self _ _).2 _ _ x1'
  obtain⟨G,hG⟩:∃ G:Hp,G=H'++[some ⟨[[.str (cutK keep z),.bool (wholeK z.1 z.2 keep)]],2,216,false⟩]:=⟨_,rfl⟩
  have hleG:HLe H' G:=by rw [hG]; exact HLe.self _ _
  have bG:G.at H'.length=some ⟨[[.str (cutK keep z),.bool (wholeK z.1 z.2 keep)]],2,216,false⟩:=by rw [hG]; simp
  simp [t1,t22,t23,t24,x1',x1G,x2,x3,hi]
  simp only [<- hG]
  have fin:mayK keep fr z=true->seekP keep fr zs=some (cutK keep z):=fun hm=>by
   rw [hm,if_pos rfl] at hP
   unfold seekP
   rw [<- hP]
   rfl
  have go:mayK keep fr z=false->(zs.drop (i+1)).find? (mayK keep fr)=zs.find? (mayK keep fr):=fun hm=>by
   rw [hm] at hP
   simpa using hP
  cases hsl2:sless (cutK keep z) fr with
  | false =>
   have hm:mayK keep fr z=true:=by simp [mayK,hsl2]
   rw [fin hm]
   simp [bG]
   exact hleH.trans hleG
  | true =>
   cases hwh:wholeK z.1 z.2 keep with
   | true =>
    have hm:mayK keep fr z=false:=by simp [mayK,hsl2,hwh]
    rw [hwh] at bG
    simp [t1,t22,t23,t24,bG,hw2]
    exact⟨m-1,by omega,i+1,by omega,by omega,go hm,hle.trans hleG⟩
   | false =>
    rw [hwh] at bG
    simp [t1,t22,t23,t24,bG]
    refine cg_use (KeyBegins_ok fr (cutK keep z) G (by omega) (by omega)) ?_
    cases hbg:begins fr (cutK keep z) with
    | true =>
     have hm:mayK keep fr z=true:=by simp [mayK,hbg,hwh]
     rw [fin hm]
     simp [bG]
     exact hleH.trans hleG
    | false =>
     have hm:mayK keep fr z=false:=by simp [mayK,hsl2,hbg]
     simp [t1,t22,t23,t24,bG,hw2]
     exact⟨m-1,by omega,i+1,by omega,by omega,go hm,hle.trans hleG⟩
 ·have:i=zs.length:=by omega
  subst this
  rw [List.drop_length] at hP
  unfold seekP
  rw [<- hP]
  simp [hleH]
theorem SieveMeets_ok (ks:List ByteArray) (keep:Int) (r:AV) (fr to:ByteArray) (H:Hp) (hk:keysOk ks=true) (hkp:0<=keep/\keep<=5) (hr:Strs H r (sieveR ks keep).r) (hfs:fr.size<4611686018427387904) (hts:to.size<4611686018427387904) :
  AC Tryz.prog E 83 [svAV (sieveR ks keep) r,.str fr,.str to] H (fun u H'=>u=.bool (meetsR ks keep fr to)/\H'=H):=by
 refine AC_byp (tC_le tabJ_ok) h_impl_SieveMeets (by simp) ?_
 obtain⟨H1,hH1,hle1,b0⟩:=svBox (sieveR ks keep) r H
 have hr1:=Rows.one hr
 have hkeyF:∀ {C:CallP} {d:Option Nat} {ag} {p:Plan} {t:Tm} {H:Hp} {K:Tm->Hp->Prop},_:=@fun C d ag p t H K=>tabJ_key C d ag p t H K fr hfs
 have hkeyT:∀ {C:CallP} {d:Option Nat} {ag} {p:Plan} {t:Tm} {H:Hp} {K:Tm->Hp->Prop},_:=@fun C d ag p t H K=>tabJ_key C d ag p t H K to hts
 simp [c_impl_SieveMeets,svAV,hr1,<- hH1,hkeyF]
 unfold meetsR
 cases hf:keyOk fr with
 | false=>simp [hle1]
 | true =>
  simp [hkeyT]
  cases ht:keyOk to with
  | false=>simp [hle1]
  | true =>
   simp
   cases hl:sless to fr with
   | true=>simp [hle1]
   | false =>
    simp [b0]
    have cS:=SieveSeek_ok (E:=E) ks keep r fr H1 hk hkp (hr.le hle1) hf
    simp only [svAV] at cS
    refine cg_use cS ?_
    cases hsk:seekP keep fr (leafs 7 ks 0) with
    | none=>simp [hle1]
    | some h=>simp [hle1]
end Go.Proofs.YtgoeenodllmdpaaGreat.B

namespace Go.Proofs.YtgoeenodllmdpaaGreat.B
open Go.RowKit Go.Proofs
set_option linter.unusedVariables false
set_option linter.unusedSimpArgs false
theorem less_begins:∀ (t f s:List UInt8),Op.bytesLess t f=true->Op.bytesLess (t++s) f=false->∃ g,f=t++g
 | [],f,s,_,_=>⟨f,rfl⟩
 | a :: t,[],s,h,_=>by simp [Op.bytesLess] at h
 | a :: t,b :: f,s,h,k=>by
  rw [List.cons_append] at k
  simp only [Op.bytesLess,Bool.or_eq_true,Bool.and_eq_true,Bool.or_eq_false_iff,Bool.and_eq_false_iff,decide_eq_true_eq,decide_eq_false_iff_not,beq_iff_eq] at h k
  rcases h with h | ⟨rfl,h⟩
  ·exact absurd h k.1
  ·rcases k.2 with k2 | k2
   ·simp at k2
   ·obtain⟨g,rfl⟩:=less_begins t f s h k2
    exact⟨g,rfl⟩
theorem begins_of {t f x:ByteArray} {n:Nat} (ht:t=x.extract 0 n) (h1:sless t f=true) (h2:sless x f=false):begins f t=true:=by
 unfold sless at h1 h2
 rw [toList_ba,toList_ba] at h1 h2
 have hx:x.data.toList=t.data.toList++x.data.toList.drop n:=by
  rw [ht,ba_toList]
  simp
 rw [hx] at h2
 obtain⟨g,hg⟩:=less_begins _ _ _ h1 h2
 have hfl:=ba_len f
 have htl:=ba_len t
 have hl:=congrArg List.length hg
 rw [List.length_append] at hl
 unfold begins
 rw [decide_eq_true_eq]
 refine⟨by omega,?_⟩
 apply ba_ext
 rw [ba_toList,hg]
 simp only [List.drop_zero,Nat.sub_zero]
 rw [<- htl,List.take_left]
theorem whole_cut {keep:Int} {z:ByteArray × Nat} (hk:keyOk z.1=true) (h0:0<=keep) (hw:wholeK z.1 z.2 keep=true):cutK keep z=z.1:=by
 have hsz:z.1.size<=z.2+1+keep.toNat:=by
  simp only [wholeK,Bool.or_eq_true,decide_eq_true_eq] at hw
  rcases hw with h | h
  ·have:=(letter_ok hk z.2).1 h
   omega
  ·unfold restK at h
   rw [ByteArray.size_extract,ByteArray.size_extract] at h
   omega
 unfold cutK
 apply ba_ext
 rw [ba_toList]
 simp only [List.drop_zero,Nat.sub_zero]
 rw [List.take_of_length_le (by rw [ba_len]; exact hsz)]
theorem cut_le {keep:Int} {z:ByteArray × Nat}:sless z.1 (cutK keep z)=false:=by
 cases h:sless z.1 (cutK keep z) with
 | false=>rfl
 | true =>
  unfold sless at h
  rw [toList_ba,toList_ba] at h
  have e:(cutK keep z).data.toList=z.1.data.toList.take (z.2+1+keep.toNat):=by
   unfold cutK
   rw [ba_toList]
   simp
  rw [e] at h
  have h2:=bLess_app (z.1.data.toList.take (z.2+1+keep.toNat)) (z.1.data.toList.drop (z.2+1+keep.toNat)) []
  rw [List.take_append_drop,List.append_nil] at h2
  rw [h2] at h
  cases hd:z.1.data.toList.drop (z.2+1+keep.toNat) with
  | nil=>rw [hd] at h; simp [Op.bytesLess] at h
  | cons a l=>rw [hd] at h; simp [Op.bytesLess] at h
theorem not_less_trans {a b c:ByteArray} (h1:sless b a=false) (h2:sless c b=false):sless c a=false:=by
 cases h:sless c a with
 | false=>rfl
 | true =>
  rcases sless_total a b with h3 | h3 | h3
  ·have:=sless_trans h h3
   rw [h2] at this
   cases this
  ·rw [<- h3,h] at h2
   cases h2
  ·rw [h1] at h3
   cases h3
theorem meets_sound {ks:List ByteArray} {keep:Int} {fr to x:ByteArray} (hk:keysOk ks=true) (h0:0<=keep) (hf:keyOk fr=true) (ht:keyOk to=true) (hx:x∈ks) (h1:sless x fr=false) (h2:sless to x=false):meetsR ks keep fr to=true:=by
 have hs:=SP.of_keys hk
 have hfst:=leafs_fst 7 hs (keysOk_good hk).1 (by omega)
 rw [<- hfst] at hx
 obtain⟨z,hz,rfl⟩:=List.mem_map.1 hx
 have hkz:keyOk z.1=true:=hs.ok z.1 (by rw [<- hfst]; exact hx)
 have hmay:mayK keep fr z=true:=by
  unfold mayK
  cases hl:sless (cutK keep z) fr with
  | false=>rfl
  | true =>
   cases hw:wholeK z.1 z.2 keep with
   | true =>
    rw [whole_cut hkz h0 hw,h1] at hl
    cases hl
   | false =>
    have:=begins_of (t:=cutK keep z) (n:=z.2+1+keep.toNat) rfl hl h1
    simp [this]
 have htf:sless to fr=false:=not_less_trans h1 h2
 unfold meetsR
 rw [hf,ht,htf]
 cases hfd:(leafs 7 ks 0).find? (mayK keep fr) with
 | none =>
  have:=List.find?_eq_none.1 hfd z hz
  exact absurd hmay this
 | some y =>
  have hsk:seekP keep fr (leafs 7 ks 0)=some (cutK keep y):=by unfold seekP; rw [hfd]; rfl
  rw [hsk]
  obtain⟨hy,cs,bs,hab,hno⟩:=List.find?_eq_some_iff_append.1 hfd
  have hle:sless (cutK keep z) (cutK keep y)=false:=by
   have hzz:z=y\/z∈bs:=by
    rw [hab] at hz
    rcases List.mem_append.1 hz with h | h
    ·have:=hno z h
     rw [hmay] at this
     cases this
    ·exact List.mem_cons.1 h
   rcases hzz with rfl | hzb
   ·exact sless_irrefl _
   ·have hpw:=heads_pw (keep:=keep) hk
    unfold headsR at hpw
    rw [hab,List.map_append,List.map_cons] at hpw
    have h3:=(List.pairwise_cons.1 (List.pairwise_append.1 hpw).2.1).1 (cutK keep z) (List.mem_map_of_mem hzb)
    exact sless_asymm h3
  have h4:sless to (cutK keep y)=false:=not_less_trans (not_less_trans hle cut_le) h2
  simp [h4]
end Go.Proofs.YtgoeenodllmdpaaGreat.B

namespace Go.Proofs.YtgoeenodllmdpaaGreat.B
open Go.RowKit Go.Proofs
set_option linter.unusedVariables false
set_option linter.unusedSimpArgs false
variable {E:Env}
end Go.Proofs.YtgoeenodllmdpaaGreat.B

namespace Go.Proofs
open Go.Shelf
end Go.Proofs

namespace Go.Proofs.YtgoeenodllmdpaaGreat.B
open Go.RowKit Go.Proofs
set_option linter.unusedVariables false
set_option linter.unusedSimpArgs false
variable {E:Env}
end Go.Proofs.YtgoeenodllmdpaaGreat.B

namespace Go.Proofs.YtgoeenodllmdpaaGreat.B
open Go.RowKit Go.Proofs
set_option linter.unusedVariables false
set_option linter.unusedSimpArgs false
variable {E:Env}
end Go.Proofs.YtgoeenodllmdpaaGreat.B

namespace Go.Proofs.YtgoeenodllmdpaaGreat.B
open Go.RowKit Go.Proofs
set_option linter.unusedVariables false
set_option linter.unusedSimpArgs false
variable {E:Env}
end Go.Proofs.YtgoeenodllmdpaaGreat.B

namespace Go.Proofs.YtgoeenodllmdpaaGreat.B
open Go.RowKit Go.Proofs
set_option linter.unusedVariables false
set_option linter.unusedSimpArgs false
variable {E:Env}
end Go.Proofs.YtgoeenodllmdpaaGreat.B

namespace Go.Proofs.YtgoeenodllmdpaaGreat.B
open Go.RowKit Go.Proofs
set_option linter.unusedVariables false
set_option linter.unusedSimpArgs false
end Go.Proofs.YtgoeenodllmdpaaGreat.B

namespace Go.Proofs.YtgoeenodllmdpaaGreat.B
open Go.RowKit Go.Proofs
set_option linter.unusedVariables false
set_option linter.unusedSimpArgs false
end Go.Proofs.YtgoeenodllmdpaaGreat.B

namespace Go.Proofs.YtgoeenodllmdpaaGreat.B
open Go.RowKit Go.Proofs
set_option linter.unusedVariables false
set_option linter.unusedSimpArgs false
def onePd (b:List Bool) (n:Nat):Nat:=(oneP b n).getD b.length
theorem Tr.next {ks:List ByteArray} {F:List Fk} {L:List Br} (h:Tr ks F L) (hk:ks≠[]) {j:Nat} (hj:j<F.length) {a:Nat} (ha:oneP (L.map (·.fst)) j=some a):onePd (L.map (·.fst)) (j+1)=a+(brs F[j].2 F[j].1).length:=by
 have hne:=h.ne hk
 have hat:=h.at hj
 obtain⟨b,r,e,hb,hr,hc⟩:=recF_cons (hne F[j] (List.getElem_mem hj))
 have hlen:=recF_len F[j]
 have hA:=flat_fst (F.take j) (fun f hf=>hne f (List.mem_of_mem_take hf))
 rw [List.length_take,Nat.min_eq_left (by omega)] at hA
 obtain⟨P,hP⟩:∃ P,P=(F.take j).flatMap recF:=⟨_,rfl⟩
 obtain⟨S,hS⟩:∃ S,S=(F.drop (j+1)).flatMap recF:=⟨_,rfl⟩
 rw [<- hP,<- hS] at hat
 rw [<- hP] at hA
 have haP:a=P.length:=by
  have e2:L.map (·.fst)=P.map (·.fst)++true :: (r.map (·.fst)++S.map (·.fst)):=by
   conv=>lhs; rw [hat]
   rw [e,List.map_append,List.map_append,List.map_cons,hb,List.cons_append]
  have e3:(P.map (·.fst)).countP id=j:=by
   rw [List.countP_map]
   exact hA
  have:=oneP_app (P.map (·.fst)) (r.map (·.fst)++S.map (·.fst))
  rw [e3,List.length_map,<- e2,ha] at this
  exact Option.some.inj this
 have hcn:((P++recF F[j]).map (·.fst)).countP id=j+1:=by
  rw [List.countP_map,List.countP_append]
  have e1:P.countP (id ∘ fun x=>x.fst)=j:=hA
  have e2:(recF F[j]).countP (id ∘ fun x=>x.fst)=1:=hc
  rw [e1,e2]
 have hL:L=(P++recF F[j])++S:=by rw [List.append_assoc]; exact hat
 unfold onePd
 cases hd:F.drop (j+1) with
 | nil =>
  have hS0:S=[]:=by rw [hS,hd]; rfl
  rw [hL,hS0,List.append_nil,oneP_end _ _ (by rw [hcn]; exact Nat.le_refl _)]
  show ((P++recF F[j]).map (·.fst)).length=_
  rw [List.length_map,List.length_append,haP,hlen]
 | cons f F' =>
  obtain⟨b',r',e',hb',_⟩:=recF_cons (hne f (List.mem_of_mem_drop (by rw [hd]; simp)))
  have hS1:S.map (·.fst)=true :: (r'.map (·.fst)++(F'.flatMap recF).map (·.fst)):=by
   rw [hS,hd,List.flatMap_cons,e',List.map_append,List.map_cons,hb',List.cons_append]
  have:=oneP_app ((P++recF F[j]).map (·.fst)) (r'.map (·.fst)++(F'.flatMap recF).map (·.fst))
  rw [hcn,<- hS1,<- List.map_append,<- hL] at this
  rw [this]
  show ((P++recF F[j]).map (·.fst)).length=_
  rw [List.length_map,List.length_append,haP,hlen]
theorem grp_rest {d:Nat} {k:ByteArray} {ks:List ByteArray} (h:SP d (k :: ks)):∀ x∈(k :: ks).drop (grp d (k :: ks)).length,letter x d≠letter k d:=by
 obtain⟨e1,e2⟩:=grp_take h
 obtain⟨n,hn⟩:∃ n,n=(grp d (k :: ks)).length:=⟨_,rfl⟩
 have hg:grp d (k :: ks)=(k :: ks).filter (fun x=>letter x d==letter k d):=rfl
 have hp:=grp_pos d k ks
 have ht:(k :: ks).filter (fun x=>letter x d==letter k d)=(k :: ks).take n:=by
  rw [<- hg,hn]
  conv=>lhs; rw [e1,<- e2]
 have hnl:n<=(k :: ks).length:=by
  rw [hn,hg]
  exact List.length_filter_le _ _
 intro x hx hc
 rw [<- hn] at hx
 have h1:(k :: ks).filter (fun x=>letter x d==letter k d)=((k :: ks).take n).filter (fun x=>letter x d==letter k d)++((k :: ks).drop n).filter (fun x=>letter x d==letter k d):=by
  rw [<- List.filter_append,List.take_append_drop]
 have h2:((k :: ks).take n).filter (fun x=>letter x d==letter k d)=(k :: ks).take n:=by
  rw [List.filter_eq_self]
  intro y hy
  rw [<- ht] at hy
  exact (List.mem_filter.1 hy).2
 rw [h2,ht] at h1
 have h3:((k :: ks).drop n).filter (fun x=>letter x d==letter k d)=[]:=by
  have:=congrArg List.length h1
  rw [List.length_append] at this
  exact List.length_eq_zero_iff.1 (by omega)
 have h4:x∈((k :: ks).drop n).filter (fun x=>letter x d==letter k d):=List.mem_filter.2 ⟨hx,by simp [hc]⟩
 rw [h3] at h4
 cases h4
theorem brs_letters:∀ (n d:Nat) (ks:List ByteArray),ks.length<=n->SP d ks->(brs d ks).Pairwise (fun a b=>letter (a.headD ⟨#[]⟩) d≠letter (b.headD ⟨#[]⟩) d)
 | _,d,[],_,_=>by rw [brs]; exact List.Pairwise.nil
 | 0,d,k :: ks,h,_=>by simp at h
 | n+1,d,k :: ks,h,hs=>by
  have hp:=grp_pos d k ks
  have hr:=grp_rest hs
  rw [brs_cons]
  have hl:((k :: ks).drop (grp d (k :: ks)).length).length<=n:=by simp only [List.length_drop,List.length_cons] at h ⊢; omega
  refine List.pairwise_cons.2 ⟨fun b hb=>?_,brs_letters n d _ hl (hs.sub (List.drop_sublist _ _))⟩
  have hbn:=brs_ne n d _ hl b hb
  obtain⟨ks',h1,rfl⟩:=brs_sub n d _ hl b hb
  rw [grp_hd]
  match hk:grp d ks',hbn with
  | a :: r,_ =>
   have ha:a∈(k :: ks).drop (grp d (k :: ks)).length:=by
    have:a∈grp d ks':=by rw [hk]; simp
    exact h1.subset ((grp_sub d ks').subset this)
   exact fun e=>hr a ha e.symm
theorem pickG_none {d:Nat} {c:UInt8}:∀ {gs:List (List ByteArray)},(∀ g∈gs,letter (g.headD ⟨#[]⟩) d≠c)->pickG d c gs=none
 | [],_=>rfl
 | g :: gs,h=>by
  rw [pickG,if_neg (h g (by simp))]
  exact pickG_none (fun x hx=>h x (List.mem_cons_of_mem _ hx))
theorem pickG_at {d:Nat} {c:UInt8}:∀ {gs:List (List ByteArray)} {j:Nat} (hj:j<gs.length),gs.Pairwise (fun a b=>letter (a.headD ⟨#[]⟩) d≠letter (b.headD ⟨#[]⟩) d)->letter (gs[j].headD ⟨#[]⟩) d=c->pickG d c gs=some gs[j]
 | g :: gs,0,hj,_,h=>by
  have h':letter (g.headD ⟨#[]⟩) d=c:=h
  rw [pickG,if_pos h']
  rfl
 | g :: gs,j+1,hj,hp,h=>by
  obtain⟨h1,h2⟩:=List.pairwise_cons.1 hp
  have hj':j<gs.length:=by simpa using hj
  have hg:letter (gs[j].headD ⟨#[]⟩) d=c:=h
  rw [pickG,if_neg (fun e=>h1 _ (List.getElem_mem hj') (e.trans hg.symm))]
  exact pickG_at hj' h2 hg
end Go.Proofs.YtgoeenodllmdpaaGreat.B

namespace Go.Proofs.YtgoeenodllmdpaaGreat.B
open Go.RowKit Go.Proofs
set_option linter.unusedVariables false
set_option linter.unusedSimpArgs false
variable {E:Env}
theorem take_count {b:List Bool} {i:Nat} (hi:i<b.length):(b.take (i+1)).countP id=(b.take i).countP id+(if b[i]=true then 1 else 0):=by
 rw [List.take_succ_eq_append_getElem hi,List.countP_append,List.countP_singleton]
 rfl
def L1I (s:ByteArray) (b:List Bool) (n:Nat) (H:Hp) (k:Nat) (t:Tm) (H':Hp):Prop:=∃ i:Nat,i+k=b.length/\i<=n/\t 0=.str s/\t 1=.int .i64 n/\t 5=.int .i64 ((b.take i).countP id)/\t 6=.int .i64 i/\H'=H
theorem l1Ones_ok (s:ByteArray) (b:List Bool) (n:Nat) (H:Hp) (hb:BitsIs s b) (hs:b.length<1099511627776) (hn:n<1099511627776) :
  AC Tryz.prog E 234 [.str s,.int .i64 n] H (fun v H'=>v=.int .i64 ((b.take n).countP id)/\H'=H):=by
 refine AC_byp (tC_le tab2_ok) h_spec_l1Ones (by simp) ?_
 have hsz:=hb.size
 simp [c_spec_l1Ones]
 refine W_for (L1I s b n H) b.length ?_ (tC_mono AC_mono) ?_
 ·exact⟨0,by simp,by simp,by simp,by simp,by simp,by simp,rfl⟩
 rintro k t H' ⟨i,hik,hin,t0,t1,t5,t6,rfl⟩
 have hc:=List.countP_le_length (p:=id) (l:=b.take i)
 rw [List.length_take] at hc
 by_cases h1:i<n
 ·by_cases h2:i<b.length
  ·have hw:=wrapN (i:=i) (by omega)
   have hbt:=hb.bt h2
   have h2I:(i:Int)<b.length:=by omega
   have h1I:(i:Int)<n:=by omega
   have hst:=take_count h2
   have hw2:IntKind.i64.wrap (((b.take i).countP id:Nat)+1:Int)=(((b.take i).countP id+1:Nat):Int):=wrapN (by omega)
   cases hbi:b[i] with
   | true =>
    rw [hbi,if_pos rfl] at hst hbt
    simp [t0,t1,t5,t6,h1,h1I,h2,h2I,hsz,hbt,hw,hw2]
    exact⟨k-1,by omega,i+1,by omega,by omega,by simp [t0],by simp [t1],by rw [hst]; simp,by simp,rfl⟩
   | false =>
    rw [hbi] at hst hbt
    simp only [Bool.false_eq_true,if_false] at hst hbt
    simp [t0,t1,t5,t6,h1,h1I,h2,h2I,hsz,hbt,hw]
    exact⟨k-1,by omega,i+1,by omega,by omega,by simp [t0],by simp [t1],by rw [hst]; simp [t5],by simp,rfl⟩
  ·have h1I:(i:Int)<n:=by omega
   have h2I:¬(i:Int)<b.length:=by omega
   simp [t0,t1,t5,t6,h1,h1I,h2,h2I,hsz]
   rw [List.take_of_length_le (by omega),List.take_of_length_le (by omega)]
 ·have:i=n:=by omega
  subst this
  simp [t0,t1,t5,t6]
theorem onePd_f {b:List Bool} {i n:Nat} (hi:i<b.length) (h:b[i]=false):onePd (b.drop i) n=onePd (b.drop (i+1)) n+1:=by
 unfold onePd
 rw [List.drop_eq_getElem_cons hi,h,oneP]
 cases oneP (b.drop (i+1)) n<;>simp
theorem onePd_t {b:List Bool} {i:Nat} (hi:i<b.length) (h:b[i]=true):onePd (b.drop i) 0=0:=by
 unfold onePd
 rw [List.drop_eq_getElem_cons hi,h,oneP]
 rfl
theorem onePd_s {b:List Bool} {i n:Nat} (hi:i<b.length) (h:b[i]=true):onePd (b.drop i) (n+1)=onePd (b.drop (i+1)) n+1:=by
 unfold onePd
 rw [List.drop_eq_getElem_cons hi,h,oneP]
 cases oneP (b.drop (i+1)) n<;>simp
def L2I (s:ByteArray) (b:List Bool) (n:Nat) (H:Hp) (k:Nat) (t:Tm) (H':Hp):Prop:=∃ i q:Nat,i+k=b.length/\q<=n/\t 0=.str s/\t 1=.int .i64 q/\t 5=.int .i64 i/\i+onePd (b.drop i) q=onePd b n/\H'=H
theorem l1One_ok (s:ByteArray) (b:List Bool) (n:Nat) (H:Hp) (hb:BitsIs s b) (hs:b.length<1099511627776) (hn:n<1099511627776) :
  AC Tryz.prog E 180 [.str s,.int .i64 n] H (fun v H'=>v=.int .i64 (onePd b n)/\H'=H):=by
 refine AC_byp (tC_le tab2_ok) h_spec_l1One (by simp) ?_
 have hsz:=hb.size
 simp [c_spec_l1One]
 refine W_for (L2I s b n H) b.length ?_ (tC_mono AC_mono) ?_
 ·exact⟨0,n,by simp,Nat.le_refl _,by simp,by simp,by simp,by simp,rfl⟩
 rintro k t H' ⟨i,q,hik,hqn,t0,t1,t5,hP,rfl⟩
 by_cases h2:i<b.length
 ·have hw:=wrapN (i:=i) (by omega)
  have hbt:=hb.bt h2
  have h2I:(i:Int)<b.length:=by omega
  cases hbi:b[i] with
  | false =>
   rw [onePd_f h2 hbi] at hP
   rw [hbi] at hbt
   simp only [Bool.false_eq_true,if_false] at hbt
   simp [t0,t1,t5,h2,h2I,hsz,hbt,hw]
   exact⟨k-1,by omega,i+1,q,by omega,hqn,by simp [t0],by simp [t1],by simp,by omega,rfl⟩
  | true =>
   rw [hbi,if_pos rfl] at hbt
   cases q with
   | zero =>
    rw [onePd_t h2 hbi] at hP
    simp [t0,t1,t5,h2,h2I,hsz,hbt]
    omega
   | succ q =>
    rw [onePd_s h2 hbi] at hP
    have hq0:¬((q:Int)+1=0):=by omega
    have hw2:IntKind.i64.wrap ((q:Int)+1-1)=(q:Int):=by rw [wrap64 (by omega) (by omega)]; omega
    have hw3:IntKind.i64.wrap (q:Int)=(q:Int):=wrap64 (by omega) (by omega)
    simp [t0,t1,t5,h2,h2I,hsz,hbt,hw,hq0,hw2]
    exact⟨k-1,by omega,i+1,q,by omega,by omega,by simp [t0],by simp [hw3],by simp,by omega,rfl⟩
 ·have h2I:¬(i:Int)<b.length:=by omega
  have:i=b.length:=by omega
  subst this
  have e:onePd (b.drop b.length) q=0:=by rw [List.drop_length]; rfl
  rw [e] at hP
  simp [t0,t1,t5,hsz]
  omega
theorem l3Kids_ok (s:Sv) (r:AV) (b f:List Bool) (i:Nat) (H:Hp) (hr:one r=true) (hb:BitsIs s.m b) (hf:BitsIs s.f f) (hs:b.length<1000000000) (hs2:f.length<1000000000) (hi:i<b.length) :
  AC Tryz.prog E 228 [svAV s r,.int .i64 i] H (fun v H'=>v=.tu [.int .i64 (onePd f ((b.take (i+1)).countP id)),.int .i64 (onePd f ((b.take (i+1)).countP id+1))]/\H'=H):=by
 refine AC_byp (tC_le tab2_ok) h_spec_l3Kids (by simp) ?_
 obtain⟨H1,hH1,hle1,b0⟩:=svBox s r H
 have hw:=wrapN (i:=i) (by omega)
 have hc:=List.countP_le_length (p:=id) (l:=b.take (i+1))
 rw [List.length_take] at hc
 obtain⟨n,hn⟩:∃ n,n=(b.take (i+1)).countP id:=⟨_,rfl⟩
 rw [<- hn] at hc
 have hw2:=wrapN (i:=n) (by omega)
 simp [c_spec_l3Kids,svAV,hr,<- hH1,b0,hw]
 have c1:=l1Ones_ok (E:=E) s.m b (i+1) H1 hb (by omega) (by omega)
 rw [<- hn] at c1
 refine cg_use c1 ?_
 simp [b0]
 refine cg_use (l1One_ok s.f f n H1 hf (by omega) (by omega)) ?_
 simp [b0,hw2]
 refine cg_use (l1One_ok s.f f (n+1) H1 hf (by omega) (by omega)) ?_
 rw [<- hn]
 simp [hle1]
theorem count_not (b:List Bool):∀ i,i<=b.length->((b.take i).countP id:Nat)+(b.take i).countP (fun x=>!x)=i:=by
 intro i hi
 have h:=List.length_eq_countP_add_countP (l:=b.take i) (p:=id)
 rw [List.length_take,Nat.min_eq_left hi] at h
 have e:(b.take i).countP (fun x=>decide ¬id x=true)=(b.take i).countP (fun x=>!x):=by
  congr 1
  funext x
  cases x<;>rfl
 omega
theorem l3Whole_ok (s:Sv) (r:AV) (b:List Bool) (i:Nat) (H:Hp) (hr:Strs H r s.r) (hb:BitsIs s.m b) (hs:b.length<1000000000) (hi:i<b.length) (hl:s.l.size=b.length) (x:ByteArray) (hx:s.r[(b.take i).countP (fun x=>!x)]?=some x) (c:UInt8) (hc:bt s.l i=c.toNat) :
  AC Tryz.prog E 229 [svAV s r,.int .i64 i] H (fun v H'=>v=.bool (decide (c=45)||decide ((x.size:Int)<s.k))/\H'=H):=by
 refine AC_byp (tC_le tab2_ok) h_spec_l3Whole (by simp) ?_
 obtain⟨H1,hH1,hle1,b0⟩:=svBox s r H
 have hcd:decide ((c.toNat:Int)=45)=decide (c=45):=u8_eq c 45
 have hiI:(i:Int)<b.length:=by omega
 have hcn:=count_not b i (by omega)
 obtain⟨n,hn⟩:∃ n,n=(b.take i).countP (fun x=>!x):=⟨_,rfl⟩
 obtain⟨m,hm⟩:∃ m,m=(b.take i).countP id:=⟨_,rfl⟩
 have c1:=l1Ones_ok (E:=E) s.m b i H1 hb (by omega) (by omega)
 rw [<- hn] at hx hcn
 rw [<- hm] at hcn c1
 simp [c_spec_l3Whole,svAV,Rows.one hr,<- hH1,b0]
 refine cg_use c1 ?_
 obtain⟨hnl,hxe⟩:=List.getElem?_eq_some_iff.1 hx
 obtain⟨o1,i1,ob1,rfl,a1,a2,a3⟩:=(hr.le hle1).get hnl
 rw [hxe] at a3
 have hw:IntKind.i64.wrap ((i:Int)-(m:Int))=(n:Int):=by rw [wrap64 (by omega) (by omega)]; omega
 simp [b0,hl,hc,hi,hcd,hw]
 by_cases he:c=45
 ·simp [he,hle1]
 ·simp [he,b0,a1,a2,a3,hnl,hle1]
end Go.Proofs.YtgoeenodllmdpaaGreat.B

namespace Go.Proofs.YtgoeenodllmdpaaGreat.B
open Go.RowKit Go.Proofs
set_option linter.unusedVariables false
set_option linter.unusedSimpArgs false
variable {E:Env}
def KeepE (ety:Nat) (H H':Hp):Prop:=H.length<=H'.length/\∀ y ob,H.at y=some ob->ob.ety≠ety->H'.at y=some ob
theorem KeepE.trans {ety:Nat} {a b c:Hp} (h:KeepE ety a b) (k:KeepE ety b c):KeepE ety a c:=⟨Nat.le_trans h.1 k.1,fun y ob ho he=>k.2 y ob (h.2 y ob ho he) he⟩
theorem HLe.keepE {ety:Nat} {a b:Hp} (h:HLe a b):KeepE ety a b:=⟨h.1,fun y ob ho _=>h.2 y ob ho⟩
theorem Tr.place {ks:List ByteArray} {F:List Fk} {L:List Br} (h:Tr ks F L) (hk:ks≠[]) {j d:Nat} {ks':List ByteArray} (hj:F[j]?=some (ks',d)):∃ a,onePd (L.map (·.fst)) j=a/\onePd (L.map (·.fst)) (j+1)=a+(brs d ks').length/\a+(brs d ks').length<=L.length/\0<(brs d ks').length /\
  ∀ (i:Nat) (hi:i<(brs d ks').length) (hl:a+i<L.length),(L[a+i]).g=(brs d ks')[i]/\(L[a+i]).d=d:=by
 obtain⟨hjl,hje⟩:=List.getElem?_eq_some_iff.1 hj
 obtain⟨a,p1,p2,p3,p4,p5⟩:=h.span hk hjl
 have p6:=h.next hk hjl p1
 rw [hje] at p2 p3 p6
 refine⟨a,by unfold onePd; rw [p1]; rfl,p6,p2,p3,fun i hi hl=>?_⟩
 have:=p5 i (by rw [hje]; exact hi) hl
 simp only [hje] at this
 exact this
def AdK (p q:Nat) (way nx:ByteArray) (w:AV) (H H':Hp) (t:Tm) (K:Hp):Prop:=t 2=.int .i64 q/\t 3=.str way/\t 4=w/\t 5=.pt H.length 0 0/\t 11=.int .i64 p/\t 12=.str nx/\K=H'
def AdJ (keep:Int) (n d a q:Nat) (gs:List (List ByteArray)) (way:ByteArray) (out:List ByteArray) (s:Sv) (r:AV) (H0 H:Hp) (m:Nat) (t:Tm) (H':Hp):Prop:=∃ (i p:Nat) (w:AV),i+m=gs.length/\p=a+i/\t 2=.int .i64 q/\t 3=.str way/\t 4=w/\t 5=.pt H.length 0 0/\t 11=.int .i64 p/\HLe H0 H'/\KeepE 9 H H' /\
 OwnS H0 H' w (out++(((gs.take i).map (sgm n d)).flatten).map (cutK keep))/\H'.at H.length=some ⟨[[.str s.l,.str s.m,.str s.f,r,.int .i64 s.k]],5,66,false⟩
set_option maxHeartbeats 3200000 in
theorem l3Add_ok (s:Sv) (r:AV) (ks:List ByteArray) (keep:Int) (F:List Fk) (L:List Br) (H0:Hp) (h:Svt ks keep F L s) (hke:ks≠[]) (hr:Strs H0 r s.r) :
  ∀ (n j d a q:Nat) (ks':List ByteArray) (way:ByteArray) (v:AV) (out:List ByteArray) (H:Hp),F[j]?=some (ks',d)->onePd (L.map (·.fst)) j=a->onePd (L.map (·.fst)) (j+1)=q->7<=n+d->way.size=d->(∀ x∈ks',x.extract 0 d=way)->HLe H0 H->OwnS H0 H v out->out.length+ks'.length<=1000000 ->
  AC Tryz.prog E 226 [svAV s r,.int .i64 a,.int .i64 q,.str way,v] H (fun u H'=>HLe H0 H'/\KeepE 9 H H'/\OwnS H0 H' u (out++(leafs n ks' d).map (cutK keep)))
 | 0,j,d,a,q,ks',way,v,out,H,hj,_,_,hn,_,_,_,_,_=>by
  obtain⟨hjl,hje⟩:=List.getElem?_eq_some_iff.1 hj
  have hgd:=h.tr.good F[j] (List.getElem_mem hjl)
  rw [hje] at hgd
  have:=hgd.deep
  simp only at this
  omega
 | n+1,j,d,a,q,ks',way,v,out,H,hj,ha,hq',hn,hws,hway,hle0,hv,hlen=>by
  have ih:=l3Add_ok s r ks keep F L H0 h hke hr n
  obtain⟨hjl,hje⟩:=List.getElem?_eq_some_iff.1 hj
  have hgd:=h.tr.good F[j] (List.getElem_mem hjl)
  have hsp:=h.tr.sp F[j] (List.getElem_mem hjl)
  rw [hje] at hgd hsp
  have hd5:d<=5:=hgd.deep
  have hr1:=Rows.one hr
  have hll:=h.len
  obtain⟨a',q1,q2,p2,p3,p6⟩:=h.tr.place hke hj
  rw [ha] at q1
  subst q1
  rw [hq'] at q2
  have hflat:=brs_flat ks'.length (Nat.le_refl _) hsp
  have hleafs:=leafs_succ n ks' d
  have hsf:∀ g∈brs d ks',(sgm n d g).map Prod.fst=g:=fun g hg=>sgm_fst hsp hgd (by omega) hg
  obtain⟨gs,hgs⟩:∃ gs,gs=brs d ks':=⟨_,rfl⟩
  have hgm:∀ g∈gs,g∈brs d ks':=by rw [hgs]; exact fun g h=>h
  simp only [<- hgs] at p2 p3 q2 p6 hflat hleafs hsf
  refine AC_by fol (tC_le tab2_ok) h_spec_l3Add ?_
  obtain⟨H1,hH1,hle1,b0⟩:=svBox s r H
  have hwI:(way.size:Int)<=5:=by omega
  simp [c_spec_l3Add,svAV,hr1,<- hH1,b0]
  refine W_for (AdJ keep n d a q gs way out s r H0 H) gs.length ?_ (tC_mono AC_mono) ?_
  ·exact⟨0,a,v,by omega,by omega,by simp,by simp,by simp,by simp,by simp,hle0.trans hle1,hle1.keepE,by simpa using hv.le hle1,b0⟩
  rintro m t H' ⟨i,p,w,him,hp,t2,t3,t4,t5,t11,hle,hkp,hw,b0'⟩
  have hls:=h.ls
  by_cases hi:i<gs.length
  ·have hpq:p<q:=by omega
   have hpqI:(p:Int)<q:=by omega
   have hpL:p<L.length:=by omega
   have hpLI:(p:Int)<L.length:=by omega
   simp [t2,t3,t4,t5,t11,b0',hpq,hpqI,hls,hpL,hpLI,hwI]
   obtain⟨z1,z2⟩:=p6 i hi (by omega)
   simp only [<- hp] at z1 z2
   have hlt:=h.lt hpL
   obtain⟨x,hx⟩:∃ x,x=gs[i].headD ⟨#[]⟩:=⟨_,rfl⟩
   have hltr:L[p].ltr=letter x d:=by
    unfold Br.ltr
    rw [z1,z2,hx]
   rw [hltr] at hlt
   have hw2:=wrapN (i:=p) (by omega)
   have hbm:=h.bm.bt (i:=p) (by rw [List.length_map]; omega)
   rw [List.getElem_map] at hbm
   have hms:s.m.size=L.length:=by rw [h.bm.size,List.length_map]
   have hmany:L[p].many=many gs[i]:=by unfold Br.many; rw [z1]
   have hgi:=hgm _ (List.getElem_mem hi)
   have hu8:decide (((letter x d).toNat:Int)=45)=decide (letter x d=45):=u8_eq (letter x d) 45
   obtain⟨nx,hnx⟩:∃ nx,nx=if letter x d=45 then way else way++lit1 (letter x d):=⟨_,rfl⟩
   have hl1:(lit1 (letter x d)).size=1:=rfl
   have hnxs:nx.size<=6:=by
    rw [hnx]
    split
    ·omega
    ·rw [ByteArray.size_append]
     omega
   have hcut:=h.cut1 hpL
   rw [hltr] at hcut
   simp [t2,t3,t4,t5,t11,b0',hlt,hls,hpL,hu8]
   refine cG_mid (tC_mono AC_mono) (AdK p q way nx w H H') ?_ ?_
   ·refine c_split (fun hq0=>?_) (fun hq0=>?_)<;>simp at hq0
    ·rw [if_neg hq0] at hnx
     simp [t2,t3,t4,t5,t11,b0',hls,hw2]
     refine⟨⟨by omega,by omega⟩,by omega,by simp [t2],by simp [t3],by simp [t4],by simp [t5],by simp [t11],?_,rfl⟩
     simp [hnx,hcut]
    ·rw [if_pos hq0] at hnx
     simp
     exact⟨by simp [t2],by simp [t3],by simp [t4],by simp [t5],by simp [t11],by simp [hnx,t3],rfl⟩
   clear t2 t3 t4 t5 t11
   rintro t K ⟨t2,t3,t4,t5,t11,t12,rfl⟩
   show W _ _ _ _ _
   have hft:=flat_take (f:=sgm n d) hi (fun g hg=>by
    have:=congrArg List.length (hsf g hg)
    rwa [List.length_map] at this)
   rw [hflat] at hft
   cases hm:many gs[i] with
   | false =>
    rw [hm] at hmany
    rw [hmany] at hbm
    simp only [Bool.false_eq_true,if_false] at hbm
    have hrs:=h.rs hpL hmany
    have hrst:L[p].rst keep=restK x (d+1) keep:=by unfold Br.rst; rw [z1,z2,hx]
    rw [hrst] at hrs
    have hgl:gs[i].length<=1:=by simpa [many] using hm
    have hgne:gs[i]≠[]:=brs_ne ks'.length d ks' (Nat.le_refl _) _ hgi
    have hg1:gs[i]=[x]:=by
     match hgg:gs[i],hgl,hgne with
     | [y],_,_ =>
      rw [hgg] at hx
      rw [hx]
      rfl
    have hxk:x∈ks':=by
     rw [<- hflat]
     exact List.mem_flatten.2 ⟨gs[i],List.getElem_mem hi,by rw [hg1]; simp⟩
    have htx:nx++restK x (d+1) keep=cutK keep (x,d):=by
     rw [hnx]
     exact leaf_text (hsp.ok x hxk) h.kp.1 (hway x hxk) hws
    have hxs:(restK x (d+1) keep).size<1000:=by
     unfold restK
     rw [ByteArray.size_extract]
     have:=h.kp
     omega
    have hcn:=count_not (L.map Br.many) p (by rw [List.length_map]; omega)
    obtain⟨n1,hn1⟩:∃ n1,n1=((L.map Br.many).take p).countP id:=⟨_,rfl⟩
    obtain⟨n2,hn2⟩:∃ n2,n2=((L.map Br.many).take p).countP (fun x=>!x):=⟨_,rfl⟩
    have c1:=l1Ones_ok (E:=E) s.m (L.map Br.many) p K h.bm (by rw [List.length_map]; omega) (by omega)
    rw [<- hn1] at c1 hcn
    rw [<- hn2] at hcn hrs
    obtain⟨hnl,hxe⟩:=List.getElem?_eq_some_iff.1 hrs
    have hrK:=hr.le hle
    have lr:=Strs.len hrK
    have lrs:=Strs.slc hrK
    obtain⟨o1,i1,ob1,hrr,y1,y2,y3⟩:=Strs.get hrK hnl
    rw [hxe] at y3
    have hw15:IntKind.i64.wrap ((p:Int)-(n1:Int))=(n2:Int):=by rw [wrap64 (by omega) (by omega)]; omega
    have hnlI:(n2:Int)<s.r.length:=by omega
    have hsz9:nx.size+(restK x (d+1) keep).size<=9223372036854775807:=by omega
    simp [t2,t3,t4,t5,t11,t12,b0',hbm,hms,hpL]
    refine cg_use c1 ?_
    simp [t2,t3,t4,t5,t11,t12,b0',hw15,lr,lrs,hnl,hnlI]
    rw [hrr]
    simp [t2,t3,t4,t5,t11,t12,b0',y1,y2,y3,hnl,hsz9,htx]
    refine appG_add (y:=cutK keep (x,d)) (row:=strRow) (bytes:=16) (H0:=H0) hw hle (by rw [List.length_append,List.length_map]; omega) rfl (fun v2 K2 g1 g2 g3 g4=>?_)
    simp [t2,t3,t4,t5,t11,hw2]
    have hkpK:KeepE 9 K K2:=⟨g3.1,fun y ob ho he=>g3.2 y ob (fun hy=>he (hw.1.ety hy ho)) ho⟩
    refine⟨m-1,by omega,i+1,p+1,v2,by omega,by omega,by simp [t2],by simp [t3],by simp,by simp [t5],by simp,g1,hkp.trans hkpK,?_,?_⟩
    ·have e:sgm n d gs[i]=[(x,d)]:=by
      unfold sgm
      rw [hm,<- hx]
      rfl
     rw [flat_succ hi,e,List.map_append,<- List.append_assoc]
     exact g2
    ·have:=hkpK.2 _ _ b0' (by simp)
     rw [hrr] at this
     exact this
   | true =>
    rw [hm] at hmany
    rw [hmany,if_pos rfl] at hbm
    have hkd:=h.kid hpL hmany
    obtain⟨j2,hj2⟩:∃ j2,j2=((L.map Br.many).take (p+1)).countP id:=⟨_,rfl⟩
    have cK:=l3Kids_ok (E:=E) s r (L.map Br.many) (L.map (·.fst)) p K hr1 h.bm h.bf (by rw [List.length_map]; omega) (by rw [List.length_map]; omega) (by rw [List.length_map]; omega)
    rw [<- hj2] at hkd cK
    have hkk:L[p].kid=(gs[i],d+1):=by unfold Br.kid; rw [z1,z2]
    rw [hkk] at hkd
    obtain⟨a2,s1,s2,s3,s4,s6⟩:=h.tr.place hke hkd
    rw [s1,s2] at cK
    have s6':=s6 0 s4 (by omega)
    have hlater:p<a2:=by
     refine h.tr.later hpL (show a2<L.length by omega) ?_
     have:(L[a2+0]'(by omega)).d=d+1:=s6'.2
     simp only [Nat.add_zero] at this
     rw [this,z2]
    have hgmo:=g_more hsp hgi hm
    have hne45:letter x d≠45:=by
     match hgg:gs[i],hm,hgmo with
     | y :: g',_,hgmo =>
      have:=hgmo y (by simp)
      rw [hx,hgg]
      exact this.2.1
    have hnle:¬a2<=p:=by omega
    have hnleI:¬(a2:Int)<=p:=by omega
    have hnx2:nx=way++lit1 (letter x d):=by rw [hnx,if_neg hne45]
    have cP:=ih j2 (d+1) a2 (a2+(brs (d+1) gs[i]).length) gs[i] nx w _ K hkd s1 s2 (by omega) (by rw [hnx2,ByteArray.size_append]; omega) (fun y hy=>by
     obtain⟨m1,m2,m3⟩:=hgmo y hy
     have hyk:y∈ks':=by
      rw [<- hflat]
      exact List.mem_flatten.2 ⟨gs[i],List.getElem_mem hi,hy⟩
     rw [<- way_more m1,hway y hyk,hnx2,m3,hx]) hle hw (by rw [List.length_append,List.length_map]; omega)
    simp only [svAV] at cK cP
    simp [t2,t3,t4,t5,t11,t12,b0',hbm,hms,hpL]
    refine cg_use cK ?_
    simp [t2,t3,t4,t5,t11,t12,b0',hnle,hnleI]
    refine cg_ex cP ?_
    rintro w2 K2 ⟨g1,g2,g3⟩
    simp [t2,t3,t4,t5,t11,hw2]
    refine⟨m-1,by omega,i+1,p+1,w2,by omega,by omega,by simp [t2],by simp [t3],by simp,by simp [t5],by simp,g1,hkp.trans g2,?_,g2.2 _ _ b0' (by simp)⟩
    have e:sgm n d gs[i]=leafs n gs[i] (d+1):=by
     unfold sgm
     rw [if_pos hm]
    rw [flat_succ hi,e,List.map_append,<- List.append_assoc]
    exact g3
  ·have hieq:i=gs.length:=by omega
   have hpq:¬p<q:=by omega
   have hpqI:¬(p:Int)<q:=by omega
   rw [hieq,List.take_length,<- hleafs] at hw
   simp [t2,t3,t4,t5,t11,hpq,hpqI]
   exact⟨hle,hkp,hw⟩
end Go.Proofs.YtgoeenodllmdpaaGreat.B

namespace Go.Proofs.YtgoeenodllmdpaaGreat.B
open Go.RowKit Go.Proofs
set_option linter.unusedVariables false
set_option linter.unusedSimpArgs false
variable {E:Env}
theorem sBits_ok (s:ByteArray) (b:List Bool) (H:Hp) (hb:BitsIs s b) (hs:b.length<=400) :
  AC Tryz.prog E 258 [.str s] H (fun v H'=>v=.bool true/\H'=H):=by
 refine AC_byp (tC_le tab2_ok) h_spec_BitsOk (by simp) ?_
 have hsz:=hb.size
 simp [c_spec_BitsOk]
 refine W_for (fun k t H'=>∃ i:Nat,i+k=b.length/\t 0=.str s/\t 3=.int .i64 i/\HLe H H') b.length ?_ (tC_mono AC_mono) ?_
 ·exact⟨0,by simp,by simp,by simp,HLe.refl _⟩
 rintro k t H' ⟨i,hik,h0,h3,hle⟩
 simp [h0,h3,hsz]
 refine c_split (fun hq=>?_) (fun hq=>?_)<;>simp at hq
 ·have hi:i<b.length:=by omega
  have hw:=wrapN (i:=i) (by omega)
  have hbt:=hb.bt hi
  cases hbi:b[i] with
  | false =>
   rw [hbi] at hbt
   simp at hbt
   simp [h0,h3,hbt,hsz,hi,hw]
   exact⟨k-1,by omega,i+1,by omega,by omega,hle⟩
  | true =>
   rw [hbi] at hbt
   simp at hbt
   simp [h0,h3,hbt,hsz,hi,hw]
   exact⟨k-1,by omega,i+1,by omega,by omega,hle⟩
 ·have hI:(b.length:Int)<=400:=by omega
  simp [h0,hsz,hI,hs,hle]
theorem sBegins_ok (k p:ByteArray) (H:Hp) (hk:k.size<4611686018427387904) (hp:p.size<4611686018427387904):AC Tryz.prog E 227 [.str k,.str p] H (fun v H'=>v=.bool (begins k p)/\H'=H):=by
 refine AC_byp (CLe.refl (AC Tryz.prog E)) h_spec_KeyBegins (by simp) ?_
 simp [c_spec_KeyBegins]
 by_cases h:p.size<=k.size
 ·have hI:(p.size:Int)<=k.size:=by omega
  simp [h,hI,begins]
 ·have hI:¬(p.size:Int)<=k.size:=by omega
  simp [h,hI,begins]
theorem Svt.rl {ks:List ByteArray} {keep:Int} {F:List Fk} {L:List Br} {s:Sv} (h:Svt ks keep F L s):s.r.length+((L.map Br.many).take L.length).countP id=L.length:=by
 have h1:=count_not (L.map Br.many) L.length (by simp)
 have h2:s.r.length=((L.map Br.many).take L.length).countP (fun x=>!x):=by
  rw [h.en.r,List.length_map,List.take_of_length_le (by simp),List.countP_map,List.countP_eq_length_filter]
  rfl
 omega
theorem l3Form_ok (s:Sv) (r:AV) (ks:List ByteArray) (keep:Int) (F:List Fk) (L:List Br) (H:Hp) (h:Svt ks keep F L s) (hl4:L.length<=400) (hr:Strs H r s.r) :
  AC Tryz.prog E 225 [svAV s r] H (fun v H'=>v=.bool true/\H'=H):=by
 refine AC_byp (tC_le tab2_ok) h_spec_l3Form (by simp) ?_
 obtain⟨H1,hH1,hle1,b0⟩:=svBox s r H
 have hr1:=Rows.one hr
 have hls:=h.ls
 have hms:s.m.size=L.length:=by rw [h.bm.size,List.length_map]
 have hfs:s.f.size=L.length:=by rw [h.bf.size,List.length_map]
 have hrl:=h.rl
 have lr:=(hr.le hle1).len
 have lrs:=(hr.le hle1).slc
 obtain⟨n,hn⟩:∃ n,n=((L.map Br.many).take L.length).countP id:=⟨_,rfl⟩
 have c1:=l1Ones_ok (E:=E) s.m (L.map Br.many) L.length H1 h.bm (by rw [List.length_map]; omega) (by omega)
 rw [<- hn] at hrl c1
 have hw:IntKind.i64.wrap ((L.length:Int)-(n:Int))=(s.r.length:Int):=by rw [wrap64 (by omega) (by omega)]; omega
 have hk:=h.en.k
 have hkp:=h.kp
 simp [c_spec_l3Form,svAV,hr1,<- hH1,b0,hls]
 refine cg_use (sBits_ok s.m (L.map Br.many) H1 h.bm (by rw [List.length_map]; omega)) ?_
 simp [b0]
 refine cg_use (sBits_ok s.f (L.map (·.fst)) H1 h.bf (by rw [List.length_map]; omega)) ?_
 simp [b0,hms,hfs,lr,lrs]
 refine cg_use c1 ?_
 simp [b0,hw,lr,lrs,hk,hkp.1,hkp.2,hle1]
theorem heads0 {ks:List ByteArray} {keep:Int} {F:List Fk} {L:List Br} {s:Sv} (h:Svt ks keep F L s):onePd (L.map (·.fst)) 0=0:=by
 have:=h.tr.l
 cases hL:L with
 | nil=>rfl
 | cons b L' =>
  have hks:ks≠[]:=fun e=>by
   have:=h.tr.z e
   rw [hL] at this
   cases this
  obtain⟨a,p1,p2,p3,p4,p5⟩:=h.tr.span hks (j:=0) (by rw [h.tr.f]; simp)
  have hat:=h.tr.at (j:=0) (by rw [h.tr.f]; simp)
  obtain⟨b',r',e',hb',_⟩:=recF_cons (h.tr.ne hks _ (List.getElem_mem (by rw [h.tr.f]; simp:0<F.length)))
  rw [List.take_zero,List.flatMap_nil,List.nil_append,e'] at hat
  rw [<- hL,hat,List.cons_append,List.map_cons,hb']
  rfl
end Go.Proofs.YtgoeenodllmdpaaGreat.B

namespace Go.Proofs.YtgoeenodllmdpaaGreat.B
open Go.RowKit Go.Proofs
set_option linter.unusedVariables false
set_option linter.unusedSimpArgs false
variable {E:Env}
theorem ba_empty (x:ByteArray):x.extract 0 0=⟨#[]⟩:=by
 apply ba_ext
 rw [ba_toList]
 rfl
set_option maxHeartbeats 1600000 in
theorem l3Heads_ok (ks:List ByteArray) (keep:Int) (s:Sv) (r:AV) (F:List Fk) (L:List Br) (H:Hp) (h:Svt ks keep F L s) (hk:keysOk ks=true) (hr:Strs H r s.r) :
  AC Tryz.prog E 177 [svAV s r] H (fun u H'=>HLe H H'/\OwnS H H' u (headsR ks keep)):=by
 refine AC_by fol (tC_le tab2_ok) h_spec_l3Heads ?_
 obtain⟨H1,hH1,hle1,b0⟩:=svBox s r H
 have hr1:=Rows.one hr
 have hll:=h.len
 have hks:=(keysOk_good hk).2
 have cL:∀ K:Hp,HLe H K->∀ v,OwnS H K v []->AC Tryz.prog E 226 [svAV s r,.int .i64 0,.int .i64 (onePd (L.map (·.fst)) 1),.str ⟨#[]⟩,v] K (fun u H'=>HLe H H'/\OwnS H H' u (headsR ks keep)):=fun K hK v hv=>by
  by_cases hke:ks=[]
  ·have hL:=h.tr.z hke
   have e1:onePd (L.map (·.fst)) 1=0:=by rw [hL]; rfl
   have e2:headsR ks keep=[]:=by unfold headsR; rw [hke,leafs,brs]; rfl
   rw [e1,e2]
   refine AC_by fol (tC_le tab2_ok) h_spec_l3Add ?_
   obtain⟨K1,hK1,hle2,c0⟩:=svBox s r K
   simp [c_spec_l3Add,svAV,hr1,<- hK1,c0]
   refine W_for (fun m t H'=>t 2=.int .i64 0/\t 4=v/\t 11=.int .i64 0/\H'=K1) 0 ?_ (tC_mono AC_mono) ?_
   ·exact⟨by simp,by simp,by simp,rfl⟩
   rintro m t H' ⟨t2,t4,t11,rfl⟩
   simp [t2,t4,t11]
   exact⟨hK.trans hle2,hv.le hle2⟩
  ·have:=l3Add_ok (E:=E) s r ks keep F L H h hke hr 7 0 0 0 (onePd (L.map (·.fst)) 1) ks ⟨#[]⟩ v [] K (by rw [h.tr.f]; rfl) (heads0 h) rfl (by omega) rfl (fun x _=>ba_empty x) hK hv (by simp; omega)
   refine this.mono (fun u H' q=>⟨q.1,?_⟩)
   simpa [headsR] using q.2.2
 simp only [svAV] at cL
 simp [-RgP_both,c_spec_l3Heads,svAV,hr1,<- hH1,b0]
 have c1:∀ K,AC Tryz.prog E 180 [.str s.f,.int .i64 1] K (fun v H'=>v=.int .i64 (onePd (L.map (·.fst)) 1)/\H'=K):=fun K=>l1One_ok s.f (L.map (·.fst)) 1 K h.bf (by rw [List.length_map]; omega) (by omega)
 obtain⟨G,hG⟩:∃ G:Hp,G=H1++[some ⟨[],1,9,false⟩]:=⟨_,rfl⟩
 have hleG:HLe H1 G:=by rw [hG]; exact HLe.self _ _
 have bG:=hleG.2 _ _ b0
 have hlit:OwnS H G (.sl H1.length 0 0) []:=by rw [hG]; exact OwnM.lit0 hle1
 rw [RgP_both]
 refine⟨?_,?_⟩
 ·simp [b0]
  refine cg_use (c1 H1) ?_
  simp [b0]
  simp only [<- hG]
  simp [bG]
  refine cg_ex (cL G (hle1.trans hleG) _ hlit) ?_
  rintro u K ⟨h1,h2⟩
  simp
  exact⟨h1,h2⟩
 ·simp [b0]
  simp only [<- hG]
  simp [bG]
  refine cg_use (c1 G) ?_
  simp [bG]
  refine cg_ex (cL G (hle1.trans hleG) _ hlit) ?_
  rintro u K ⟨h1,h2⟩
  simp
  exact⟨h1,h2⟩
set_option maxHeartbeats 1600000 in
theorem SieveOk_ok (ks:List ByteArray) (keep:Int) (r:AV) (H:Hp) (hk:keysOk ks=true) (hkp:0<=keep/\keep<=5) (hr:Strs H r (sieveR ks keep).r) :
  AC Tryz.prog E 176 [svAV (sieveR ks keep) r] H (fun v H'=>v=.bool true/\H'=H):=by
 refine AC_byp (tC_le tab2_ok) h_spec_SieveOk (by simp) ?_
 obtain⟨F,L,h⟩:=Svt.of hk hkp
 obtain⟨H1,hH1,hle1,b0⟩:=svBox (sieveR ks keep) r H
 have hr1:=Rows.one hr
 have hfew:=sieveR_few (keep:=keep) hk
 have hls:=h.ls
 obtain⟨hhk,hhl⟩:=heads_ok' (keep:=keep) hk
 have hks:=(keysOk_good hk).2
 have hso:=sieve_heads (keep:=keep) hk
 have hsvo:sieveO (headsR ks keep) keep=some (sieveR ks keep):=by
  unfold sieveO
  rw [if_pos ⟨hhk,hkp⟩,hso]
 have hsk:(sieveR ks keep).k=keep:=h.en.k
 have hhs:∀ k∈headsR ks keep,k.size<4611686018427387904:=fun k hk=>by
  have:=keyOk_size ((SP.of_keys hhk).ok k hk)
  omega
 have hhl2:(headsR ks keep).length<1000000:=by
  have:=(keysOk_good hhk).2
  omega
 obtain⟨s,hs⟩:∃ s,s=sieveR ks keep:=⟨_,rfl⟩
 rw [<- hs] at h hr b0 hls hsk hsvo hfew hH1 ⊢
 have hrl:s.r.length<1000000:=by
  have:=h.rl
  have:=h.len
  omega
 have cF:=l3Form_ok (E:=E) s r ks keep F L H1 h (by omega) (hr.le hle1)
 have cH:=l3Heads_ok (E:=E) ks keep s r F L H1 h hk (hr.le hle1)
 simp only [svAV] at cF cH
 simp [c_spec_SieveOk,svAV,hr1,<- hH1,b0]
 refine cg_use cF ?_
 simp [b0]
 refine cg_ex cH ?_
 rintro u H2 ⟨hle2,hu⟩
 have b2:=hle2.2 _ _ b0
 simp [b2,hsk]
 refine cg_ex (SieveOf_ok u (headsR ks keep) keep H2 hu.rows hhs (by omega)) ?_
 rintro v H3 ⟨hle3,hret⟩
 rw [hsvo] at hret
 obtain⟨r2,rfl,hr2,hr2l⟩:=hret
 have b3:=hle3.2 _ _ b2
 obtain⟨G,hG⟩:∃ G:Hp,G=H3++[some ⟨[[.str s.l,.str s.m,.str s.f,r2,.int .i64 s.k]],5,66,false⟩]:=⟨_,rfl⟩
 have hleG:HLe H3 G:=by rw [hG]; exact HLe.self _ _
 have bG:=hleG.2 _ _ b3
 have cG:G.at H3.length=some ⟨[[.str s.l,.str s.m,.str s.f,r2,.int .i64 s.k]],5,66,false⟩:=by rw [hG]; simp
 have hleA:=((hle1.trans hle2).trans hle3).trans hleG
 simp [svAV,Rows.one hr2.rows]
 simp only [<- hG]
 simp [bG,cG]
 refine cg_use (l3Sames_ok r2 r s.r s.r G (hr2.rows.le hleG) (hr.le hleA) (by omega)) ?_
 simp [hleA]
def WkR (keep:Int) (L:List Br) (k:ByteArray) (R:Bool) (v:AV):Prop:=(v=.tu [.int .i64 0,.int .i64 0,.bool false]/\R=false) \/
 ∃ (p d:Nat) (x:ByteArray) (hp:p<L.length),v=.tu [.int .i64 p,.int .i64 ((min (d+1) k.size:Nat):Int),.bool true]/\L[p].many=false/\L[p].rst keep=restK x (d+1) keep/\L[p].ltr=letter x d/\R=leafHas k d keep x
def HwI (keep:Int) (k:ByteArray) (F:List Fk) (fs:List Bool) (R:Bool) (s:Sv) (r:AV) (H:Hp) (m:Nat) (t:Tm) (H':Hp):Prop:=∃ (j d:Nat) (ks:List ByteArray),F[j]?=some (ks,d)/\m+d=7/\d<=k.size/\hasF keep k m ks d=R/\t 1=.str k/\t 2=.pt H.length 0 0/\t 7=.int .i64 (onePd fs j)/\t 8=.int .i64 (onePd fs (j+1))/\t 9=.int .i64 d/\HLe H H'/\H'.at H.length=some ⟨[[.str s.l,.str s.m,.str s.f,r,.int .i64 s.k]],5,66,false⟩
def HwJ (k:ByteArray) (s:Sv) (r:AV) (H:Hp) (a nb q d:Nat) (gs:List (List ByteArray)) (m:Nat) (t:Tm) (H':Hp):Prop:=∃ (i p:Nat) (at_:Int),i+m=nb/\p=a+i/\t 1=.str k/\t 2=.pt H.length 0 0/\t 8=.int .i64 q/\t 9=.int .i64 d/\t 10=.int .i64 at_/\t 11=.int .i64 p /\
 ((at_=-1/\∀ (x:Nat) (hx:x<gs.length),x<i->letter (gs[x].headD ⟨#[]⟩) d≠letter k d)\/∃ (x:Nat) (hx:x<gs.length),x<i/\at_=((a+x:Nat):Int)/\letter (gs[x].headD ⟨#[]⟩) d=letter k d)/\HLe H H'/\H'.at H.length=some ⟨[[.str s.l,.str s.m,.str s.f,r,.int .i64 s.k]],5,66,false⟩
theorem lit1_eq (a b:UInt8):decide (lit1 a=lit1 b)=decide (a=b):=by
 rw [decide_eq_decide]
 constructor
 ·intro h
  have:=congrArg (fun x:ByteArray=>x.data.toList) h
  simpa [lit1] using this
 ·rintro rfl
  rfl
set_option maxHeartbeats 3200000 in
theorem l3Walk_ok (s:Sv) (r:AV) (k:ByteArray) (ks:List ByteArray) (keep:Int) (F:List Fk) (L:List Br) (H:Hp) (h:Svt ks keep F L s) (hke:ks≠[]) (hr1:one r=true) (hk:keyOk k=true) :
  AC Tryz.prog E 233 [svAV s r,.str k] H (fun v H'=>HLe H H'/\WkR keep L k (hasR ks keep k) v):=by
 refine AC_by fol (tC_le tab2_ok) h_spec_l3Walk ?_
 obtain⟨H1,hH1,hle1,b0⟩:=svBox s r H
 have hks:=keyOk_size hk
 have hll:=h.len
 have hls:=h.ls
 have hms:s.m.size=L.length:=by rw [h.bm.size,List.length_map]
 obtain⟨fs,hfs⟩:∃ fs,fs=L.map (·.fst):=⟨_,rfl⟩
 have hbf:=h.bf
 have h00:=heads0 h
 have hpl:∀ {j d:Nat} {ks':List ByteArray},F[j]?=some (ks',d)->_:=fun {j d ks'} hj=>h.tr.place hke hj
 rw [<- hfs] at hbf h00 hpl
 have hfl:fs.length=L.length:=by rw [hfs,List.length_map]
 simp [c_spec_l3Walk,svAV,hr1,<- hH1,b0]
 refine cg_use (l1One_ok s.f fs 1 H1 hbf (by omega) (by omega)) ?_
 simp
 refine W_for (HwI keep k F fs (hasR ks keep k) s r H) 7 ?_ (tC_mono AC_mono) ?_
 ·refine⟨0,0,ks,by rw [h.tr.f]; rfl,rfl,Nat.zero_le _,rfl,by simp,by simp,by simp [h00],by simp,by simp,hle1,b0⟩
 rintro m t H' ⟨j,d,ks',hj,hmd,hdk,hR,t1,t2,t7,t8,t9,hle,b0'⟩
 obtain⟨hjl,hje⟩:=List.getElem?_eq_some_iff.1 hj
 have hgd:=h.tr.good F[j] (List.getElem_mem hjl)
 have hsp:=h.tr.sp F[j] (List.getElem_mem hjl)
 rw [hje] at hgd hsp
 have hd5:d<=5:=hgd.deep
 obtain⟨n,rfl⟩:∃ n,m=n+1:=⟨m-1,by omega⟩
 obtain⟨a,q1,q2,p2,p3,p6⟩:=hpl hj
 have hpw:=brs_letters ks'.length d ks' (Nat.le_refl _) hsp
 rw [hasF] at hR
 obtain⟨gs,hgs⟩:∃ gs,gs=brs d ks':=⟨_,rfl⟩
 have hgm:∀ g∈gs,g∈brs d ks':=by rw [hgs]; exact fun g h=>h
 simp only [<- hgs] at q2 p2 p3 p6 hR hpw
 rw [q1] at t7
 rw [q2] at t8
 obtain⟨q,hqa⟩:∃ q:Nat,q=a+gs.length:=⟨_,rfl⟩
 rw [<- hqa] at t8
 simp [t1,t2,t7,t8,t9]
 refine W_for (HwJ k s r H a gs.length q d gs) gs.length ?_ (tC_mono AC_mono) ?_
 ·exact⟨0,a,-1,by omega,rfl,by simp [t1],by simp [t2],by simp [t8],by simp [t9],by simp,by simp,.inl ⟨rfl,fun x _ hx=>by omega⟩,hle,b0'⟩
 clear t1 t2 t7 t8 t9 hle b0'
 rintro m t H' ⟨i,p,at_,him,hp,t1,t2,t8,t9,t10,t11,hat,hle,b0'⟩
 by_cases hi:i<gs.length
 ·have hpq:p<q:=by omega
  have hpqI:(p:Int)<q:=by omega
  have hpL:p<L.length:=by omega
  have hpLI:(p:Int)<L.length:=by omega
  have hw2:=wrapN (i:=p) (by omega)
  obtain⟨z1,z2⟩:=p6 i hi (by omega)
  simp only [<- hp] at z1 z2
  have hcut:=h.cut1 hpL
  obtain⟨x,hx⟩:∃ x,x=gs[i].headD ⟨#[]⟩:=⟨_,rfl⟩
  have hltr:L[p].ltr=letter x d:=by
   unfold Br.ltr
   rw [z1,z2,hx]
  rw [hltr] at hcut
  simp [t1,t2,t8,t9,t10,t11,b0',hls,hpq,hpqI,hpL,hpLI,hw2]
  refine⟨⟨by omega,by omega⟩,?_⟩
  refine cg_use (l3Letter_ok k d H' (by omega)) ?_
  rw [hcut]
  simp [t1,t2,t8,t9,t10,t11,b0',hls,hpL,hw2]
  by_cases hc:letter x d=letter k d
  ·have hc2:lit1 (letter x d)=lit1 (letter k d):=by rw [hc]
   simp [hc2,t1,t2,t8,t9,t10,t11,hw2]
   exact⟨m-1,by omega,i+1,p+1,(p:Int),by omega,by omega,by simp [t1],by simp [t2],by simp [t8],by simp [t9],by simp,by simp,.inr ⟨i,hi,by omega,by omega,by rw [<- hx]; exact hc⟩,hle,b0'⟩
  ·have hc2:¬lit1 (letter x d)=lit1 (letter k d):=fun e=>by
    have:=lit1_eq (letter x d) (letter k d)
    rw [decide_eq_true e] at this
    exact hc (of_decide_eq_true this.symm)
   simp [hc2,t1,t2,t8,t9,t10,t11,hw2]
   refine⟨m-1,by omega,i+1,p+1,at_,by omega,by omega,by simp [t1],by simp [t2],by simp [t8],by simp [t9],by simp [t10],by simp,?_,hle,b0'⟩
   rcases hat with ⟨e,ha⟩ | ⟨y,hy,h1,h2,h3⟩
   ·refine .inl ⟨e,fun y hy hyi=>?_⟩
    by_cases hyi2:y=i
    ·subst hyi2
     rw [<- hx]
     exact hc
    ·exact ha y hy (by omega)
   ·exact .inr ⟨y,hy,by omega,h2,h3⟩
 ·have hpq:¬p<q:=by omega
  have hpqI:¬(p:Int)<q:=by omega
  rcases hat with ⟨rfl,ha⟩ | ⟨y,hy,h1,rfl,h3⟩
  ·have hpn:=pickG_none (gs:=gs) (d:=d) (c:=letter k d) (fun g hg=>by
    obtain⟨y,hy,rfl⟩:=List.getElem_of_mem hg
    exact ha y hy (by omega))
   rw [hpn] at hR
   simp only at hR
   simp [t1,t2,t8,t9,t10,t11,hpq,hpqI]
   exact⟨hle,.inl ⟨rfl,hR.symm⟩⟩
  ·obtain⟨pp,hpp⟩:∃ pp:Nat,pp=a+y:=⟨_,rfl⟩
   rw [<- hpp] at t10
   have hppL:pp<L.length:=by omega
   have hppn:¬(pp:Int)<0:=by omega
   have hpk:=pickG_at hy hpw h3
   rw [hpk] at hR
   simp only at hR
   obtain⟨z1,z2⟩:=p6 y hy (by omega)
   simp only [<- hpp] at z1 z2
   obtain⟨x,hx⟩:∃ x,x=gs[y].headD ⟨#[]⟩:=⟨_,rfl⟩
   rw [<- hx] at h3
   have hbm:=h.bm.bt (i:=pp) (by rw [List.length_map]; omega)
   rw [List.getElem_map] at hbm
   have hmany:L[pp].many=many gs[y]:=by unfold Br.many; rw [z1]
   have hgi:=hgm _ (List.getElem_mem hy)
   have hw2:=wrapN (i:=d) (by omega)
   cases hm:many gs[y] with
   | false =>
    rw [hm] at hmany hR
    rw [hmany] at hbm
    simp only [Bool.false_eq_true,if_false] at hbm hR
    rw [<- hx] at hR
    have hmin:(if (k.size:Int)<(d:Int)+1 then (k.size:Int) else (d:Int)+1)=((min (d+1) k.size:Nat):Int):=by
     split<;>omega
    simp [t1,t2,t8,t9,t10,t11,hpq,hpqI,hppn,b0',hms,hppL,hbm,hw2,hmin]
    exact⟨hle,.inr ⟨pp,d,x,hppL,by simp,hmany,by unfold Br.rst; rw [z1,z2,hx],by unfold Br.ltr; rw [z1,z2,hx],hR.symm⟩⟩
   | true =>
    rw [hm] at hmany
    rw [hmany,if_pos rfl] at hbm
    rw [hm,if_pos rfl] at hR
    have hkd:=h.kid hppL hmany
    obtain⟨j2,hj2⟩:∃ j2,j2=((L.map Br.many).take (pp+1)).countP id:=⟨_,rfl⟩
    have cK:=l3Kids_ok (E:=E) s r (L.map Br.many) fs pp H' hr1 h.bm hbf (by rw [List.length_map]; omega) (by omega) (by rw [List.length_map]; omega)
    rw [<- hj2] at hkd cK
    have hkk:L[pp].kid=(gs[y],d+1):=by unfold Br.kid; rw [z1,z2]
    rw [hkk] at hkd
    simp only [svAV] at cK
    simp [t1,t2,t8,t9,t10,t11,hpq,hpqI,hppn,b0',hms,hppL,hbm,hw2]
    refine cg_use cK ?_
    simp [t1,t2,t9,hw2]
    exact⟨n,by omega,j2,d+1,gs[y],hkd,by omega,letter_more hk hsp hgi hm (by rw [<- hx]; exact h3),hR,by simp [t1],by simp [t2],by simp,by simp,by simp,hle,b0'⟩
end Go.Proofs.YtgoeenodllmdpaaGreat.B

/- A part of the proof: The reference finds a key in a store. The program's past, alone and with what is written; a new store. The reference's draws: deeds. The reference's stores: a new one. The reference's draws: stores. The reference's draws: stores. Stores that are drawn, and spoilt; runs and stores are compared. Stores that are spoilt. Stores are compared. Stores are compared, whole. What changes nothing may be left out, in plain Lean. Deeds that change something. A store and deeds are drawn. Stores, keys and values that are drawn. The law FnStorePutOther. The program's StoreList. The laws' ltPast: two stores, listed at some times. Stores that are drawn, and times of theirs. Times that are drawn; stores, keys and times. What is found is what is listed alone: in plain Lean. The law FnStoreGet. There is no condition. -/
import Derived.Test.YtdncpcghiooeoaaGreatM0
import Derived.Test.YtdncpcghiooeoaaGreatM1
import Derived.Test.YtdncpcghiooeoaaGreatM2
import Derived.Test.YtdncpcghiooeoaaGreatM3
import Derived.Test.YtdncpcghiooeoaaGreatM4
namespace Go.Proofs.YtdncpcghiooeoaaGreat.B
open Go.RowKit Go.Proofs
set_option linter.unusedVariables false
set_option linter.unusedSimpArgs false
variable {E:Env}
set_option maxHeartbeats 1600000 in
theorem SieveHas_ok (ks:List ByteArray) (keep:Int) (r:AV) (k:ByteArray) (H:Hp) (hk:keysOk ks=true) (hkp:0<=keep/\keep<=5) (hr:Strs H r (sieveR ks keep).r) (hkk:keyOk k=true) :
  AC Tryz.prog E 33 [svAV (sieveR ks keep) r,.str k] H (fun v H'=>v=.bool (hasR ks keep k)/\H'=H):=by
 refine AC_byp (tC_le tab2_ok) h_spec_SieveHas (by simp) ?_
 obtain⟨F,L,h⟩:=Svt.of hk hkp
 have hks:=keyOk_size hkk
 have hkey:∀ {C:CallP} {d:Option Nat} {ag} {p:Plan} {t:Tm} {H:Hp} {K:Tm->Hp->Prop},_:=@fun C d ag p t H K=>tab2_key C d ag p t H K k (by omega)
 have cO:∀ K,HLe H K->_:=fun K hK=>SieveOk_ok (E:=E) ks keep r K hk hkp (hr.le hK)
 obtain⟨s,hs⟩:∃ s,s=sieveR ks keep:=⟨_,rfl⟩
 rw [<- hs] at h hr ⊢
 simp only [<- hs] at cO
 obtain⟨H1,hH1,hle1,b0⟩:=svBox s r H
 have hr1:=Rows.one hr
 have hls:=h.ls
 have hll:=h.len
 simp only [svAV] at cO
 simp [c_spec_SieveHas,svAV,hr1,<- hH1,b0]
 refine cg_use (cO H1 hle1) ?_
 simp [hkey,hkk,b0,hls]
 by_cases hke:ks=[]
 ·have hL:=h.tr.z hke
  have hL0:L.length=0:=by rw [hL]; rfl
  have e2:hasR ks keep k=false:=by
   unfold hasR
   rw [hke,hasF,brs]
   rfl
  simp [hL,e2,hle1]
 have hL0:L.length≠0:=fun e=>by
  obtain⟨a,_,_,p2,p3,_⟩:=h.tr.place hke (j:=0) (d:=0) (ks':=ks) (by rw [h.tr.f]; rfl)
  omega
 have hL0I:¬(L.length:Int)=0:=by omega
 have cW:=l3Walk_ok (E:=E) s r k ks keep F L H1 h hke hr1 hkk
 simp only [svAV] at cW
 have hLne:L≠[]:=fun e=>hL0 (by rw [e]; rfl)
 simp [hLne,b0]
 refine cg_ex cW ?_
 rintro v H2 ⟨hle2,hv⟩
 have hleA:=hle1.trans hle2
 have b2:=hle2.2 _ _ b0
 rcases hv with ⟨rfl,hR⟩ | ⟨p,d,x,hp,rfl,hm,hrst,hltr,hR⟩
 ·simp [hR,hleA]
 ·have hrs:=h.rs hp hm
  rw [hrst] at hrs
  have hlt:=h.lt hp
  rw [hltr] at hlt
  have hcn:=count_not (L.map Br.many) p (by rw [List.length_map]; omega)
  have hwk:(decide (letter x d=45)||decide (((restK x (d+1) keep).size:Int)<s.k))=wholeK x d keep:=by rw [h.en.k]; rfl
  have cC:=l3Whole_ok (E:=E) s r (L.map Br.many) p H2 (hr.le hleA) h.bm (by rw [List.length_map]; omega) (by rw [List.length_map]; omega) (by rw [List.length_map]; exact hls) _ hrs _ hlt
  rw [hwk] at cC
  have c1:=l1Ones_ok (E:=E) s.m (L.map Br.many) p H2 h.bm (by rw [List.length_map]; omega) (by omega)
  obtain⟨n1,hn1⟩:∃ n1,n1=((L.map Br.many).take p).countP id:=⟨_,rfl⟩
  obtain⟨n2,hn2⟩:∃ n2,n2=((L.map Br.many).take p).countP (fun x=>!x):=⟨_,rfl⟩
  rw [<- hn1] at c1 hcn
  rw [<- hn2] at hcn hrs
  obtain⟨hnl,hxe⟩:=List.getElem?_eq_some_iff.1 hrs
  obtain⟨o1,i1,ob1,hrr,y1,y2,y3⟩:=Strs.get (hr.le hleA) hnl
  rw [hxe] at y3
  have hw15:IntKind.i64.wrap ((p:Int)-(n1:Int))=(n2:Int):=by rw [wrap64 (by omega) (by omega)]; omega
  have hxs:(restK x (d+1) keep).size<1000:=by
   unfold restK
   rw [ByteArray.size_extract]
   omega
  obtain⟨e,he⟩:∃ e:Nat,e=min (d+1) k.size:=⟨_,rfl⟩
  have het:k.extract e k.size=tailK k d:=by unfold tailK; rw [he]
  have hts:(tailK k d).size<=k.size:=by rw [<- het,ByteArray.size_extract]; omega
  unfold leafHas at hR
  simp only [svAV] at cC
  subst hrr
  rw [<- he]
  simp [b2]
  refine cg_use c1 ?_
  simp [b2,hw15,y1,y2,y3,hnl]
  refine cg_use cC ?_
  cases hwh:wholeK x d keep with
  | true =>
   rw [hwh,if_pos rfl] at hR
   simp [het,hleA,hR]
   omega
  | false =>
   rw [hwh] at hR
   simp only [Bool.false_eq_true,if_false] at hR
   simp [het]
   refine⟨by omega,?_⟩
   refine cg_use (sBegins_ok _ _ H2 (by omega) (by omega)) ?_
   simp [hleA,hR]
def LkI (s:Sr) (time:Int) (L:Nat) (H:Hp) (m:Nat) (t:Tm) (H':Hp):Prop:=∃ i:Nat,i+m=s.tms.length/\t 1=.int .i64 time/\t 2=.pt L 0 0/\t 5=.bool (decide (time=s.time)||decide (time∈s.tms.take i))/\t 6=.int .i64 i/\H'=H
theorem l12Known_ok (v:AV) (s:Sr) (time:Int) (H:Hp) (hs:St H v s) (hn:s.tms.length<1099511627776) :
  AC Tryz.prog E 14 [v,.int .i64 time] H (fun u H'=>u=.bool (knownR s time)/\H'=H):=by
 obtain⟨a,b,c,d,rfl,n1,n2,n3,n4,ha,hd⟩:=hs.shape
 refine AC_byp (tC_le tab2_ok) h_spec_l12Known (by simp) ?_
 obtain⟨H1,hH1⟩:∃ H1:Hp,H1=H++[some ⟨[[a,b,c,.int .i64 s.keep,.int .i64 s.time,d]],6,28,false⟩]:=⟨_,rfl⟩
 have hle1:HLe H H1:=by rw [hH1]; exact HLe.self _ _
 have b0:H1.at H.length=some ⟨[[a,b,c,.int .i64 s.keep,.int .i64 s.time,d]],6,28,false⟩:=by rw [hH1]; simp
 have ld:=hd.len
 simp [c_spec_l12Known,stAV,n1,n2,n3,n4,<- hH1,b0]
 refine W_for (LkI s time H.length H1) s.tms.length ?_ (tC_mono AC_mono) ?_
 ·exact⟨0,by simp,by simp,by simp,by simp,by simp,rfl⟩
 rintro m t H' ⟨i,him,t1,t2,t5,t6,rfl⟩
 simp [t1,t2,t5,t6,b0,ld,hd.slc]
 refine c_split (fun hq=>?_) (fun hq=>?_)<;>simp at hq
 ·have hi:i<s.tms.length:=by omega
  have hw:=wrapN (i:=i) (by omega)
  obtain⟨o1,i1,ob1,rfl,x1,x2,x3⟩:=(Ints.le hd hle1).get hi
  have hst:decide (time∈s.tms.take (i+1))=(decide (time∈s.tms.take i)||decide (s.tms[i]=time)):=by
   rw [Bool.eq_iff_iff]
   simp only [decide_eq_true_eq,Bool.or_eq_true]
   rw [List.take_succ_eq_append_getElem hi,List.mem_append,List.mem_singleton]
   exact or_congr Iff.rfl ⟨Eq.symm,Eq.symm⟩
  cases hc:(decide (time=s.time)||decide (time∈s.tms.take i)) with
  | true =>
   rw [hc] at t5
   simp [t1,t2,t5,t6,hw]
   refine⟨m-1,by omega,i+1,by omega,by simp [t1],by simp [t2],?_,by simp,rfl⟩
   rw [hst,<- Bool.or_assoc,hc]
   simp
  | false =>
   rw [hc] at t5
   simp [t1,t2,t5,t6,hw,b0,x1,x2,x3,hi]
   refine⟨m-1,by omega,i+1,by omega,by simp [t1],by simp [t2],?_,by simp,rfl⟩
   rw [hst,<- Bool.or_assoc,hc]
   simp
 ·have:i=s.tms.length:=by omega
  subst this
  rw [List.take_length] at t5
  simp [t5,hle1,knownR]
def LgI (s:Sr) (a b c d:AV) (k:ByteArray) (time:Int) (H:Hp) (m:Nat) (t:Tm) (K:Hp):Prop:=∃ (i:Nat) (ra rb rc rd:AV),i+m=3/\t 1=.str k/\t 2=.int .i64 time/\t 3=.pt H.length 0 0/\t 6=.pt (H.length+1) 0 0/\t 8=.pt (H.length+2) 0 0/\t 10=.int .i64 i/\(s.lev.drop i).findSome? (atR k time)=getR s k time/\HLe H K /\
 K.at H.length=some ⟨[[a,b,c,.int .i64 s.keep,.int .i64 s.time,d]],6,28,false⟩/\K.at (H.length+1)=some ⟨[[.str ⟨#[]⟩,.int .i64 0,.bool false,.int .i64 0]],4,37,false⟩/\K.at (H.length+2)=some ⟨[[ra,rb,rc,rd]],4,37,false⟩
set_option maxHeartbeats 1600000 in
theorem l12Get_ok (v:AV) (s:Sr) (k:ByteArray) (time:Int) (H:Hp) (hs:St H v s) (hb:StB s) (ho:storeOk s=true) (hk:keyOk k=true) :
  AC Tryz.prog E 15 [v,.str k,.int .i64 time] H (fun u H'=>u=.tu (entAV (getR s k time))/\H'=H):=by
 have hst:=hs
 obtain⟨a,b,c,d,lr,sr,rfl,ha,hb1,hlr,hc,hsr,hd⟩:=hs
 obtain⟨hB1,hB2,hB3,hB4,hB5,hB6,hB7,hB8,hB9⟩:=hb
 have hsm:=storeOk_small ho
 have e3:s.lev.length=3:=hsm.2.2.2.2.2.2.2.1
 have s3:s.sv.length=3:=hsm.2.2.2.2.2.2.2.2
 have ll:=hlr.length
 have ls:=hsr.length
 have l1:=hb1.len
 rw [ll,e3] at l1
 have hplain:(AV.tu (entAV (getR s k time))).plain=true:=by unfold entAV; split<;>simp [entRow]
 refine AC_byp (tC_le tab2_ok) h_spec_l12Get hplain ?_
 obtain⟨H1,hH1⟩:∃ H1:Hp,H1=H++[some ⟨[[a,b,c,.int .i64 s.keep,.int .i64 s.time,d]],6,28,false⟩,some ⟨[[.str ⟨#[]⟩,.int .i64 0,.bool false,.int .i64 0]],4,37,false⟩]:=⟨_,rfl⟩
 have hle1:HLe H H1:=by rw [hH1]; exact HLe.self _ _
 have b0:H1.at H.length=some ⟨[[a,b,c,.int .i64 s.keep,.int .i64 s.time,d]],6,28,false⟩:=by rw [hH1]; simp
 have b1:H1.at (H.length+1)=some ⟨[[.str ⟨#[]⟩,.int .i64 0,.bool false,.int .i64 0]],4,37,false⟩:=by rw [hH1]; simp
 have lH1:H1.length=H.length+2:=by rw [hH1]; simp
 have u1:=Hp.at_lt b1
 simp [c_spec_l12Get,stAV,Rows.one ha,hb1.one,hc.one,Rows.one hd,<- hH1,b0]
 refine cg_use (l11At_ok a s.top k time H1 (ha.le hle1) (by have:=hB1.1; omega)) ?_
 cases ht:atR k time s.top with
 | some e =>
  have hg:getR s k time=some e:=by unfold getR; rw [List.findSome?_cons,ht]
  rw [hg]
  obtain⟨ek,ev,eg,et⟩:=e
  simp [entAV,entRow,b1,u1,Hp.at_app,Hp.at_set,set_in',at_in]
  exact (hle1.set (by omega) _).app _
 | none =>
  have hg:s.lev.findSome? (atR k time)=getR s k time:=by unfold getR; rw [List.findSome?_cons,ht]
  obtain⟨G,hG⟩:∃ G:Hp,G=H1++[some ⟨[[.str ⟨#[]⟩,.int .i64 0,.bool false,.int .i64 0]],4,37,false⟩]:=⟨_,rfl⟩
  have hleG:HLe H1 G:=by rw [hG]; exact HLe.self _ _
  have g0:=hleG.2 _ _ b0
  have g1:=hleG.2 _ _ b1
  have g2:G.at (H.length+2)=some ⟨[[.str ⟨#[]⟩,.int .i64 0,.bool false,.int .i64 0]],4,37,false⟩:=by rw [hG,<- lH1]; simp
  simp [entAV,entRow]
  simp only [<- hG]
  refine W_for (LgI s a b c d k time H) 3 ?_ (tC_mono AC_mono) ?_
  ·exact⟨0,_,_,_,_,by omega,by simp,by simp,by simp,by simp,by simp [lH1],by simp,by simpa using hg,hle1.trans hleG,g0,g1,g2⟩
  rintro m t H' ⟨i,ra,rb,rc,rd,him,t1,t2,t3,t6,t8,t10,hP,hle,c0,c1,c2⟩
  simp [t1,t2,t3,t6,t8,t10,c0,l1,hb1.slc]
  refine c_split (fun hq=>?_) (fun hq=>?_)<;>simp at hq
  ·have hi3:i<3:=by omega
   have hil:i<s.lev.length:=by omega
   have his:i<s.sv.length:=by omega
   have hiI:(i:Int)<3:=by omega
   have hw:=wrapN (i:=i) (by omega)
   obtain⟨o1,i1,ob1,rfl,x1,x2,x3⟩:=hb1.get (j:=i) (by omega)
   obtain⟨u,hu,hue⟩:=hlr.get i (by omega) hil
   rw [hu] at x3
   obtain⟨o2,i2,ob2,rfl,y1,y2,y3⟩:=hc.get (j:=i) (by omega)
   obtain⟨r,hr,hrs,_⟩:=hsr.get i (by omega) his
   rw [hr] at y3
   have x1':=hle.2 _ _ x1
   have y1':=hle.2 _ _ y1
   have q1:i<lr.length:=by omega
   have q2:i<sr.length:=by omega
   have hso:=storeOk_level ho hi3 hil his
   obtain⟨v1,v2,v3,v4⟩:=sieveO_some hso
   simp [t1,t2,t3,t6,t8,t10,c0,x1',x2,x3,y1',y2,y3,q1,q2]
   have cH:=SieveHas_ok (E:=E) (keysR s.lev[i]) s.keep r k H' v1 ⟨v2,v3⟩ (by rw [<- v4]; exact hrs.le hle) hk
   rw [<- v4] at cH
   simp only [svAV] at cH
   refine cg_use cH ?_
   rw [findSome_drop hil] at hP
   cases hh:hasR (keysR s.lev[i]) s.keep k with
   | false =>
    rw [hidden hso hh,Option.none_or] at hP
    simp [t1,t2,t3,t6,t8,t10,hw]
    exact⟨m-1,by omega,i+1,ra,rb,rc,rd,by omega,by simp [t1],by simp [t2],by simp [t3],by simp [t6],by simp [t8],by simp,hP,hle,c0,c1,c2⟩
   | true =>
    simp [t1,t2,t3,t6,t8,t10,c0,x1',x2,x3,q1]
    refine cg_use (l11At_ok u s.lev[i] k time H' (hue.le hle) (by have:=(hB2 _ (List.getElem_mem hil)).1; omega)) ?_
    have w1:=Hp.at_lt c1
    have w2:=Hp.at_lt c2
    have ne12:H.length+1≠H.length+2:=by omega
    cases hat:atR k time s.lev[i] with
    | some e =>
     rw [hat,Option.some_or] at hP
     rw [<- hP]
     obtain⟨ek,ev,eg,et⟩:=e
     simp [entAV,entRow,t1,t2,t3,t6,t8,t10,c1,c2,w1,w2,Hp.at_set,Hp.at_set_ne,ne12,ne12.symm]
     exact HLe.set (HLe.set hle (show H.length<=H.length+2 by omega) _) (show H.length<=H.length+1 by omega) _
    | none =>
     rw [hat,Option.none_or] at hP
     simp [entAV,entRow,t1,t2,t3,t6,t8,t10,c1,c2,w1,w2,hw,Hp.at_set]
     have F:=Fr.one H' (H.length+2) (some ⟨[[.str ⟨#[]⟩,.int .i64 0,.bool false,.int .i64 0]],4,37,false⟩)
     exact⟨m-1,by omega,i+1,_,_,_,_,by omega,by simp [t1],by simp [t2],by simp [t3],by simp [t6],by simp [t8],by simp,hP,hle.set (by omega) _,F.2 _ _ (by omega) c0,F.2 _ _ (by omega) c1,Hp.at_set _ w2⟩
  ·have:i=3:=by omega
   subst this
   rw [List.drop_of_length_le (by omega)] at hP
   rw [<- hP]
   have w1:=Hp.at_lt c1
   simp [entAV,entRow,t1,t2,t3,t6,t8,t10,c1,w1,Hp.at_set]
   exact hle.set (by omega) _
theorem StoreGet_ok (v:AV) (s:Sr) (k:ByteArray) (time:Int) (H:Hp) (hs:St H v s) (hb:StB s) (hk:k.size<4611686018427387904) :
  AC Tryz.prog E 5 [v,.str k,.int .i64 time] H (fun u H'=>u=.tu [.int .i64 (if (gotR s k time).2=true then (gotR s k time).1 else 0),.bool (gotR s k time).2]/\H'=H):=by
 have hs0:=hs
 obtain⟨a,b,c,d,rfl,n1,n2,n3,n4,_,_⟩:=hs.shape
 refine AC_byp (tC_le tab2_ok) h_spec_StoreGet (by simp) ?_
 obtain⟨H1,hH1⟩:∃ H1:Hp,H1=H++[some ⟨[[a,b,c,.int .i64 s.keep,.int .i64 s.time,d]],6,28,false⟩]:=⟨_,rfl⟩
 have hle1:HLe H H1:=by rw [hH1]; exact HLe.self _ _
 have b0:H1.at H.length=some ⟨[[a,b,c,.int .i64 s.keep,.int .i64 s.time,d]],6,28,false⟩:=by rw [hH1]; simp
 simp [c_spec_StoreGet,n1,n2,n3,n4,<- hH1,b0]
 refine cg_use (StoreOk_ok _ s H1 (hs0.le hle1) hb) ?_
 have hkey:∀ {C:CallP} {d:Option Nat} {ag} {p:Plan} {t:Tm} {H:Hp} {K:Tm->Hp->Prop},_:=@fun C d ag p t H K=>tab2_key C d ag p t H K k hk
 unfold gotR
 cases ho:storeOk s with
 | false=>simp [hle1]
 | true =>
  cases hko:keyOk k with
  | false=>simp [hkey,hko,hle1]
  | true =>
   simp [hkey,hko,b0]
   refine cg_use (l12Known_ok _ s time H1 (hs0.le hle1) hb.2.2.2.2.1) ?_
   cases hkn:knownR s time with
   | false=>simp [hle1]
   | true =>
    simp [b0]
    refine cg_use (l12Get_ok _ s k time H1 (hs0.le hle1) hb ho hko) ?_
    cases hg:getR s k time with
    | none =>
     simp [entAV,entRow,Hp.at_app]
     exact hle1.app _
    | some e =>
     obtain⟨ek,ev,eg,et⟩:=e
     cases eg with
     | false =>
      simp [entAV,entRow,Hp.at_app]
      exact hle1.app _
     | true =>
      simp [entAV,entRow,Hp.at_app]
      exact hle1.app _
end Go.Proofs.YtdncpcghiooeoaaGreat.B

namespace Go.Proofs.YtdncpcghiooeoaaGreat.B
open Go.RowKit Go.Proofs
set_option linter.unusedVariables false
set_option linter.unusedSimpArgs false
variable {E:Env}
end Go.Proofs.YtdncpcghiooeoaaGreat.B

namespace Go.Proofs.YtdncpcghiooeoaaGreat.B
open Go.RowKit Go.Proofs
set_option linter.unusedVariables false
set_option linter.unusedSimpArgs false
variable {E:Env}
theorem Rd.box {H:Hp} {o N n:Nat} (h:Rd H o N) (X:Option Ob) (hne:n≠o) (h1:∀ ob,H.at n=some ob->ob.esz≠1):Rd (List.set H n X) o N :=
 h.fr (Fr.one H n X) (fun e=>hne e.symm) (fun x ob hx ho=>by subst hx; exact h1 ob ho)
theorem l71Deed_ok (o N:Nat) (kv:AV) (ks:List ByteArray) (H:Hp) (hr:Rd H o N) (hk:Strs H kv ks) (hkl:ks.length<1099511627776) (hks:∀ s∈ks,s.size<=5) (hN:N<137438953472) :
  AC Tryz.prog E 89 [.pt o 0 0,kv] H (fun v H'=>∃ d,v=ddAV d/\d.key.size<=5/\Dr o H H'/\Rd H' o (N+9)):=by
 refine AC_by fol (tC_le tab2_ok) h_spec_l71Deed ?_
 have hol:=hr.lt
 have m0:H.length≠o:=by omega
 simp [c_spec_l71Deed]
 refine cg_ex (pick_ok o N 10 _ (hr.le (HLe.self _ _)) (by omega) (by omega)) ?_
 rintro v H1 ⟨n,rfl,hn,hd1,hr1,hlen⟩
 have b1:=hd1.2 H.length ⟨[[.int .i64 0,.str ⟨#[]⟩,.int .i64 0]],3,114,false⟩ (by omega) (by simp)
 have hD:Dr o H H1:=(Fr.app (Fr.refl _ H) _).same hd1
 have hk1:Strs H1 kv ks:=(Rows.dr (hr.le (HLe.self _ _)) (hk.le (HLe.self _ _)) (by decide) hd1)
 have fin:∀ (H2:Hp) (d:Dd) (M:Nat),d.key.size<=5->Dr o H1 H2->Rd H2 o M->M<=N+9->∃ d',ddAV d=ddAV d'/\d'.key.size<=5/\Dr o H (List.set H2 H.length (some ⟨[[.int .i64 d.kind,.str d.key,.int .i64 d.num]],3,114,false⟩))/\Rd (List.set H2 H.length (some ⟨[[.int .i64 d.kind,.str d.key,.int .i64 d.num]],3,114,false⟩)) o (N+9):=by
  intro H2 d M h1 h2 h3 h4
  have b2:=h2.2 _ _ m0 b1
  exact⟨d,rfl,h1,(hD.same h2).set (.inr (Nat.le_refl _)) _,(h3.box _ m0 (fun ob ho=>by rw [b2] at ho; cases ho; simp)).mono h4⟩
 have hcase:n=0\/n=1\/n=2\/n=3\/n=4\/n=5\/n=6\/n=7\/n=8\/n=9:=by omega
 have u1:=Hp.at_lt b1
 have put:∀ t:Tm,True:=fun _=>trivial
 simp
 refine c_split (fun q0=>?_) (fun q0=>?_)<;>simp at q0
 ·simp [q0]
  refine cg_ex (l71Near_ok o _ kv ks _ hr1 hk1 hkl hks (by omega)) ?_
  rintro _ H2 ⟨k,rfl,hk5,hd2,hr2⟩
  simp
  refine cg_ex (pick_ok o _ 100 _ hr2 (by omega) (by omega)) ?_
  rintro _ H3 ⟨m,rfl,hm,hd3,hr3,-⟩
  have hb:=(hd2.same hd3).2 _ _ m0 b1
  simp [hb,Hp.at_set,Hp.at_lt hb]
  exact fin _ ⟨1,k,m⟩ _ hk5 (hd2.same hd3) hr3 (by omega)
 simp
 refine c_split (fun q1=>?_) (fun q1=>?_)<;>simp at q1
 ·simp [q1]
  refine cg_ex (l71Near_ok o _ kv ks _ hr1 hk1 hkl hks (by omega)) ?_
  rintro _ H2 ⟨k,rfl,hk5,hd2,hr2⟩
  simp
  refine cg_ex (pick_ok o _ 100 _ hr2 (by omega) (by omega)) ?_
  rintro _ H3 ⟨m,rfl,hm,hd3,hr3,-⟩
  have hb:=(hd2.same hd3).2 _ _ m0 b1
  simp [hb,Hp.at_set,Hp.at_lt hb]
  exact fin _ ⟨1,k,m⟩ _ hk5 (hd2.same hd3) hr3 (by omega)
 simp
 refine c_split (fun q2=>?_) (fun q2=>?_)<;>simp at q2
 ·simp [q2]
  refine cg_ex (l71Near_ok o _ kv ks _ hr1 hk1 hkl hks (by omega)) ?_
  rintro _ H2 ⟨k,rfl,hk5,hd2,hr2⟩
  simp
  refine cg_ex (pick_ok o _ 100 _ hr2 (by omega) (by omega)) ?_
  rintro _ H3 ⟨m,rfl,hm,hd3,hr3,-⟩
  have hb:=(hd2.same hd3).2 _ _ m0 b1
  simp [hb,Hp.at_set,Hp.at_lt hb]
  exact fin _ ⟨1,k,m⟩ _ hk5 (hd2.same hd3) hr3 (by omega)
 simp
 refine c_split (fun q3=>?_) (fun q3=>?_)<;>simp at q3
 ·simp [q3]
  refine cg_ex (l71Near_ok o _ kv ks _ hr1 hk1 hkl hks (by omega)) ?_
  rintro _ H2 ⟨k,rfl,hk5,hd2,hr2⟩
  simp
  refine cg_ex (pick_ok o _ 100 _ hr2 (by omega) (by omega)) ?_
  rintro _ H3 ⟨m,rfl,hm,hd3,hr3,-⟩
  have hb:=(hd2.same hd3).2 _ _ m0 b1
  simp [hb,Hp.at_set,Hp.at_lt hb]
  exact fin _ ⟨1,k,m⟩ _ hk5 (hd2.same hd3) hr3 (by omega)
 simp
 refine c_split (fun q4=>?_) (fun q4=>?_)<;>simp at q4
 ·simp [q4]
  refine cg_ex (l71Near_ok o _ kv ks _ hr1 hk1 hkl hks (by omega)) ?_
  rintro _ H2 ⟨k,rfl,hk5,hd2,hr2⟩
  simp
  refine cg_ex (pick_ok o _ 100 _ hr2 (by omega) (by omega)) ?_
  rintro _ H3 ⟨m,rfl,hm,hd3,hr3,-⟩
  have hb:=(hd2.same hd3).2 _ _ m0 b1
  simp [hb,Hp.at_set,Hp.at_lt hb]
  exact fin _ ⟨1,k,m⟩ _ hk5 (hd2.same hd3) hr3 (by omega)
 simp [q4]
 refine c_split (fun q5=>?_) (fun q5=>?_)<;>simp at q5
 ·simp
  refine cg_ex (l71Near_ok o _ kv ks _ hr1 hk1 hkl hks (by omega)) ?_
  rintro _ H2 ⟨k,rfl,hk5,hd2,hr2⟩
  have hb:=hd2.2 _ _ m0 b1
  simp [hb,Hp.at_set,Hp.at_lt hb]
  exact fin _ ⟨2,k,0⟩ _ hk5 hd2 hr2 (by omega)
 simp
 refine c_split (fun q6=>?_) (fun q6=>?_)<;>simp at q6
 ·simp [b1,Hp.at_set,u1]
  exact fin H1 ⟨3,⟨#[]⟩,0⟩ _ (by decide) (Fr.refl _ _) hr1 (by omega)
 simp
 refine c_split (fun q7=>?_) (fun q7=>?_)<;>simp at q7
 ·simp
  refine cg_ex (pick_ok o _ 20 _ hr1 (by omega) (by omega)) ?_
  rintro _ H3 ⟨m,rfl,hm,hd3,hr3,-⟩
  have hb:=hd3.2 _ _ m0 b1
  simp [hb,Hp.at_set,Hp.at_lt hb]
  exact fin _ ⟨4,⟨#[]⟩,m⟩ _ (by show 0<=5; omega) hd3 hr3 (by omega)
 simp
 refine c_split (fun q8=>?_) (fun q8=>?_)<;>simp at q8
 ·simp [b1,Hp.at_set,u1]
  exact fin H1 ⟨5,⟨#[]⟩,0⟩ _ (by decide) (Fr.refl _ _) hr1 (by omega)
 simp
 refine cg_ex (pick_ok o _ 3 _ hr1 (by omega) (by omega)) ?_
 rintro _ H3 ⟨m,rfl,hm,hd3,hr3,-⟩
 have hb:=hd3.2 _ _ m0 b1
 simp [hb,Hp.at_set,Hp.at_lt hb]
 exact fin _ ⟨6,⟨#[]⟩,m⟩ _ (by show 0<=5; omega) hd3 hr3 (by omega)
end Go.Proofs.YtdncpcghiooeoaaGreat.B

namespace Go.Proofs.YtdncpcghiooeoaaGreat.B
open Go.RowKit Go.Proofs
set_option linter.unusedVariables false
set_option linter.unusedSimpArgs false
variable {E:Env}
def sv0 (keep:Int):Sv:=⟨⟨#[]⟩,⟨#[]⟩,⟨#[]⟩,[],keep⟩
theorem StoreNew_ok (keep:Int) (H:Hp):AC Tryz.prog E 56 [.int .i64 keep] H (fun u H'=>RetS H H' u (newR keep)):=by
 refine AC_by fol (tC_le tab2_ok) h_spec_StoreNew ?_
 simp [c_spec_StoreNew]
 refine c_split (fun hq=>?_) (fun hq=>?_)<;>simp at hq
 ·have hn:newR keep=none:=by unfold newR; rw [if_neg (by omega)]
  simp [hn,RetS]
 have hn:newR keep=some ⟨[],List.replicate 3 [],List.replicate 3 (sv0 keep),keep,0,[]⟩:=by
  unfold newR
  rw [if_pos (by omega)]
  rfl
 simp
 refine W_for (fun m t H'=>∃ i lv sv lr sr,i+m=3/\t 0=.int .i64 keep/\t 2=.pt H.length 0 0/\t 4=.pt (H.length+3) 0 0/\t 5=.int .i64 (i:Nat)/\HLe H H' /\
  H'.at H.length=some ⟨[[.nils,.nils,.nils,.int .i64 0,.int .i64 0,.nils]],6,28,false⟩ /\
  H'.at (H.length+3)=some ⟨[[.sl (H.length+1) 0 0,lv,sv,.int .i64 keep,.int .i64 0,.sl (H.length+2) 0 0]],6,28,false⟩ /\
  OwnE H H' (.sl (H.length+1) 0 0) []/\OwnI H H' (.sl (H.length+2) 0 0) []/\Own 1 23 H' lv lr/\(∀ x,lv.of x->H.length+4<=x)/\All2 (LvRow H') lr (List.replicate i [])/\OffB H (.sl (H.length+1) 0 0) lr /\
  Own 5 57 H' sv sr/\(∀ x,sv.of x->H.length+4<=x)/\All2 (SvRow H' (fun x=>lv.of x\/H.length+2=x)) sr (List.replicate i (sv0 keep))) 3 ?_ (tC_mono AC_mono) ?_
 ·refine⟨0,.nils,.nils,[],[],rfl,by simp,by simp,by simp,by simp,HLe.self _ _,by simp,by simp,⟨Own.obj (R:=[]) (by simp) rfl,fun x hx=>by simp at hx; omega⟩,⟨Own.obj (R:=[]) (by simp) rfl,fun x hx=>by simp at hx; omega⟩,Own.nils,fun x hx=>hx.elim,trivial,OffB.nil _ _,Own.nils,fun x hx=>hx.elim,trivial⟩
 rintro m t H' ⟨i,lv,sv,lr,sr,him,h0,h2,h4,h5,hle,k0,k3,htop,htms,hlv,hlva,hlvr,hoff,hsv,hsva,hsvr⟩
 simp [h0,h2,h4,h5]
 refine c_split (fun hq2=>?_) (fun hq2=>?_)<;>simp at hq2
 ·have hi3:i<3:=by omega
  have hw:=wrapN (i:=i) (by omega)
  have u0:=Hp.at_lt k0
  have u3:=Hp.at_lt k3
  simp [h0,h2,h4,h5,k3,Hp.at_app,u3]
  rw [List.append_cons]
  have hA:HLe H' (H'++[some ⟨[],4,37,false⟩]):=HLe.self _ _
  refine appG_one' (bytes:=24) (R:=lr) (by simp) (hlv.le hA) (by have:=All2.length hlvr; simp at this; omega) (fun v5 H5 g1 g2 g3=>?_)
  have hF5:Fr lv.of H' H5:=(hA.fr (S:=lv.of)).same g2
  have nlv:∀ x,x<H.length+4->¬lv.of x:=fun x h1 h2=>by have:=hlva x h2; omega
  have k05:=hF5.2 _ _ (nlv _ (by omega)) k0
  have k35:=hF5.2 _ _ (nlv _ (by omega)) k3
  have ktop:=g2.2 H'.length _ (fun h=>by have:=hlv.lt h; omega) (Hp.at_app_0.trans Hp.at_0)
  have u05:=Hp.at_lt k05
  have u35:=Hp.at_lt k35
  have m03:H.length≠H.length+3:=by omega
  have hl5:=g2.1
  simp at hl5
  simp [h0,h2,h4,h5,k35,g1.rows.one,g1.rows.cells,g1.rows.cells1,Hp.at_set,Hp.at_app,List.length_set,u35]
  obtain⟨X,hX⟩:∃ X:Option Ob,X=some ⟨[[.sl (H.length+1) 0 0,v5,sv,.int .i64 keep,.int .i64 0,.sl (H.length+2) 0 0]],6,28,false⟩:=⟨_,rfl⟩
  rw [<- hX]
  obtain⟨G5,hG5⟩:∃ G5:Hp,G5=List.set H5 (H.length+3) X:=⟨_,rfl⟩
  have hGl:H5.length=G5.length:=by rw [hG5]; simp
  have hG:Fr (fun x=>x=H.length+3) H5 G5:=by rw [hG5]; exact Fr.one _ _ _
  have kG3:G5.at (H.length+3)=X:=by rw [hG5]; exact Hp.at_set _ u35
  rw [<- hG5,hGl,List.append_cons]
  have hB:HLe G5 (G5++[some ⟨[],1,9,false⟩]):=HLe.self _ _
  have hsv5:Own 5 57 H5 sv sr:=hsv.fr hF5 (fun x hx h=>hlv.rows.apart hsv.rows (by simp) h hx)
  have hsvG:Own 5 57 G5 sv sr:=hsv5.fr hG (fun x hx=>by have:=hsva x hx; omega)
  refine appG_one' (bytes:=80) (R:=sr) (by simp) (hsvG.le hB) (by have:=All2.length hsvr; simp at this; omega) (fun v7 H7 p1 p2 p3=>?_)
  have hF7:Fr sv.of G5 H7:=(hB.fr (S:=sv.of)).same p2
  have nsv:∀ x,x<H.length+4->¬sv.of x:=fun x h1 h2=>by have:=hsva x h2; omega
  have kG0:=hG.2 _ _ m03 k05
  have k07:=hF7.2 _ _ (nsv _ (by omega)) kG0
  have k37:=hF7.2 _ _ (nsv _ (by omega)) (kG3.trans hX)
  have u37:=Hp.at_lt k37
  have hl7:=hF7.1
  have hsvl:∀ x,sv.of x->x<H'.length:=fun x hx=>hsv.lt hx
  have hlvl:∀ x,lv.of x->x<H'.length:=fun x hx=>hlv.lt hx
  have ktG:=hG.2 _ _ (show H'.length≠H.length+3 by omega) ktop
  have kt7:=hF7.2 _ _ (fun h=>by have:=hsvl _ h; omega) ktG
  have ks7:=p2.2 G5.length _ (fun h=>by have:=hsvl _ h; omega) (Hp.at_app_0.trans Hp.at_0)
  simp [h0,h2,h4,h5,k37,p1.rows.one,p1.rows.cells,p1.rows.cells1,hw]
  obtain⟨Z,hZ⟩:∃ Z:Option Ob,Z=some ⟨[[.sl (H.length+1) 0 0,v5,v7,.int .i64 keep,.int .i64 0,.sl (H.length+2) 0 0]],6,28,false⟩:=⟨_,rfl⟩
  rw [<- hZ]
  have hS:=Fr.one H7 (H.length+3) Z
  have hF58:Fr (fun x=>x=H.length+3\/sv.of x) H5 (List.set H7 (H.length+3) Z):=((hG.mono (fun x hx=>.inl (.inl hx))).trans hF7 (fun x hx=>.inl (.inr hx))).trans hS (fun x hx=>.inl (.inl hx))
  have hF8:Fr (fun x=>lv.of x\/sv.of x\/x=H.length+3) H' (List.set H7 (H.length+3) Z):=(hF5.mono (fun x hx=>.inl (.inl hx))).trans hF58 (fun x hx=>hx.elim (fun h=>.inl (.inr (.inr h))) (fun h=>.inl (.inr (.inl h))))
  have ns4:∀ x ob,(lv.of x\/sv.of x\/x=H.length+3)->H'.at x=some ob->ob.esz≠4:=fun x ob hs ho=>by
   rcases hs with h | h | h
   ·rw [hlv.esz h ho]; decide
   ·rw [hsv.esz h ho]; decide
   ·subst h; rw [k3] at ho; cases ho; simp
  have v5a:∀ x,v5.of x->lv.of x\/H'.length<=x:=fun x hx=>(g3 x hx).imp id (fun h=>by simp at h; omega)
  have v7a:∀ x,v7.of x->sv.of x\/H5.length<=x:=fun x hx=>(p3 x hx).imp id (fun h=>by simp at h; omega)
  have k0F:=hS.2 _ _ m03 k07
  have ktF:=hS.2 _ _ (show H'.length≠H.length+3 by omega) kt7
  have ksF:=hS.2 _ _ (show G5.length≠H.length+3 by omega) ks7
  refine⟨m-1,by omega,i+1,by omega,by omega,hle.fr_le hF8 (fun x hx=>by rcases hx with h | h | h; (have:=hlva x h; omega); (have:=hsva x h; omega); omega),k0F,v5,v7,(Hp.at_set _ u37).trans hZ,?_,?_,lr++[[.sl H'.length 0 0]],?_,?_,?_,hoff.add (fun y hy hy2=>by have h1:H.length+1=y:=hy; have h2:H'.length=y:=hy2; have:=Hp.at_lt k3; omega) (fun y hy=>by have h2:H'.length=y:=hy; have:=hle.1; omega),sr++[[.str ⟨#[]⟩,.str ⟨#[]⟩,.str ⟨#[]⟩,.sl G5.length 0 0,.int .i64 keep]],?_,?_,?_⟩
  ·exact htop.fr hF8 (fun x hx hs=>by
    have hx':H.length+1=x:=hx
    rcases hs with h | h | h
    ·have:=hlva x h; omega
    ·have:=hsva x h; omega
    ·omega)
  ·exact htms.fr hF8 (fun x hx hs=>by
    have hx':H.length+2=x:=hx
    rcases hs with h | h | h
    ·have:=hlva x h; omega
    ·have:=hsva x h; omega
    ·omega)
  ·exact g1.fr hF58 (fun x hx hs=>by
    rcases hs with h | h
    ·rcases v5a x hx with hh | hh
     ·have:=hlva x hh; omega
     ·omega
    ·exact g1.rows.apart hsv5.rows (by simp) hx h)
  ·intro x hx
   rcases v5a x hx with h | h
   ·exact hlva x h
   ·omega
  ·rw [List.replicate_succ']
   exact (All2.mono (fun row es h=>h.fr hF8 ns4) hlvr).append ⟨⟨_,rfl,Own.rows (ety:=37) (Own.obj (R:=[]) ktF rfl)⟩,trivial⟩
  ·exact p1.fr hS (fun x hx=>by
    rcases v7a x hx with h | h
    ·have:=hsva x h; omega
    ·omega)
  ·intro x hx
   rcases v7a x hx with h | h
   ·exact hsva x h
   ·omega
  ·rw [List.replicate_succ']
   refine (All2.mono (fun row sv' h=>?_) hsvr).append ⟨⟨.sl G5.length 0 0,rfl,Own.rows (ety:=9) (Own.obj (R:=[]) ksF rfl),fun x hx h=>?_⟩,trivial⟩
   ·refine SvRow.fr (X':=fun x=>v5.of x\/H.length+2=x) h hF8 (fun x ob hs ho=>?_) (fun x hx hx'=>hx'.elim (fun h=>(v5a x h).elim .inl (fun h=>by omega)) .inr)
    rcases hs with h | h | h
    ·exact .inr (.inl h)
    ·exact .inl (by rw [hsv.esz h ho]; decide)
    ·exact .inl (by subst h; rw [k3] at ho; cases ho; simp)
   ·have hx':G5.length=x:=hx
    rcases h with h | h
    ·have:=g1.lt h; omega
    ·omega
 ·have hi3:i=3:=by omega
  subst hi3
  have u0:=Hp.at_lt k0
  obtain⟨ol,rfl⟩:=hlv.sl (by rw [hlvr.length]; simp)
  obtain⟨os,rfl⟩:=hsv.sl (by rw [hsvr.length]; simp)
  have hl3:lr.length=3:=by rw [hlvr.length]; simp
  have hs3:sr.length=3:=by rw [hsvr.length]; simp
  rw [hl3] at hlv k3
  rw [hs3] at hsv k3
  simp [h2,h4,k0,k3,Hp.at_set,u0,hn]
  have hF:=Fr.one H' H.length (some ⟨[[.sl (H.length+1) 0 0,.sl ol 0 3,.sl os 0 3,.int .i64 keep,.int .i64 0,.sl (H.length+2) 0 0]],6,28,false⟩)
  have hm:MSt H H' (.ag [.sl (H.length+1) 0 0,.sl ol 0 3,.sl os 0 3,.int .i64 keep,.int .i64 0,.sl (H.length+2) 0 0]) ⟨[],List.replicate 3 [],List.replicate 3 (sv0 keep),keep,0,[]⟩ :=
   ⟨.sl (H.length+1) 0 0,ol,os,.sl (H.length+2) 0 0,lr,sr,rfl,htop,hlv,hlvr,hsv,All2.mono (fun _ _ h=>by
    obtain⟨r,e1,e2,e3⟩:=h
    rw [hl3] at e3
    exact⟨r,e1,e2,e3⟩) hsvr,htms,fun hx=>by have:=hlva ol rfl; simp at hx; omega,by have:=hlva ol rfl; omega,by have:=hsva os rfl; omega,rfl,rfl,hoff⟩
  exact⟨hle.fr_le hF (fun x hx=>by rw [hx]; exact Nat.le_refl _),_,rfl,hm.fr hF (fun y ob hy ho=>by rw [hy,k0] at ho; cases ho; rfl)⟩
end Go.Proofs.YtdncpcghiooeoaaGreat.B

namespace Go.Proofs.YtdncpcghiooeoaaGreat.B
open Go.RowKit Go.Proofs
set_option linter.unusedVariables false
set_option linter.unusedSimpArgs false
variable {E:Env}
abbrev OwnD:=OwnM (α:=Dd) 3 114 ddRow
theorem l71Deeds_ok (o N:Nat) (most:Nat) (H:Hp) (hr:Rd H o N) (hm:most<1000) (hN:N<68719476736) :
  AC Tryz.prog E 58 [.pt o 0 0,.int .i64 most] H (fun v H'=>∃ ds,OwnD H H' v ds/\ds.length<=most+1/\(∀ d∈ds,d.key.size<=5)/\Dr o H H'/\Rd H' o (N+39+10 * most)):=by
 refine AC_by fol (tC_le tab2_ok) h_spec_l71Deeds ?_
 have hw0:=wrapN (i:=most) (by omega)
 simp [c_spec_l71Deeds,hw0]
 refine cg_ex (l71Keys_ok o N 5 H hr (by omega) (by omega)) ?_
 rintro kv H1 ⟨ks,hks,hkl,hksz,hd1,hr1⟩
 simp [hw0]
 refine cg_ex (pick_ok o _ ((most:Int)+1) _ (hr1.le (HLe.self _ _)) (by omega) (by omega)) ?_
 rintro v H2 ⟨n,rfl,hn,hd2,hr2,hlen⟩
 have hd0:Dr o H H2:=(hd1.app _).same hd2
 have hn1:n<=most:=by omega
 have hks2:OwnS H H2 kv ks:=OwnM.dr (hr1.le (HLe.self _ _)) (hks.le (HLe.self _ _)) (by decide) hd2
 simp
 refine W_for (fun m t H'=>∃ ds v,m<=most/\t 0=.pt o 0 0/\t 5=kv/\t 6=v/\t 7=.int .i64 m/\OwnD H H' v ds/\OwnS H H' kv ks/\ds.length+m<=most/\(∀ d∈ds,d.key.size<=5)/\Dr o H H'/\Rd H' o (N+37+10 * (most-m))) n ?_ (tC_mono AC_mono) ?_
 ·refine⟨[],_,hn1,by simp,by simp,by simp; rfl,by simp,?_,hks2,by simpa using hn1,by simp,hd0,hr2.mono (by omega)⟩
  exact (OwnM.dr (hr1.le (HLe.self _ _)) (OwnM.lit0 (HLe.refl H1)) (by decide) hd2).base hd1.len
 rintro m t H' ⟨ds,v,hm5,h0,h5,h6,h7,hv,hkv,hdl,hdk,hd,hr⟩
 simp [h0,h5,h6,h7]
 refine c_split (fun hq=>?_) (fun hq=>?_)<;>simp at hq
 ·have hw:IntKind.i64.wrap ((m:Int)-1)=((m-1:Nat):Int):=by rw [wrap64 (by omega) (by omega)]; omega
  simp [h0,h5,h6,h7]
  refine cg_ex (l71Deed_ok o _ kv ks H' hr hkv.strs (by omega) hksz (by omega)) ?_
  rintro _ H2 ⟨e,rfl,hk5,hd2,hr2⟩
  have hkv2:=OwnM.dr hr hkv (by decide) hd2
  have hv2:=OwnM.dr hr hv (by decide) hd2
  simp [h0,h5,h6,h7,ddAV]
  have hla:=hd.len
  have hl2a:=hd2.len
  refine appG_one' (bytes:=32) (R:=ds.map ddRow) rfl hv2.1 (by simp; omega) (fun v5 H5 g1 g2 g3=>?_)
  have hv5:OwnD H H5 v5 (ds++[e]):=⟨by simpa [ddRow] using g1,fun x hx=>(g3 x hx).elim (hv2.2 x) (fun h=>by omega)⟩
  have hr5:=(hr2.fr g2 (fun h=>hr2.ne hv2.rows (by decide) h rfl) (fun x ob hx ho=>by rw [hv2.1.esz hx ho]; decide))
  have hd5:Dr o H H5:=(hd.same hd2).trans g2 (fun x hx=>.inr (hv2.2 x hx))
  have hkv5:=hkv2.fr g2 (fun x hx hs=>hkv2.rows.apart hv2.rows (by simp) hx hs)
  simp [h0,h5,h6,h7,hw]
  refine⟨m-1,by omega,by omega,rfl,ds++[e],hv5,hkv5,by simp; omega,fun d hd=>?_,hd5,hr5.mono (by omega)⟩
  rcases List.mem_append.1 hd with h | h
  ·exact hdk d h
  ·rw [List.mem_singleton.1 h]; exact hk5
 ·have:m=0:=by omega
  subst this
  simp [h0,h6]
  refine cg_ex (pick_ok o _ 24 _ hr (by omega) (by omega)) ?_
  rintro _ H2 ⟨c,rfl,hc,hd2,hr2,-⟩
  have hv2:=OwnM.dr hr hv (by decide) hd2
  simp [h0,h6]
  refine c_split (fun hq=>?_) (fun hq=>?_)<;>simp at hq
  ·simp [h0,h6]
   refine cg_ex (pick_ok o _ 9 _ hr2 (by omega) (by omega)) ?_
   rintro _ H3 ⟨q,rfl,hq9,hd3,hr3,-⟩
   have hv3:=OwnM.dr hr2 hv2 (by decide) hd3
   simp [h0,h6]
   have hlb:=hd.len
   have hl2b:=hd2.len
   have hl3b:=hd3.len
   refine appG_one' (bytes:=32) (R:=ds.map ddRow) rfl hv3.1 (by simp; omega) (fun v5 H5 g1 g2 g3=>?_)
   have hv5:OwnD H H5 v5 (ds++[⟨IntKind.i64.wrap ((q:Int)-1),⟨#[120]⟩,-1⟩]):=⟨by simpa [ddRow] using g1,fun x hx=>(g3 x hx).elim (hv3.2 x) (fun h=>by omega)⟩
   have hr5:=(hr3.fr g2 (fun h=>hr3.ne hv3.rows (by decide) h rfl) (fun x ob hx ho=>by rw [hv3.1.esz hx ho]; decide))
   have hd5:Dr o H H5:=((hd.same hd2).same hd3).trans g2 (fun x hx=>.inr (hv3.2 x hx))
   simp
   refine⟨_,hv5,by simp; omega,fun d hd=>?_,hd5,hr5.mono (by omega)⟩
   rcases List.mem_append.1 hd with h | h
   ·exact hdk d h
   ·rw [List.mem_singleton.1 h]; show 1<=5; omega
  ·simp [h0,h6]
   exact⟨ds,hv2,by omega,hdk,hd.same hd2,hr2.mono (by omega)⟩
end Go.Proofs.YtdncpcghiooeoaaGreat.B

namespace Go.Proofs.YtdncpcghiooeoaaGreat.B
open Go.RowKit Go.Proofs
set_option linter.unusedVariables false
set_option linter.unusedSimpArgs false
variable {E:Env}
theorem MSt.frn {S:Nat->Prop} {H0 H H':Hp} {v:AV} {s:Sr} (h:MSt H0 H v s) (hf:Fr S H H') (hS:∀ x ob,S x->H.at x=some ob->ob.esz=2\/ob.esz=6):MSt H0 H' v s:=by
 obtain⟨a,ol,os,d,lr,sr,rfl,ha,hlv,hlr,hsv,hsr,hd,hdo,hol,hos,hl3,hs3,hoff⟩:=h
 have no:∀ {esz ety:Nat} {v:AV} {R:List (List AV)},esz≠2/\esz≠6->Own esz ety H v R->∀ x,v.of x->¬S x:=by
  intro esz ety v R hne ho x hx hs
  rcases ho with ⟨rfl,_⟩ | ⟨rfl,_⟩ | ⟨o',ob,rfl,a2,a3,a4,_⟩
  ·exact hx.elim
  ·exact hx.elim
  ·have:o'=x:=hx
   subst this
   rcases hS _ _ hs a2 with h | h
   ·exact hne.1 (a4.symm.trans h)
   ·exact hne.2 (a4.symm.trans h)
 refine⟨a,ol,os,d,lr,sr,rfl,ha.fr hf (no (by omega) ha.1),hlv.fr hf (no (by omega) hlv),All2.mono (fun _ _ h=>h.fr hf (fun x ob hs ho=>by have:=hS x ob hs ho; omega)) hlr,hsv.fr hf (no (by omega) hsv),
  All2.mono (fun _ _ h=>h.fr hf (fun x ob hs ho=>.inl (by have:=hS x ob hs ho; omega)) (fun _ _ h=>h)) hsr,hd.fr hf (no (by omega) hd.1),hdo,hol,hos,hl3,hs3,hoff⟩
theorem doAll_small:∀ (ds:List Dd) {s:Sr},Small s->Small (doAll s ds)
 | [],s,h=>h
 | d :: ds,s,h=>by
  have:doAll s (d :: ds)=doAll ((doR s d).getD s) ds:=rfl
  rw [this]
  refine doAll_small ds ?_
  cases hd:doR s d with
  | none=>exact h
  | some x=>exact doR_small hd
theorem pastR_small {s x:Sr} {ds:List Dd} (h:pastR s ds=some x):Small x:=by
 unfold pastR at h
 split at h
 ·rename_i hc
  cases h
  simp only [Bool.and_eq_true] at hc
  exact doAll_small ds (storeOk_small hc.1)
 ·cases h
end Go.Proofs.YtdncpcghiooeoaaGreat.B

namespace Go.Proofs.YtdncpcghiooeoaaGreat.B
open Go.RowKit Go.Proofs
set_option linter.unusedVariables false
set_option linter.unusedSimpArgs false
variable {E:Env}
theorem l71StoreM_ok (o N:Nat) (H:Hp) (hr:Rd H o N) (hN:N<34359738368) :
  AC Tryz.prog E 28 [.pt o 0 0] H (fun v H'=>∃ s,MSt H H' v s/\Small s/\storeOk s=true/\Val s/\Dr o H H'/\Rd H' o (N+400)):=by
 refine AC_by fol (tC_le tab2_ok) h_spec_l71Store ?_
 have hol:=hr.lt
 simp [c_spec_l71Store]
 refine cg_ex (pick_ok o N 5 _ (hr.le (HLe.self _ _)) (by omega) (by omega)) ?_
 rintro v H1 ⟨n,rfl,hn,hd1,hr1,hlen⟩
 have b0:=hd1.2 H.length ⟨[[.nils,.nils,.nils,.int .i64 0,.int .i64 0,.nils]],6,28,false⟩ (by omega) (by simp)
 have bl:=hd1.2 (H.length+1) ⟨[[.int .i64 0],[.int .i64 1],[.int .i64 1],[.int .i64 2],[.int .i64 5]],1,3,false⟩ (by omega) (by simp)
 have hD1:Dr o H H1:=(Fr.app (Fr.refl _ H) _).same hd1
 have hn5:n<5:=by omega
 have hnI:(n:Int)<5:=by omega
 have hrow:∃ k:Int,(0<=k/\k<=5)/\([[.int .i64 0],[.int .i64 1],[.int .i64 1],[.int .i64 2],[.int .i64 5]]:List (List AV))[n]?=some [.int .i64 k]:=by
  have:n=0\/n=1\/n=2\/n=3\/n=4:=by omega
  rcases this with rfl | rfl | rfl | rfl | rfl<;>exact⟨_,by constructor<;>decide,rfl⟩
 obtain⟨k,hk05,hk⟩:=hrow
 simp [bl,hk,hnI]
 refine cg_ex (StoreNew_ok k H1) ?_
 intro v2 H2 hret
 obtain⟨s0,hs0⟩:∃ s0,newR k=some s0:=by
  unfold newR
  rw [if_pos hk05]
  exact⟨_,rfl⟩
 have hso:storeOk s0=true:=by
  obtain⟨a,b,c,u,v,w,hv⟩:=newR_V hs0
  exact hv.ok
 rw [hs0] at hret
 obtain⟨xa,xb,xc,xk,xt,xd,rfl,o1,o2,o3,o4,o5,o6⟩:=hret.shape
 simp [o1,o2,o3,o4,o5,o6]
 have hr2:=hr1.le hret.1
 have hl2:=hret.1.1
 have hl1:=hD1.len
 have hB:=HLe.self H2 [some ⟨[[xa,xb,xc,xk,xt,xd]],6,28,false⟩]
 refine cg_ex (l71Deeds_ok o _ 30 _ (hr2.le hB) (by omega) (by omega)) ?_
 rintro dv H3 ⟨ds,hds,hdl,hdk,hd3,hr3⟩
 have esz2:∀ x ob,x=o->H2.at x=some ob->ob.esz=2\/ob.esz=6:=by
  intro x ob hx ho
  obtain⟨b,bs,p,h1,_⟩:=hr2
  rw [hx,h1] at ho
  cases ho
  exact .inl rfl
 have hmm:MSt H1 H2 (.ag [xa,xb,xc,xk,xt,xd]) s0:=by
  obtain⟨_,w,hw,hm⟩:=hret
  cases hw
  exact hm
 have hm3:=hmm.frn ((Fr.app (Fr.refl (fun x=>x=o) H2) [some ⟨[[xa,xb,xc,xk,xt,xd]],6,28,false⟩]).same hd3) esz2
 have hsm:=newR_small hs0
 have c3:=hd3.2 H2.length _ (show ¬H2.length=o by omega) (Hp.at_app_0.trans Hp.at_0)
 have b03:=hd3.2 H.length _ (show ¬H.length=o by omega) (hB.2 _ _ (hret.1.2 _ _ b0))
 simp [c3]
 refine cg_ex (PastDo_ok _ dv s0 ds H3 hm3.st hsm.stB hds.rows (fun d hd=>by have:=hdk d hd; omega)) ?_
 intro v4 H4 hret4
 have hp:pastR s0 ds=some (doAll s0 ds):=by
  unfold pastR
  rw [if_pos (by rw [hso,Bool.true_and,decide_eq_true_iff]; omega)]
 rw [hp] at hret4
 obtain⟨ya,yb,yc,yk,yt,yd,rfl,p1,p2,p3,p4,p5,p6⟩:=hret4.shape
 have c4:=hret4.1.2 _ _ c3
 have b04:=hret4.1.2 _ _ b03
 have u4:=Hp.at_lt c4
 have u04:=Hp.at_lt b04
 have hl1':=Hp.at_lt b0
 have m0:H2.length≠H.length:=by omega
 simp [p1,p2,p3,p4,p5,p6,c4,b04,Hp.at_set,Hp.at_set_ne,List.length_set,u4,u04,m0,m0.symm]
 obtain⟨W,hW⟩:∃ W:Option Ob,W=some ⟨[[ya,yb,yc,yk,yt,yd]],6,28,false⟩:=⟨_,rfl⟩
 rw [<- hW]
 have hF:=((Fr.refl (fun x=>x=H2.length\/x=H.length) H4).set (o:=H2.length) (.inl (.inl rfl)) W).set (o:=H.length) (.inl (.inr rfl)) W
 have e6:∀ x ob,(x=H2.length\/x=H.length)->H4.at x=some ob->ob.esz=2\/ob.esz=6:=by
  intro x ob hx ho
  rcases hx with h | h
  ·rw [h,c4] at ho; cases ho; exact .inr rfl
  ·rw [h,b04] at ho; cases ho; exact .inr rfl
 have hm5:MSt H3 H4 (.ag [ya,yb,yc,yk,yt,yd]) (doAll s0 ds):=by
  obtain⟨_,w,hw,hm⟩:=hret4
  cases hw
  exact hm
 have hB1:=hB.1
 have hd31:=hd3.len
 refine⟨doAll s0 ds,(hm5.frn hF e6).base (by omega),pastR_small hp,(by
  obtain⟨a,b,c,u,v,w,hv⟩:=doAll_V ds (newR_V hs0)
  exact hv.ok),doAll_V ds (newR_V hs0),((((hD1.le_fr hret.1).app _).same hd3).le_fr hret4.1).trans hF (fun x hx=>.inr (by rcases hx with h | h<;>omega)),Rd.mono ((hr3.le hret4.1).fr hF (by omega) (fun x ob hx ho=>by have:=e6 x ob hx ho; omega)) (by omega)⟩
end Go.Proofs.YtdncpcghiooeoaaGreat.B

namespace Go.Proofs.YtdncpcghiooeoaaGreat.B
open Go.RowKit Go.Proofs
set_option linter.unusedVariables false
set_option linter.unusedSimpArgs false
variable {E:Env}
theorem addBs_l (d:Nat):∀ (gs:List (List ByteArray)) (b:Bool) (s:Sv),(addBs d b s gs).l.size<=s.l.size+gs.length
 | [],b,s=>Nat.le_refl _
 | g :: gs,b,s=>by
  have h:=addBs_l d gs false (addB d b s g)
  have h2:(addB d b s g).l.size=s.l.size+1:=by
   simp only [addB,ByteArray.size_append]
   rfl
  simp only [addBs,List.length_cons]
  omega
theorem bfs_l:∀ (n:Nat) (q:List Fk) (s:Sv),(∀ f∈q,f.1.length<=24)->(bfs n q s).l.size<=s.l.size+n * 24
 | 0,q,s,h=>by simp [bfs]
 | n+1,[],s,h=>by simp [bfs]
 | n+1,(ks,d) :: q,s,h=>by
  have hk:ks.length<=24:=h (ks,d) (List.mem_cons_self ..)
  have h1:=bfs_l n (q++subs d (brs d ks)) (addBs d true s (brs d ks)) (fun f hf=>(List.mem_append.1 hf).elim (fun hf=>h f (List.mem_cons_of_mem _ hf)) (subs_len hk f))
  have h2:=addBs_l d (brs d ks) true s
  have h3:=(brs_sum _ d ks (Nat.le_refl _)).2
  simp only [bfs]
  omega
theorem sieveO_l {ks:List ByteArray} {keep:Int} {x:Sv} (h:sieveO ks keep=some x):x.l.size<=12000:=by
 unfold sieveO at h
 split at h
 ·rename_i hc
  cases h
  have:=bfs_l 500 [(ks,0)] ⟨⟨#[]⟩,⟨#[]⟩,⟨#[]⟩,[],keep⟩ (fun f hf=>by
   simp at hf
   subst hf
   exact (keysOk_good hc.1).2)
  have e:(⟨#[]⟩:ByteArray).size=0:=rfl
  simp only [e] at this
  unfold sieveR
  omega
 ·cases h
theorem storeOk_l0 {s:Sr} (h:storeOk s=true) (h3:0<s.sv.length):s.sv[0].l.size<=12000:=by
 simp only [storeOk,Bool.and_eq_true,decide_eq_true_eq] at h
 have h0:=h.2.1.1
 simp only [levelOk,Bool.and_eq_true,decide_eq_true_eq] at h0
 have:=sieveO_l h0.2
 rwa [getD_get _ h3] at this
theorem MSt.appT {H0 H H':Hp} {a a' d:AV} {ol os:Nat} {s:Sr} {tp:List Ent} (h:MSt H0 H (.ag [a,.sl ol 0 3,.sl os 0 3,.int .i64 s.keep,.int .i64 s.time,d]) s) (hf:Fr a.of H H') (ha:Ents H' a' tp) :
  St H' (.ag [a',.sl ol 0 3,.sl os 0 3,.int .i64 s.keep,.int .i64 s.time,d]) { s with top:=tp }:=by
 obtain⟨a2,ol2,os2,d2,lr,sr,hv,ha2,hlv,hlr,hsv,hsr,hd2,hdo2,hol,hos,hl3,hs3,hoff⟩:=h
 simp only [stAV,hl3,hs3,AV.ag.injEq,List.cons.injEq,AV.sl.injEq,and_true,true_and] at hv
 obtain⟨rfl,rfl,rfl,rfl⟩:=hv
 have n4:∀ {e:Nat},e≠4->∀ x ob,a.of x->H.at x=some ob->ob.esz≠e:=fun he x ob hx ho=>by rw [ha2.1.esz hx ho]; exact he.symm
 refine⟨a',.sl ol 0 3,.sl os 0 3,d,lr,sr,rfl,ha,?_,?_,?_,All2.mono (fun row sv h=>?_) hsr,Rows.frz hd2.ints hf (n4 (by simp))⟩
 ·rw [<- hl3]
  exact Rows.frz hlv.rows hf (n4 (by simp))
 ·have key:∀ {lr:List (List AV)} {ls:List (List Ent)},All2 (LvRow H) lr ls->(∀ y,a.of y->∀ u,[u]∈lr->¬u.of y)->All2 (LvRow H') lr ls:=by
   intro lr
   induction lr with
   | nil=>intro ls h _; cases ls with
    | nil=>trivial
    | cons=>exact h.elim
   | cons r lr ih=>intro ls h ho; cases ls with
    | nil=>exact h.elim
    | cons l ls =>
     obtain⟨⟨u,rfl,hu⟩,h2⟩:=h
     exact⟨⟨u,rfl,Rows.fr hu hf (fun y hy hs=>ho y hs u (List.mem_cons_self ..) hy)⟩,ih h2 (fun y hy w hw=>ho y hy w (List.mem_cons_of_mem _ hw))⟩
  exact key hlr hoff.1
 ·rw [<- hs3]
  exact Rows.frz hsv.rows hf (n4 (by simp))
 ·obtain⟨r,e1,e2,_⟩:=h
  exact⟨r,e1,Rows.frz e2 hf (n4 (by simp)),fun _ _ h=>h⟩
def BoxS (H:Hp) (L:Nat) (s:Sr):Prop:=∃ a b c d,H.at L=some ⟨[[a,b,c,.int .i64 s.keep,.int .i64 s.time,d]],6,28,false⟩/\one a=true/\one b=true/\one c=true/\one d=true/\St H (.ag [a,b,c,.int .i64 s.keep,.int .i64 s.time,d]) s/\StB s
structure Spl (s:Sr):Prop where
 val:storeOk s=true->Val s
 key:∀ e∈s.top++s.lev.flatten,e.key.size<=5
 sml:s.top.length<=2000/\s.lev.length<=3/\∀ l∈s.lev,l.length<=1000
theorem Small.sml {s:Sr} (h:Small s):s.top.length<=2000/\s.lev.length<=3/\∀ l∈s.lev,l.length<=1000:=by
 obtain⟨h1,h2,h3,h4,h5,h6,h7,h8,h9⟩:=h
 exact⟨by have:=h1.1; omega,by omega,fun l hl=>(h2 l hl).1⟩
theorem runOk_key {r:List Ent} (h:runOk r=true):∀ e∈r,e.key.size<=5:=by
 simp only [runOk,decide_eq_true_eq] at h
 intro e he
 obtain⟨i,hi,rfl⟩:=List.getElem_of_mem he
 have:=(h.1 i hi).1
 simp only [entOk,Bool.and_eq_true] at this
 exact keyOk_size this.1.1.1
theorem Val.key {s:Sr} (h:Val s):∀ e∈s.top++s.lev.flatten,e.key.size<=5:=by
 obtain⟨a,b,c,u,v,w,h⟩:=h
 rw [h.lev]
 intro e he
 simp only [List.flatten_cons,List.flatten_nil,List.append_nil,List.mem_append] at he
 rcases he with he | he | he | he
 ·exact runOk_key h.top e he
 ·exact runOk_key h.la.run e he
 ·exact runOk_key h.lb.run e he
 ·exact runOk_key h.lc.run e he
def SpJ (o N:Nat) (H:Hp) (L:Nat) (t:Tm) (H':Hp):Prop:=t 2=.pt H.length 0 0/\t 3=.pt L 0 0/\H'.at H.length=some ⟨[[.nils,.nils,.nils,.int .i64 0,.int .i64 0,.nils]],6,28,false⟩/\(∃ s,BoxS H' L s/\Spl s)/\Dr o H H'/\Rd H' o (N+410)
theorem BoxS.of {H:Hp} {L:Nat} {a b c d:AV} {s:Sr} {R:List (List AV)} (hb:H.at L=some ⟨R,6,28,false⟩) (hs:St H (.ag [a,b,c,.int .i64 s.keep,.int .i64 s.time,d]) s) (hB:StB s) :
  BoxS (List.set H L (some ⟨[[a,b,c,.int .i64 s.keep,.int .i64 s.time,d]],6,28,false⟩)) L s:=by
 have hs2:=hs.fr6 (Fr.one H L (some ⟨[[a,b,c,.int .i64 s.keep,.int .i64 s.time,d]],6,28,false⟩)) (fun y ob hy ho=>by rw [hy,hb] at ho; cases ho; rfl)
 obtain⟨a',b',c',d',e,n1,n2,n3,n4,_⟩:=hs.shape
 simp only [stAV,AV.ag.injEq,List.cons.injEq,and_true,true_and] at e
 obtain⟨rfl,rfl,rfl,rfl⟩:=e
 exact⟨a,b,c,d,Hp.at_set _ (Hp.at_lt hb),n1,n2,n3,n4,hs2,hB⟩
theorem SpJ.put {o N:Nat} {H K:Hp} {L:Nat} {t:Tm} {a b c d:AV} {s:Sr} {R:List (List AV)} (t2:t 2=.pt H.length 0 0) (t3:t 3=.pt L 0 0) (hb:K.at H.length=some ⟨[[.nils,.nils,.nils,.int .i64 0,.int .i64 0,.nils]],6,28,false⟩)
  (hc:K.at L=some ⟨R,6,28,false⟩) (hL:H.length<L) (ho:o<H.length) (hs:St K (.ag [a,b,c,.int .i64 s.keep,.int .i64 s.time,d]) s) (hB:StB s) (hV:Spl s) (hD:Dr o H K) {M:Nat} (hr:Rd K o M) (hM:M<=N+410) :
  SpJ o N H L t (List.set K L (some ⟨[[a,b,c,.int .i64 s.keep,.int .i64 s.time,d]],6,28,false⟩)):=by
 have F:=Fr.one K L (some ⟨[[a,b,c,.int .i64 s.keep,.int .i64 s.time,d]],6,28,false⟩)
 exact⟨t2,t3,(Hp.at_set_ne (by omega)).trans hb,⟨s,BoxS.of hc hs hB,hV⟩,hD.trans F (fun x hx=>.inr (by omega)),Rd.mono (hr.fr F (by omega) (fun x ob hx ho=>by rw [hx,hc] at ho; cases ho; simp)) hM⟩
theorem ok_head {s:Sr} (h:storeOk s=true):s.lev.length=3/\s.sv.length=3/\(0<=s.keep/\s.keep<=5)/\(0<=s.time/\s.time<=999)/\timesR s.tms s.time=true/\runOk s.top=true:=by
 simp only [storeOk,headOk,Bool.and_eq_true,decide_eq_true_eq] at h
 obtain⟨⟨⟨⟨⟨⟨h1,h2⟩,h3⟩,h4⟩,h5⟩,h6,h7⟩,h8⟩:=h
 exact⟨h1,h2,h3,h4,h5,h6⟩
theorem spoil_tms {s:Sr} (h:storeOk { s with tms:=s.tms++[s.time+1] }=true):Val { s with tms:=s.tms++[s.time+1] }:=by
 have h5:=(ok_head h).2.2.2.2.1
 simp only [timesR,Bool.and_eq_true] at h5
 have:=asc1_bnd _ _ _ h5.1 (s.time+1) (by simp)
 omega
theorem spoil_sv {s:Sr} (h0:storeOk s=true) (hl:0<s.lev.length) (hv:0<s.sv.length) (h:storeOk { s with sv:=s.sv.set 0 { (s.sv[0]'hv) with l:=(s.sv[0]'hv).l++⟨#[97]⟩ } }=true):False:=by
 have lv:∀ {q:Sr},storeOk q=true->levelOk q 0=true:=fun {q} hq=>by
  simp only [storeOk,Bool.and_eq_true,decide_eq_true_eq] at hq
  exact hq.2.1.1
 have a1:=lv h0
 have a2:=lv h
 simp only [levelOk,Bool.and_eq_true,decide_eq_true_eq] at a1 a2
 have e:=a1.2.symm.trans a2.2
 rw [getD_get default hv,getD_get default (by simpa using hv)] at e
 simp only [List.getElem_set_self,Option.some.injEq] at e
 have e2:=congrArg (fun q:Sv=>q.l.size) e
 simp only [ByteArray.size_append] at e2
 have:(⟨#[97]⟩:ByteArray).size=1:=rfl
 omega
theorem spoil_top {s:Sr} (h:storeOk { s with top:=s.top++[⟨⟨#[]⟩,0,false,0⟩] }=true):False:=by
 have h6:=(ok_head h).2.2.2.2.2
 simp only [runOk,decide_eq_true_eq] at h6
 have:=(h6.1 s.top.length (by simp)).1
 simp [entOk] at this
theorem lit2 {z:Nat} (hz:z<2):∃ k:Int,(k<0\/999<k)/\I64 k/\([[.int .i64 (-1)],[.int .i64 1000]]:List (List AV))[z]?=some [.int .i64 k]:=by
 have:z=0\/z=1:=by omega
 rcases this with rfl | rfl
 ·exact⟨-1,.inl (by decide),⟨by decide,by decide⟩,rfl⟩
 ·exact⟨1000,.inr (by decide),⟨by decide,by decide⟩,rfl⟩
set_option maxHeartbeats 1600000 in
theorem l71Spoilt_ok (o N:Nat) (H:Hp) (hr:Rd H o N) (hN:N<34359738368) :
  AC Tryz.prog E 11 [.pt o 0 0] H (fun v H'=>∃ s,St H' v s/\StB s/\Spl s/\Dr o H H'/\Rd H' o (N+410)):=by
 refine AC_by fol (tC_le tab2_ok) h_spec_l71Spoilt ?_
 have hol:=hr.lt
 obtain⟨H1,hH1⟩:∃ H1:Hp,H1=H++[some ⟨[[.nils,.nils,.nils,.int .i64 0,.int .i64 0,.nils]],6,28,false⟩]:=⟨_,rfl⟩
 have hle1:HLe H H1:=by rw [hH1]; exact HLe.self _ _
 have b1:H1.at H.length=some ⟨[[.nils,.nils,.nils,.int .i64 0,.int .i64 0,.nils]],6,28,false⟩:=by rw [hH1]; simp
 have hD1:Dr o H H1:=hle1.fr
 simp [c_spec_l71Spoilt,<- hH1]
 refine cg_ex (l71StoreM_ok o N H1 (hr.le hle1) hN) ?_
 rintro v H2 ⟨s,hm2,hsm,hok,hval,hd2,hr2⟩
 obtain⟨xa,xl,xs,xd,rfl,xn1,xn2,xdi⟩:=hm2.shape
 have b2:=hd2.2 _ _ (show ¬H.length=o by omega) b1
 obtain⟨H3,hH3⟩:∃ H3:Hp,H3=H2++[some ⟨[[xa,.sl xl 0 3,.sl xs 0 3,.int .i64 s.keep,.int .i64 s.time,xd]],6,28,false⟩]:=⟨_,rfl⟩
 have hle3:HLe H2 H3:=by rw [hH3]; exact HLe.self _ _
 have c3:H3.at H2.length=some ⟨[[xa,.sl xl 0 3,.sl xs 0 3,.int .i64 s.keep,.int .i64 s.time,xd]],6,28,false⟩:=by rw [hH3]; simp
 have b3:=hle3.2 _ _ b2
 have hr3:=hr2.le hle3
 have hm3:=(hm2.le hle3).base hle1.1
 have hD3:Dr o H H3:=(hD1.same hd2).le_fr hle3
 simp [xn1,xn2,<- hH3]
 refine cg_ex (pick_ok o _ 14 _ hr3 (by omega) (by omega)) ?_
 rintro v H4 ⟨n,rfl,hn,hd4,hr4,hlen⟩
 have l21:H.length<H2.length:=Hp.at_lt b2
 have b4:=hd4.2 _ _ (show ¬H.length=o by omega) b3
 have c4:=hd4.2 _ _ (show ¬H2.length=o by omega) c3
 have e2:∀ x ob,x=o->H3.at x=some ob->ob.esz=2\/ob.esz=6:=by
  intro x ob hx ho
  obtain⟨b,bs,p,h1,_⟩:=hr3
  rw [hx,h1] at ho
  cases ho
  exact .inl rfl
 have hm4:=hm3.frn hd4 e2
 have hD4:Dr o H H4:=hD3.same hd4
 have u4:=Hp.at_lt b4
 have hS:∀ y ob,y=H.length->H4.at y=some ob->ob.esz=6:=fun y ob hy ho=>by rw [hy,b4] at ho; cases ho; rfl
 simp
 refine c_split (fun hq=>?_) (fun hq=>?_)<;>simp at hq
 ·simp [c4,b4,xn1,xn2,Hp.at_set,u4]
  have F:=Fr.one H4 H.length (some ⟨[[xa,.sl xl 0 3,.sl xs 0 3,.int .i64 s.keep,.int .i64 s.time,xd]],6,28,false⟩)
  exact⟨s,hm4.st.fr6 F hS,hsm.stB,⟨fun _=>hval,hval.key,hsm.sml⟩,hD4.trans F (fun x hx=>.inr (by omega)),Rd.mono (hr4.fr F (by omega) (fun x ob hx ho=>by have:=hS x ob hx ho; omega)) (by omega)⟩
 rw [W_skip]
 refine W_cut (tC_mono AC_mono) (SpJ o N H H2.length) ?_ ?_
 ·simp
  refine cg_ex (pick_ok o _ 6 _ hr4 (by omega) (by omega)) ?_
  rintro v H5 ⟨q,rfl,hq6,hd5,hr5,hlen5⟩
  have b5:=hd5.2 _ _ (show ¬H.length=o by omega) b4
  have c5:=hd5.2 _ _ (show ¬H2.length=o by omega) c4
  have e4:∀ x ob,x=o->H4.at x=some ob->ob.esz=2\/ob.esz=6:=by
   intro x ob hx ho
   obtain⟨b,bs,p,h1,_⟩:=hr4
   rw [hx,h1] at ho
   cases ho
   exact .inl rfl
  have hm5:=hm4.frn hd5 e4
  have hD5:Dr o H H5:=hD4.same hd5
  have u5:=Hp.at_lt c5
  simp
  refine c_split (fun q0=>?_) (fun q0=>?_)<;>simp at q0
  ·simp
   refine cg_ex (pick_ok o _ 2 _ (hr5.le (HLe.self _ _)) (by omega) (by omega)) ?_
   rintro v H6 ⟨z,rfl,hz,hd6,hr6,hlen6⟩
   have b6:=hd6.2 _ _ (show ¬H.length=o by omega) ((HLe.self _ _).2 _ _ b5)
   have c6:=hd6.2 _ _ (show ¬H2.length=o by omega) ((HLe.self _ _).2 _ _ c5)
   have l6:=hd6.2 _ _ (show ¬H5.length=o by omega) (Hp.at_app_0.trans Hp.at_0)
   have e5:∀ x ob,x=o->(H5++[some ⟨[[.int .i64 (-1)],[.int .i64 1000]],1,3,false⟩]:Hp).at x=some ob->ob.esz=2\/ob.esz=6:=by
    intro x ob hx ho
    obtain⟨b,bs,p,h1,_⟩:=hr5.le (HLe.self H5 [some ⟨[[.int .i64 (-1)],[.int .i64 1000]],1,3,false⟩])
    rw [hx,h1] at ho
    cases ho
    exact .inl rfl
   have hm6:=(hm5.le (HLe.self _ _)).frn hd6 e5
   have hD6:Dr o H H6:=(hD5.app _).same hd6
   have u6:=Hp.at_lt c6
   have hz2:z<2:=by omega
   have hzI:(z:Int)<2:=by omega
   obtain⟨k,hkb,hk64,hk⟩:=lit2 hz2
   obtain⟨p1,p2,p3⟩:=hm6.parts
   simp [l6,hk,hzI,c6,u6]
   have hBs:=hsm.stB
   exact SpJ.put (s:={ s with time:=k }) (by simp) (by simp) b6 c6 l21 hol (hm6.upd (tp:=s.top) (ts:=s.tms) k p1 p2 p3 (fun y h=>h) (fun lr h _=>h)).st ⟨hBs.1,hBs.2.1,hBs.2.2.1,hBs.2.2.2.1,hBs.2.2.2.2.1,hBs.2.2.2.2.2.1,hk64,hBs.2.2.2.2.2.2.2.1,hBs.2.2.2.2.2.2.2.2⟩ ⟨fun h=>by have:=(ok_head h).2.2.2.1; simp only at this; omega,hval.key,hsm.sml⟩ hD6 hr6 (by omega)
  simp
  refine c_split (fun q1=>?_) (fun q1=>?_)<;>simp at q1
  ·obtain⟨p1,p2,p3⟩:=hm5.parts
   have ht:=storeOk_time hok
   have hlt:=(headI_parts (storeOk_ok hok).1).2.2.2.2.1
   simp [c5,ht]
   refine appG_one (bytes:=8) (R:=s.tms.map intRow) p2.1 (by have:=hsm.2.2.1; simp; omega) (fun v6 H6 g1 g2 g3=>?_)
   have nd:∀ {x:Nat} {ob:Ob},H5.at x=some ob->ob.ety≠3->¬xd.of x:=fun ho he hx=>he (p2.1.ety hx ho)
   have b6:=g2.2 _ _ (nd b5 (by simp)) b5
   have c6:=g2.2 _ _ (nd c5 (by simp)) c5
   have u6:=Hp.at_lt c6
   have hl5:=hD5.len
   have g1':OwnI H H6 v6 (s.tms++[s.time+1]):=⟨by simpa [intRow] using g1,fun y hy=>(g3 y hy).elim (p2.2 y) (fun h=>by omega)⟩
   have hm6:=hm5.app (ts:=s.tms++[s.time+1]) g2 g1' g3
   have hBs:=hsm.stB
   simp [c6,u6,g1.rows.one,g1.rows.cells,g1.rows.cells1]
   refine SpJ.put (s:={ s with tms:=s.tms++[s.time+1] }) (by simp) (by simp) b6 c6 l21 hol hm6.st ⟨hBs.1,hBs.2.1,hBs.2.2.1,hBs.2.2.2.1,by have:=hsm.2.2.1; simp; omega,hBs.2.2.2.2.2.1,hBs.2.2.2.2.2.2.1,hBs.2.2.2.2.2.2.2.1,fun t ht=>?_⟩ ⟨spoil_tms,hval.key,hsm.sml⟩ (hD5.trans g2 (fun x hx=>.inr (p2.2 x hx))) (hr5.fr2 g2 (fun x hx=>by have:=p2.2 x hx; omega)) (by omega)
   rcases List.mem_append.1 ht with h | h
   ·exact hBs.2.2.2.2.2.2.2.2 t h
   ·rw [List.mem_singleton.1 h]
    exact⟨by omega,by omega⟩
  simp
  refine c_split (fun q2=>?_) (fun q2=>?_)<;>simp at q2
  ·obtain⟨a',b',c',d',lr,sr,e,f1,f2,f3,f4,f5,f6⟩:=hm5.st
   simp only [stAV,AV.ag.injEq,List.cons.injEq,and_true,true_and] at e
   obtain⟨rfl,rfl,rfl,rfl⟩:=e
   have hlr3:lr.length=3:=by rw [f3.length]; exact hsm.2.2.2.2.2.2.2.1
   have hBs:=hsm.stB
   simp [c5]
   refine cutG_from f2 1 rfl (by omega) (fun u g1 g2=>?_)
   simp [c5,u5,g1.one,g1.cells,g1.cells1]
   exact SpJ.put (s:={ s with lev:=s.lev.drop 1 }) (by simp) (by simp) b5 c5 l21 hol ⟨xa,u,.sl xs 0 3,xd,lr.drop 1,sr,rfl,f1,g1,All2.drop f3 1,f4,f5,f6⟩ ⟨hBs.1,fun es he=>hBs.2.1 es (List.mem_of_mem_drop he),by have:=hBs.2.2.1; simp; omega,hBs.2.2.2⟩ ⟨fun h=>by have:=(ok_head h).1; have h3:=hsm.2.2.2.2.2.2.2.1; simp at this; omega,fun e he=>hval.key e (by
    rcases List.mem_append.1 he with h | h
    ·exact List.mem_append_left _ h
    ·obtain⟨l,h1,h2⟩:=List.mem_flatten.1 h
     exact List.mem_append_right _ (List.mem_flatten.2 ⟨l,List.mem_of_mem_drop h1,h2⟩)),hsm.sml.1,by have:=hsm.sml.2.1; simp; omega,fun l hl=>hsm.sml.2.2 l (List.mem_of_mem_drop hl)⟩ hD5 hr5 (by omega)
  simp
  refine c_split (fun q3=>?_) (fun q3=>?_)<;>simp at q3
  ·obtain⟨a2,ol2,os2,d2,lr,sr,hv,ha2,hlv,hlr,hsv,hsr,hd2',hdo2,hol2,hos2,hl3,hs3,hoff⟩:=hm5
   simp only [stAV,hl3,hs3,AV.ag.injEq,List.cons.injEq,AV.sl.injEq,and_true,true_and] at hv
   obtain⟨rfl,rfl,rfl,rfl⟩:=hv
   have hsv':=hsv
   obtain⟨e2,obs,j1,j2,j3,j4,j5,j6⟩:=hsv'.ob
   have hsr3:sr.length=3:=by omega
   obtain⟨x0,hx0⟩:∃ x0,x0=s.sv[0]'(by omega):=⟨_,rfl⟩
   obtain⟨r0,hr0,hr1,_⟩:=hsr.get 0 (by omega) (by omega)
   rw [<- hx0] at hr0 hr1
   have hx0l:x0.l.size<=12000:=by rw [hx0]; exact storeOk_l0 hok (by omega)
   have hsz:x0.l.size+(⟨#[97]⟩:ByteArray).size<=9223372036854775807:=by
    have:(⟨#[97]⟩:ByteArray).size=1:=rfl
    omega
   have j7:obs.rows[0]?=some [.str x0.l,.str x0.m,.str x0.f,r0,.int .i64 x0.k]:=by
    have:(obs.rows.take sr.length)[0]?=sr[0]?:=by rw [j6]
    rw [List.getElem?_take,if_pos (by omega)] at this
    rw [this,List.getElem?_eq_getElem (by omega),hr0]
   have u1:=Hp.at_lt j1
   simp [c5,j1,j2,j3,j7,hsz,u1]
   obtain⟨K,hK⟩:∃ K:Hp,K=List.set H5 xs (some ⟨obs.rows.set 0 [.str (x0.l++⟨#[97]⟩),.str x0.m,.str x0.f,r0,.int .i64 x0.k],5,obs.ety,false⟩):=⟨_,rfl⟩
   rw [<- hK]
   have F:Fr (fun y=>y=xs) H5 K:=by rw [hK]; exact Fr.one _ _ _
   have jK:K.at xs=some { obs with rows:=obs.rows.set 0 [.str (x0.l++⟨#[97]⟩),.str x0.m,.str x0.f,r0,.int .i64 x0.k] }:=by rw [hK,Hp.at_set _ u1,<- j2,<- j3]
   have n5:∀ {e:Nat},e≠5->∀ x ob,x=xs->H5.at x=some ob->ob.esz≠e:=fun he x ob hx ho=>by
    rw [hx,j1] at ho
    cases ho
    omega
   have ne6:∀ {x:Nat} {ob:Ob},H5.at x=some ob->ob.esz=6->¬x=xs:=fun ho he hx=>by
    rw [hx,j1] at ho
    cases ho
    omega
   have hsvK:=hsv.setRow j1 0 _ jK
   have hBs:=hsm.stB
   refine⟨by simp,by simp,F.2 _ _ (ne6 b5 rfl) b5,⟨{ s with sv:=s.sv.set 0 { x0 with l:=x0.l++⟨#[97]⟩ } },⟨xa,.sl xl 0 3,.sl xs 0 3,xd,F.2 _ _ (ne6 c5 rfl) c5,xn1,by simp,by simp,xn2,?_,hBs.1,hBs.2.1,hBs.2.2.1,by simpa using hBs.2.2.2.1,hBs.2.2.2.2.1,fun y hy=>?_,hBs.2.2.2.2.2.2⟩,⟨fun h=>by rw [hx0] at h; exact (spoil_sv hok (by have:=hsm.2.2.2.2.2.2.2.1; omega) (by omega) h).elim,hval.key,hsm.sml⟩⟩,hD5.trans F (fun x hx=>.inr (by omega)),Rd.mono (hr5.fr2 F (fun x hx=>by omega)) (by omega)⟩
   ·refine⟨xa,.sl xl 0 3,.sl xs 0 3,xd,lr,sr.set 0 [.str (x0.l++⟨#[97]⟩),.str x0.m,.str x0.f,r0,.int .i64 x0.k],rfl,Rows.frz ha2.ents F (n5 (by simp)),?_,All2.mono (fun _ _ h=>h.fr F (n5 (by simp))) hlr,?_,All2.set (All2.mono (fun row sv h=>?_) hsr) 0 ⟨r0,rfl,Rows.frz hr1 F (n5 (by simp)),fun _ _ h=>h⟩,Rows.frz hd2'.ints F (n5 (by simp))⟩
    ·rw [<- hl3]
     exact Rows.frz hlv.rows F (n5 (by simp))
    ·rw [<- hs3]
     exact hsvK.rows
    ·obtain⟨r,e1,e2,_⟩:=h
     exact⟨r,e1,Rows.frz e2 F (n5 (by simp)),fun _ _ h=>h⟩
   ·rcases List.mem_or_eq_of_mem_set hy with h | h
    ·exact hBs.2.2.2.2.2.1 y h
    ·rw [h]
     exact hBs.2.2.2.2.2.1 x0 (by rw [hx0]; exact List.getElem_mem _)
  simp
  refine c_split (fun q4=>?_) (fun q4=>?_)<;>simp at q4
  ·obtain⟨a',b',c',d',lr,sr,e,f1,f2,f3,f4,f5,f6⟩:=hm5.st
   simp only [stAV,AV.ag.injEq,List.cons.injEq,and_true,true_and] at e
   obtain⟨rfl,rfl,rfl,rfl⟩:=e
   have hBs:=hsm.stB
   simp [c5,u5]
   exact SpJ.put (s:={ s with keep:=6 }) (by simp) (by simp) b5 c5 l21 hol ⟨xa,_,_,xd,lr,sr,rfl,f1,f2,f3,f4,f5,f6⟩ ⟨hBs.1,hBs.2.1,hBs.2.2.1,hBs.2.2.2.1,hBs.2.2.2.2.1,hBs.2.2.2.2.2.1,hBs.2.2.2.2.2.2.1,⟨by simp,by simp⟩,hBs.2.2.2.2.2.2.2.2⟩ ⟨fun h=>by have:=(ok_head h).2.2.1; simp at this,hval.key,hsm.sml⟩ hD5 hr5 (by omega)
  ·obtain⟨p1,p2,p3⟩:=hm5.parts
   simp [c5]
   refine appG_one (bytes:=40) (R:=s.top.map entRow) p1.1 (by have:=hsm.1.1; simp; omega) (fun v6 H6 g1 g2 g3=>?_)
   have nd:∀ {x:Nat} {ob:Ob},H5.at x=some ob->ob.ety≠37->¬xa.of x:=fun ho he hx=>he (p1.1.ety hx ho)
   have b6:=g2.2 _ _ (nd b5 (by simp)) b5
   have c6:=g2.2 _ _ (nd c5 (by simp)) c5
   have u6:=Hp.at_lt c6
   have g1':Ents H6 v6 (s.top++[⟨⟨#[]⟩,0,false,0⟩]):=by
    have:=g1.rows
    simpa [entRow,Ents] using this
   have hBs:=hsm.stB
   simp [c6,u6,g1.rows.one,g1.rows.cells,g1.rows.cells1]
   refine SpJ.put (s:={ s with top:=s.top++[⟨⟨#[]⟩,0,false,0⟩] }) (by simp) (by simp) b6 c6 l21 hol (hm5.appT g2 g1') ⟨⟨by have:=hsm.1.1; simp; omega,fun e he=>?_⟩,hBs.2⟩ ⟨fun h=>(spoil_top h).elim,fun e he=>by
    rcases List.mem_append.1 he with h | h
    ·rcases List.mem_append.1 h with h | h
     ·exact hval.key e (List.mem_append_left _ h)
     ·rw [List.mem_singleton.1 h]
      exact Nat.zero_le _
    ·exact hval.key e (List.mem_append_right _ h),by have:=hsm.1.1; simp; omega,hsm.sml.2⟩ (hD5.trans g2 (fun x hx=>.inr (p1.2 x hx))) (hr5.fr2 g2 (fun x hx=>by have:=p1.2 x hx; omega)) (by omega)
   rcases List.mem_append.1 he with h | h
   ·exact hBs.1.2 e h
   ·rw [List.mem_singleton.1 h]
    exact⟨by show (0:Nat)<_; omega,⟨by simp,by simp⟩,⟨by simp,by simp⟩⟩
 rintro t H5 ⟨t2,t3,b5,⟨s',⟨a',b',c',d',c5,n1,n2,n3,n4,hs5,hB5⟩,hV5⟩,hD5,hr5⟩
 have u5:=Hp.at_lt b5
 simp [t2,t3,c5,b5,n1,n2,n3,n4,Hp.at_set,u5]
 have F:=Fr.one H5 H.length (some ⟨[[a',b',c',.int .i64 s'.keep,.int .i64 s'.time,d']],6,28,false⟩)
 have hS5:∀ y ob,y=H.length->H5.at y=some ob->ob.esz=6:=fun y ob hy ho=>by rw [hy,b5] at ho; cases ho; rfl
 exact⟨s',hs5.fr6 F hS5,hB5,hV5,hD5.trans F (fun x hx=>.inr (by omega)),Rd.mono (hr5.fr F (by omega) (fun x ob hx ho=>by have:=hS5 x ob hx ho; omega)) (by omega)⟩
end Go.Proofs.YtdncpcghiooeoaaGreat.B

namespace Go.Proofs.YtdncpcghiooeoaaGreat.B
open Go.RowKit Go.Proofs
set_option linter.unusedVariables false
set_option linter.unusedSimpArgs false
variable {E:Env}
end Go.Proofs.YtdncpcghiooeoaaGreat.B

namespace Go.Proofs.YtdncpcghiooeoaaGreat.B
open Go.RowKit Go.Proofs
set_option linter.unusedVariables false
set_option linter.unusedSimpArgs false
variable {E:Env}
end Go.Proofs.YtdncpcghiooeoaaGreat.B

namespace Go.Proofs.YtdncpcghiooeoaaGreat.B
open Go.RowKit
set_option linter.unusedVariables false
set_option linter.unusedSimpArgs false
end Go.Proofs.YtdncpcghiooeoaaGreat.B

namespace Go.Proofs.YtdncpcghiooeoaaGreat.B
open Go.RowKit Go.Proofs
set_option linter.unusedVariables false
set_option linter.unusedSimpArgs false
variable {E:Env}
theorem St.frE {S:Nat->Prop} {e:Nat} {H H':Hp} {v:AV} {s:Sr} (h:St H v s) (hf:Fr S H H') (he:e≠1/\e≠4/\e≠5) (hS:∀ y ob,S y->H.at y=some ob->ob.esz=e):St H' v s:=by
 obtain⟨a,b,c,d,lr,sr,e0,h1,h2,h3,h4,h5,h6⟩:=h
 have n:∀ {k:Nat},e≠k->∀ y ob,S y->H.at y=some ob->ob.esz≠k:=fun hk y ob hy ho=>by rw [hS y ob hy ho]; exact hk
 exact⟨a,b,c,d,lr,sr,e0,Rows.frz h1 hf (n he.2.1),Rows.frz h2 hf (n he.1),All2.mono (fun _ _ ⟨u,k1,k2⟩=>⟨u,k1,Rows.frz k2 hf (n he.2.1)⟩) h3,Rows.frz h4 hf (n he.2.2),All2.mono (fun _ _ ⟨u,k1,k2,k3⟩=>⟨u,k1,Rows.frz k2 hf (n he.1),k3⟩) h5,Rows.frz h6 hf (n he.1)⟩
end Go.Proofs.YtdncpcghiooeoaaGreat.B

namespace Go.Proofs.YtdncpcghiooeoaaGreat.B
open Go.RowKit Go.Proofs
set_option linter.unusedVariables false
set_option linter.unusedSimpArgs false
variable {E:Env}
end Go.Proofs.YtdncpcghiooeoaaGreat.B

namespace Go.Proofs.YtdncpcghiooeoaaGreat.B
open Go.RowKit Go.Proofs
set_option linter.unusedVariables false
set_option linter.unusedSimpArgs false
variable {E:Env}
theorem Rd.e2 {K:Hp} {r M:Nat} (hr:Rd K r M):∀ x ob,x=r->K.at x=some ob->ob.esz=2:=by
 intro x ob hx ho
 obtain⟨b,bs,p,h1,_⟩:=hr
 rw [hx,h1] at ho
 cases ho
 rfl
theorem keysR_size {r:List Ent} {B:Nat} (h:∀ e∈r,e.key.size<=B):∀ k∈keysR r,k.size<=B:=by
 intro k hk
 obtain⟨e,he,rfl⟩:=keys1_mem none r k hk
 exact h e he
set_option maxHeartbeats 1600000 in
theorem l71Of_ok (o N:Nat) (v:AV) (s:Sr) (H:Hp) (hr:Rd H o N) (hN:N<34359738368) (hs:St H v s) (hp:Spl s) :
  AC Tryz.prog E 12 [.pt o 0 0,v] H (fun u H'=>∃ k,u=.str k/\k.size<=5/\Dr o H H'/\Rd H' o (N+7)):=by
 obtain⟨a,b,c,d,lr,sr,rfl,f1,f2,f3,f4,f5,f6⟩:=hs
 refine AC_by fol (tC_le tab2_ok) h_spec_l71Of ?_
 obtain⟨H1,hH1⟩:∃ H1:Hp,H1=H++[some ⟨[[a,b,c,.int .i64 s.keep,.int .i64 s.time,d]],6,28,false⟩]:=⟨_,rfl⟩
 have hle1:HLe H H1:=by rw [hH1]; exact HLe.self _ _
 have b0:H1.at H.length=some ⟨[[a,b,c,.int .i64 s.keep,.int .i64 s.time,d]],6,28,false⟩:=by rw [hH1]; simp
 have ll:=f3.length
 have l1:=f2.len
 rw [ll] at l1
 obtain⟨z1,z2,z3⟩:=hp.sml
 simp [c_spec_l71Of,stAV,Rows.one f1,f2.one,f4.one,Rows.one f6,<- hH1,b0]
 refine cg_ex (l11Keys_ok a s.top H1 (f1.le hle1) (by omega)) ?_
 rintro v0 H2 ⟨hle2,hv0⟩
 simp
 refine W_for (fun m t H'=>∃ (i:Nat) (out:List ByteArray) (w:AV),i+m=s.lev.length/\t 0=.pt o 0 0/\t 3=.pt H.length 0 0/\t 5=w/\t 6=.int .i64 i/\HLe H1 H'/\OwnS H1 H' w out/\out.length<=2000+1000 * i/\∀ k∈out,k.size<=5) s.lev.length ?_ (tC_mono AC_mono) ?_
 ·refine⟨0,keysR s.top,v0,by omega,by simp,by simp,by simp,by simp,hle2,hv0,?_,keysR_size (fun e he=>hp.key e (List.mem_append_left _ he))⟩
  have:=keysR_len s.top
  omega
 rintro m t H' ⟨i,out,w,him,t0,t3,t5,t6,hle,hw,hol,hok⟩
 have c0:=hle.2 _ _ b0
 have hleH:=hle1.trans hle
 simp [t0,t3,t5,t6,c0,l1,f2.slc]
 refine c_split (fun hq=>?_) (fun hq=>?_)<;>simp at hq
 ·have hi:i<s.lev.length:=by omega
  have hw2:=wrapN (i:=i) (by omega)
  obtain⟨o1,i1,ob1,rfl,x1,x2,x3⟩:=f2.get (j:=i) (by omega)
  obtain⟨u,hu,hue⟩:=f3.get i (by omega) hi
  rw [hu] at x3
  have x1':=hleH.2 _ _ x1
  have q1:i<lr.length:=by omega
  have hlen:=z3 _ (List.getElem_mem hi)
  simp [t0,t3,t5,t6,c0,x1',x2,x3,q1]
  refine cg_ex (l11Keys_ok u s.lev[i] H' (hue.le hleH) (by omega)) ?_
  rintro v1 H3 ⟨hle3,hv1⟩
  have hk1:=keysR_len s.lev[i]
  have hw3:=hw.le hle3
  simp [t0,t3,t5,t6]
  refine appG_cat (bytes:=16) hw3 hv1.rows (hle.trans hle3) (by omega) (fun v2 H4 g1 g2 g3 g4=>?_)
  simp [t0,t3,t5,t6,hw2]
  refine⟨m-1,by omega,i+1,by omega,by omega,g1,out++keysR s.lev[i],g2,by rw [List.length_append]; omega,fun k hk=>?_⟩
  rcases List.mem_append.1 hk with h | h
  ·exact hok k h
  ·exact keysR_size (fun e he=>hp.key e (List.mem_append_right _ (List.mem_flatten.2 ⟨_,List.getElem_mem hi,he⟩))) k h
 ·simp [t0,t5]
  refine cg_ex (l71Near_ok o N w out H' (hr.le hleH) hw.rows (by omega) hok (by omega)) ?_
  rintro v1 H3 ⟨k,rfl,hk,hd,hr3⟩
  simp
  exact⟨hk,(hleH.fr (S:=fun x=>x=o)).same hd,hr3⟩
def DrawnK (H H':Hp) (v:AV):Prop:=∃ w s k n,v=.tu [w,.str k,.int .i64 n]/\HLe H H'/\St H' w s/\StB s/\Spl s/\k.size<=5
end Go.Proofs.YtdncpcghiooeoaaGreat.B

namespace Go.Proofs.YtdncpcghiooeoaaGreat.B
open Go.RowKit Go.Proofs
set_option linter.unusedVariables false
set_option linter.unusedSimpArgs false
variable {E:Env}
theorem St.box {H K:Hp} {a b c d:AV} {s:Sr} (h:St H (.ag [a,b,c,.int .i64 s.keep,.int .i64 s.time,d]) s) (hK:K=H++[some ⟨[[a,b,c,.int .i64 s.keep,.int .i64 s.time,d]],6,28,false⟩]) :
  HLe H K/\K.at H.length=some ⟨[[a,b,c,.int .i64 s.keep,.int .i64 s.time,d]],6,28,false⟩/\St K (.ag [a,b,c,.int .i64 s.keep,.int .i64 s.time,d]) s:=by
 have hle:HLe H K:=by rw [hK]; exact HLe.self _ _
 exact⟨hle,by rw [hK]; simp,h.le hle⟩
end Go.Proofs.YtdncpcghiooeoaaGreat.B

namespace Go.Proofs.YtdncpcghiooeoaaGreat.B
open Go.RowKit Go.Proofs
set_option linter.unusedVariables false
set_option linter.unusedSimpArgs false
variable {E:Env}
def GaI (s:Sr) (fr to:ByteArray) (time:Int) (a b c d:AV) (H H1:Hp) (m:Nat) (t:Tm) (K:Hp):Prop:=∃ (i:Nat) (ks:List ByteArray) (u:AV),i+m=3/\t 1=.str fr/\t 2=.str to/\t 3=.int .i64 time/\t 4=.pt H.length 0 0/\t 9=u/\t 40=b/\t 41=.int .i64 3/\t 42=.int .i64 i/\HLe H1 K/\OwnS H1 K u ks/\Cov s fr to i ks
def LiI (s:Sr) (fr to:ByteArray) (time:Int) (H H1 H2:Hp) (zs:List ByteArray) (w:AV) (m:Nat) (t:Tm) (K:Hp):Prop:=∃ (i:Nat) (u:AV),i+m=zs.length/\t 1=.str fr/\t 2=.str to/\t 3=.int .i64 time/\t 4=.pt H.length 0 0/\t 12=u/\t 61=w/\t 62=.int .i64 zs.length/\t 63=.int .i64 i/\HLe H2 K/\OwnE H2 K u ((zs.take i).filterMap (pickL s fr to time))
set_option maxHeartbeats 1600000 in
theorem StoreList_ok (v:AV) (s:Sr) (fr to:ByteArray) (time:Int) (H:Hp) (hs:St H v s) (hb:StB s) (hv:storeOk s=true->Val s) (hfs:fr.size<4611686018427387904) (hts:to.size<4611686018427387904) :
  AC Tryz.prog E 9 [v,.str fr,.str to,.int .i64 time] H (fun u H'=>HLe H H'/\∃ out,OwnE H H' u out/\ListOf s fr to time out/\out.length<=400000):=by
 have hs0:=hs
 obtain⟨a,b,c,d,lr,sr,rfl,ha,hb1,hlr,hc,hsr,hd⟩:=hs
 refine AC_by fol (tC_le tabJ_ok) h_impl_StoreList ?_
 obtain⟨H1,hH1⟩:∃ H1:Hp,H1=H++[some ⟨[[a,b,c,.int .i64 s.keep,.int .i64 s.time,d]],6,28,false⟩]:=⟨_,rfl⟩
 have hle1:HLe H H1:=by rw [hH1]; exact HLe.self _ _
 have b0:H1.at H.length=some ⟨[[a,b,c,.int .i64 s.keep,.int .i64 s.time,d]],6,28,false⟩:=by rw [hH1]; simp
 simp [c_impl_StoreList,stAV,Rows.one ha,hb1.one,hc.one,Rows.one hd,<- hH1,b0]
 have hkeyF:∀ {C:CallP} {d:Option Nat} {ag} {p:Plan} {t:Tm} {H:Hp} {K:Tm->Hp->Prop},_:=@fun C d ag p t H K=>tabJ_key C d ag p t H K fr hfs
 have hkeyT:∀ {C:CallP} {d:Option Nat} {ag} {p:Plan} {t:Tm} {H:Hp} {K:Tm->Hp->Prop},_:=@fun C d ag p t H K=>tabJ_key C d ag p t H K to hts
 have non:(¬(storeOk s=true/\keyOk fr=true/\keyOk to=true/\knownR s time=true))->HLe H H1/\∃ out,OwnE H H1 .nils out/\ListOf s fr to time out/\out.length<=400000:=fun h=>⟨hle1,[],OwnM.nils,by unfold ListOf; rw [if_neg h],Nat.zero_le _⟩
 have cok:=implStoreOk_ok (E:=E) _ s H1 (hs0.le hle1) hb
 have ckn:=known_ok (E:=E) _ s time H1 (hs0.le hle1) hb
 simp only [stAV] at cok ckn
 refine cg_use cok ?_
 cases ho:storeOk s with
 | false =>
  simp
  exact non (fun h=>by rw [ho] at h; cases h.1)
 | true =>
  simp [hkeyF]
  cases hf:keyOk fr with
  | false =>
   simp
   exact non (fun h=>by rw [hf] at h; cases h.2.1)
  | true =>
   simp [hkeyT]
   cases ht:keyOk to with
   | false =>
    simp
    exact non (fun h=>by rw [ht] at h; cases h.2.2.1)
   | true =>
    simp [b0]
    refine cg_use ckn ?_
    cases hk:knownR s time with
    | false =>
     simp
     exact non (fun h=>by rw [hk] at h; cases h.2.2.2)
    | true =>
     have hval:=hv ho
     have hsm:=storeOk_small ho
     have e3:s.lev.length=3:=hsm.2.2.2.2.2.2.2.1
     have s3:s.sv.length=3:=hsm.2.2.2.2.2.2.2.2
     have ll:=hlr.length
     have ls:=hsr.length
     have l1:=hb1.len
     rw [ll,e3] at l1
     have tn:s.top.length<=1000:=hsm.1.1
     simp [b0]
     refine cg_ex (keysOf_ok a s.top H1 (ha.le hle1) (by omega)) ?_
     rintro u0 H2 ⟨hle2,hu0⟩
     have b2:=hle2.2 _ _ b0
     simp [b2,l1,hb1.slc]
     refine W_for (GaI s fr to time a b c d H H1) 3 ?_ (tC_mono AC_mono) ?_
     ·exact⟨0,keysR s.top,u0,by omega,by simp,by simp,by simp,by simp,by simp,by simp,by simp,by simp,hle2,hu0,Cov.zero hval (by omega)⟩
     rintro m t K ⟨i,ks,u,him,t1,t2,t3,t4,t9,t40,t41,t42,hle,hu,hcov⟩
     have hleH:=hle1.trans hle
     have bK:=hle.2 _ _ b0
     have hkl:=hcov.len
     simp [t1,t2,t3,t4,t9,t40,t41,t42]
     refine c_split (fun hq=>?_) (fun hq=>?_)<;>simp at hq
     ·have hi3:i<3:=by omega
      have hil:i<s.lev.length:=by omega
      have his:i<s.sv.length:=by omega
      have hw:=wrapN (i:=i) (by omega)
      obtain⟨o1,i1,ob1,rfl,x1,x2,x3⟩:=hb1.get (j:=i) (by omega)
      obtain⟨y,hy,hye⟩:=hlr.get i (by omega) hil
      rw [hy] at x3
      obtain⟨o2,i2,ob2,rfl,y1,y2,y3⟩:=hc.get (j:=i) (by omega)
      obtain⟨r,hr,hrs,_⟩:=hsr.get i (by omega) his
      rw [hr] at y3
      have x1':=hleH.2 _ _ x1
      have y1':=hleH.2 _ _ y1
      have q1:i<lr.length:=by omega
      have q2:i<sr.length:=by omega
      have hso:=storeOk_level ho hi3 hil his
      obtain⟨v1,v2,v3,v4⟩:=sieveO_some hso
      have hln:s.lev[i].length<=1000:=(hsm.2.1 _ (List.getElem_mem hil)).1
      simp [t1,t2,t3,t4,t9,t40,t41,t42,bK,x1',x2,x3,y1',y2,y3,q1,q2]
      have cM:=SieveMeets_ok (E:=E) (keysR s.lev[i]) s.keep r fr to K v1 ⟨v2,v3⟩ (by rw [<- v4]; exact hrs.le hleH) hfs hts
      rw [<- v4] at cM
      simp only [svAV] at cM
      refine cg_use cM ?_
      cases hm:meetsR (keysR s.lev[i]) s.keep fr to with
      | false =>
       simp [t1,t2,t3,t4,t9,t40,t41,t42,hw]
       refine⟨m-1,by omega,i+1,ks,u,by omega,by simp [t1],by simp [t2],by simp [t3],by simp [t4],by simp [t9],by simp [t40],by simp [t41],by simp,hle,hu,hcov.skip hil (fun e he hbt=>?_)⟩
       simp only [btwK,Bool.and_eq_true,Bool.not_eq_true'] at hbt
       have:=meets_sound (keep:=s.keep) v1 v2 hf ht (keysR_mem he) hbt.1 hbt.2
       rw [hm] at this
       cases this
      | true =>
       simp [t1,t2,t3,t4,t9,t40,t41,t42]
       refine cg_ex (keysOf_ok y s.lev[i] K (hye.le hleH) (by omega)) ?_
       rintro w K2 ⟨hleK,hw2⟩
       have hkk:=keysR_len s.lev[i]
       simp [t1,t2,t3,t4,t9,t40,t41,t42]
       refine appG_cat (row:=strRow) (bytes:=16) (H0:=H1) (hu.le hleK) hw2.rows (hle.trans hleK) (by omega) (fun v2 K3 g1 g2 g3 g4=>?_)
       simp [t1,t2,t3,t4,t9,t40,t41,t42,hw]
       exact⟨m-1,by omega,i+1,ks++keysR s.lev[i],v2,by omega,by simp [t1],by simp [t2],by simp [t3],by simp [t4],by simp,by simp [t40],by simp [t41],by simp,g1,g2,hcov.add hval hil (by omega)⟩
     ·have:i=3:=by omega
      subst this
      simp [t1,t2,t3,t4,t9]
      refine cg_ex (KeysSort_ok u ks K hu.rows (by omega) (fun k hk=>by have:=keyOk_size (hcov.ok k hk); omega)) ?_
      rintro w K2 ⟨hleK,zs,hzs,hkz⟩
      have hzl:=hkz.len
      have lz:=hzs.len
      rw [<- e3] at hcov
      have hL:=listed_of (fr:=fr) (to:=to) (t:=time) hval hcov hkz
      have hle12:=hle.trans hleK
      have bK2:=hleK.2 _ _ bK
      simp [t1,t2,t3,t4,lz,hzs.slc]
      refine W_for (LiI s fr to time H H1 K2 zs w) zs.length ?_ (tC_mono AC_mono) ?_
      ·exact⟨0,.nils,by omega,by simp [t1],by simp [t2],by simp [t3],by simp [t4],by simp,by simp,by simp,by simp,HLe.refl _,OwnM.nils⟩
      clear t1 t2 t3 t4 t9 t40 t41 t42
      rintro m t K3 ⟨i,y,him,t1,t2,t3,t4,t12,t61,t62,t63,hle3,hy⟩
      simp [t1,t2,t3,t4,t12,t61,t62,t63]
      refine c_split (fun hq=>?_) (fun hq=>?_)<;>simp at hq
      ·have hw:=wrapN (i:=i) (by omega)
       obtain⟨o1,i1,ob1,rfl,x1,x2,x3⟩:=(OwnS.strs hzs).get hq
       have x1':=hle3.2 _ _ x1
       have b3:=hle3.2 _ _ bK2
       have hkz2:keyOk zs[i]=true:=((hkz.mem _).1 (List.getElem_mem hq)).2
       simp [t1,t2,t3,t4,t12,t61,t62,t63,hq,x1',x2,x3,b3]
       have cF:=find_ok (E:=E) _ s zs[i] time K3 (hs0.le ((hle1.trans hle12).trans hle3)) hb ho hkz2
       simp only [stAV] at cF
       refine cg_use cF ?_
       have ez:(zs.take (i+1)).filterMap (pickL s fr to time)=(zs.take i).filterMap (pickL s fr to time)++(pickL s fr to time zs[i]).toList:=by
        rw [List.take_succ_eq_append_getElem hq,List.filterMap_append]
        congr 1
       cases hg:getR s zs[i] time with
       | none =>
        have hp:pickL s fr to time zs[i]=none:=by unfold pickL; rw [hg]
        rw [hp] at ez
        obtain⟨G,hG⟩:∃ G:Hp,G=K3++[some ⟨[[.str ⟨#[]⟩,.int .i64 0,.bool false,.int .i64 0]],4,37,false⟩]:=⟨_,rfl⟩
        have hleG:HLe K3 G:=by rw [hG]; exact HLe.self _ _
        simp [entAV,entRow]
        simp only [<- hG]
        simp [t1,t2,t3,t4,t12,t61,t62,t63,hw]
        exact⟨m-1,by omega,i+1,y,by omega,by simp [t1],by simp [t2],by simp [t3],by simp [t4],by simp [t12],by simp [t61],by simp [t62],by simp,hle3.trans hleG,by rw [ez]; simpa using hy.le hleG⟩
       | some e =>
        have hek:=(hval.best.1 hg).key
        obtain⟨ek,ev,eg,et⟩:=e
        have hek:ek=zs[i]:=hek
        obtain⟨G,hG⟩:∃ G:Hp,G=K3++[some ⟨[[.str ek,.int .i64 ev,.bool eg,.int .i64 et]],4,37,false⟩]:=⟨_,rfl⟩
        have hleG:HLe K3 G:=by rw [hG]; exact HLe.self _ _
        have bG:G.at K3.length=some ⟨[[.str ek,.int .i64 ev,.bool eg,.int .i64 et]],4,37,false⟩:=by rw [hG]; simp
        have hyl:=List.length_filterMap_le (pickL s fr to time) (zs.take i)
        rw [List.length_take] at hyl
        simp [entAV,entRow]
        simp only [<- hG]
        have hpn:¬(eg=false/\btwK fr to zs[i]=true)->(zs.take (i+1)).filterMap (pickL s fr to time)=(zs.take i).filterMap (pickL s fr to time):=fun h=>by
         have hp:pickL s fr to time zs[i]=none:=by unfold pickL; rw [hg]; simp only; rw [if_neg h]
         rw [ez,hp]
         simp
        cases heg:eg with
        | true =>
         simp [t1,t2,t3,t4,t12,t61,t62,t63,hw]
         exact⟨m-1,by omega,i+1,y,by omega,by simp [t1],by simp [t2],by simp [t3],by simp [t4],by simp [t12],by simp [t61],by simp [t62],by simp,hle3.trans hleG,by rw [hpn (by simp [heg])]; exact hy.le hleG⟩
        | false =>
         cases hl1:sless zs[i] fr with
         | true =>
          simp [t1,t2,t3,t4,t12,t61,t62,t63,hw,hl1]
          exact⟨m-1,by omega,i+1,y,by omega,by simp [t1],by simp [t2],by simp [t3],by simp [t4],by simp [t12],by simp [t61],by simp [t62],by simp,hle3.trans hleG,by rw [hpn (by simp [btwK,hl1])]; exact hy.le hleG⟩
         | false =>
          cases hl2:sless to zs[i] with
          | true =>
           simp [t1,t2,t3,t4,t12,t61,t62,t63,hw,hl1,hl2]
           exact⟨m-1,by omega,i+1,y,by omega,by simp [t1],by simp [t2],by simp [t3],by simp [t4],by simp [t12],by simp [t61],by simp [t62],by simp,hle3.trans hleG,by rw [hpn (by simp [btwK,hl1,hl2])]; exact hy.le hleG⟩
          | false =>
           subst heg
           have hp:pickL s fr to time zs[i]=some ⟨ek,ev,false,et⟩:=by unfold pickL; rw [hg]; simp [btwK,hl1,hl2]
           rw [hp] at ez
           simp [t1,t2,t3,t4,t12,t61,t62,t63,hw,hl1,hl2,bG]
           refine appG_add (y:=⟨ek,ev,false,et⟩) (row:=entRow) (bytes:=40) (H0:=K2) (hy.le hleG) (hle3.trans hleG) (by omega) rfl (fun v2 K4 g1 g2 g3 g4=>?_)
           simp [t1,t2,t3,t4,t12,t61,t62,t63,hw]
           exact⟨m-1,by omega,i+1,v2,by omega,by simp [t1],by simp [t2],by simp [t3],by simp [t4],by simp,by simp [t61],by simp [t62],by simp,g1,by rw [ez]; exact g2⟩
      ·have:i=zs.length:=by omega
       subst this
       rw [List.take_length] at hy
       simp [t12]
       exact⟨(hle1.trans hle12).trans hle3,_,hy.base (by have:=(hle1.trans hle12).1; omega),by unfold ListOf; rw [if_pos ⟨ho,hf,ht,hk⟩]; exact hL,by have:=List.length_filterMap_le (pickL s fr to time) zs; have:=hcov.len; omega⟩
end Go.Proofs.YtdncpcghiooeoaaGreat.B

namespace Go.Proofs.YtdncpcghiooeoaaGreat.B
open Go.RowKit Go.Proofs
set_option linter.unusedVariables false
set_option linter.unusedSimpArgs false
variable {E:Env}
end Go.Proofs.YtdncpcghiooeoaaGreat.B

namespace Go.Proofs.YtdncpcghiooeoaaGreat.B
open Go.RowKit Go.Proofs
set_option linter.unusedVariables false
set_option linter.unusedSimpArgs false
variable {E:Env}
theorem St.ints {H:Hp} {a b c d:AV} {k t:Int} {s:Sr} (h:St H (.ag [a,b,c,.int .i64 k,.int .i64 t,d]) s):Ints H d s.tms:=by
 obtain⟨a1,b1,c1,d1,lr,sr,e,_,_,_,_,_,hd⟩:=h
 simp only [stAV,AV.ag.injEq,List.cons.injEq,and_true,true_and] at e
 obtain⟨rfl,rfl,rfl,_,_,rfl⟩:=e
 exact hd
theorem St.put6 {H K:Hp} {o:Nat} {a b c d:AV} {s:Sr} {R:List (List AV)} (hle:HLe H K) (ho:H.length<=o) (hb:K.at o=some ⟨R,6,28,false⟩) (hs:St K (.ag [a,b,c,.int .i64 s.keep,.int .i64 s.time,d]) s) (X:Option Ob) :
  HLe H (List.set K o X)/\St (List.set K o X) (.ag [a,b,c,.int .i64 s.keep,.int .i64 s.time,d]) s:=by
 have F:=Fr.one K o X
 refine⟨hle.fr_le F (fun x hx=>by omega),hs.frE F (e:=6) (by simp) (fun y ob hy hob=>?_)⟩
 rw [hy,hb] at hob
 cases hob
 rfl
end Go.Proofs.YtdncpcghiooeoaaGreat.B

namespace Go.Proofs.YtdncpcghiooeoaaGreat.B
open Go.RowKit Go.Proofs
set_option linter.unusedVariables false
set_option linter.unusedSimpArgs false
variable {E:Env}
set_option maxHeartbeats 1600000 in
theorem l71Time_ok (o N:Nat) (v:AV) (s:Sr) (H:Hp) (hr:Rd H o N) (hN:N<34359738368) (hs:St H v s) (hB:StB s) :
  AC Tryz.prog E 13 [.pt o 0 0,v] H (fun u H'=>∃ n,u=.int .i64 n/\Dr o H H'/\Rd H' o (N+2)):=by
 obtain⟨a,b,c,d,rfl,n1,n2,n3,n4,_⟩:=hs.shape
 refine AC_by fol (tC_le tab2_ok) h_spec_l71Time ?_
 obtain⟨H1,hH1⟩:∃ H1:Hp,H1=H++[some ⟨[[a,b,c,.int .i64 s.keep,.int .i64 s.time,d]],6,28,false⟩]:=⟨_,rfl⟩
 have hle1:HLe H H1:=by rw [hH1]; exact HLe.self _ _
 have b0:H1.at H.length=some ⟨[[a,b,c,.int .i64 s.keep,.int .i64 s.time,d]],6,28,false⟩:=by rw [hH1]; simp
 have hol:=hr.lt
 have hne:¬H.length=o:=by omega
 have hr1:=hr.le hle1
 have hs1:=hs.le hle1
 have hd:=hs1.ints
 have ld:=hd.len
 have hnl:s.tms.length<1099511627776:=hB.2.2.2.2.1
 simp [c_spec_l71Time,n1,n2,n3,n4,<- hH1,b0,ld,hd.slc]
 by_cases hl:0<s.tms.length
 ·have hlI:(0:Int)<s.tms.length:=by omega
  simp [hl,hlI]
  refine cg_ex (pick_ok o N 2 H1 hr1 (by omega) (by omega)) ?_
  rintro v H2 ⟨n,rfl,hn,hd2,hr2,_⟩
  have b2:=hd2.2 _ _ hne b0
  have hs2:=hs1.frE hd2 (e:=2) (by simp) hr1.e2
  have hdd:=hs2.ints
  have ldd:=hdd.len
  simp
  refine c_split (fun hq=>?_) (fun hq=>?_)<;>simp at hq
  ·simp [b2,ldd,hdd.slc]
   refine cg_ex (pick_ok o _ _ H2 hr2 (by omega) (by omega)) ?_
   rintro v H3 ⟨j,rfl,hj,hd3,hr3,_⟩
   have b3:=hd3.2 _ _ hne b2
   have hs3:=hs2.frE hd3 (e:=2) (by simp) hr2.e2
   have hj':j<s.tms.length:=by omega
   obtain⟨o1,i1,ob1,hsl,x1,x2,x3⟩:=hs3.ints.get hj'
   subst hsl
   simp [b3,x1,x2,x3,hj']
   exact⟨((hle1.fr (S:=fun x=>x=o)).same hd2).same hd3,Rd.mono hr3 (by omega)⟩
  ·simp [b2]
   refine cg_ex (pick_ok o _ 8 H2 hr2 (by omega) (by omega)) ?_
   rintro v H3 ⟨j,rfl,hj,hd3,hr3,_⟩
   have b3:=hd3.2 _ _ hne b2
   simp [b3]
   exact⟨((hle1.fr (S:=fun x=>x=o)).same hd2).same hd3,Rd.mono hr3 (by omega)⟩
 ·have hlI:¬(0:Int)<s.tms.length:=by omega
  simp [hl,hlI,b0]
  refine cg_ex (pick_ok o _ 8 H1 hr1 (by omega) (by omega)) ?_
  rintro v H3 ⟨j,rfl,hj,hd3,hr3,_⟩
  have b3:=hd3.2 _ _ hne b0
  simp [b3]
  exact⟨(hle1.fr (S:=fun x=>x=o)).same hd3,Rd.mono hr3 (by omega)⟩
set_option maxHeartbeats 1600000 in
theorem DrawStoreGet_ok (c:AV) (bs:List Int) (H:Hp) (hc:Bytes H c bs) (hn:bs.length<4611686018427387904) :
  AC Tryz.prog E 4 [c] H (fun v H'=>DrawnK H H' v):=by
 refine AC_by fol (tC_le tab2_ok) h_spec_DrawStoreGet ?_
 obtain⟨H1,hH1⟩:∃ H1:Hp,H1=H++[some ⟨[[.nils,.nils,.nils,.int .i64 0,.int .i64 0,.nils]],6,28,false⟩]:=⟨_,rfl⟩
 have hle1:HLe H H1:=by rw [hH1]; exact HLe.self _ _
 have b1:H1.at H.length=some ⟨[[.nils,.nils,.nils,.int .i64 0,.int .i64 0,.nils]],6,28,false⟩:=by rw [hH1]; simp
 simp [c_spec_DrawStoreGet,<- hH1]
 refine cg_ex (l6Open_ok c bs H1 ⟨hc.1.le hle1,hc.2⟩ hn) ?_
 rintro v H2 ⟨r,rfl,ho,hle2,hr2⟩
 have hol:=hr2.lt
 have lH:H.length<H1.length:=Hp.at_lt b1
 have b2:=hle2.2 _ _ b1
 simp
 refine cg_ex (l71Spoilt_ok r 0 H2 hr2 (by omega)) ?_
 rintro w H3 ⟨s,hs,hsb,hsp,hd3,hr3⟩
 obtain⟨xa,xb,xc,xd,rfl,n1,n2,n3,n4,_⟩:=hs.shape
 have b3:=hd3.2 _ _ (show ¬H.length=r by omega) b2
 have hle3:HLe H H3:=(hle1.trans hle2).fr_le hd3 (fun x hx=>by omega)
 obtain⟨H4,hH4⟩:∃ H4:Hp,H4=H3++[some ⟨[[xa,xb,xc,.int .i64 s.keep,.int .i64 s.time,xd]],6,28,false⟩]:=⟨_,rfl⟩
 obtain⟨hle4,c4,hs4⟩:=hs.box hH4
 have b4:=hle4.2 _ _ b3
 have hr4:=hr3.le hle4
 have hle14:=hle3.trans hle4
 have l34:=Hp.at_lt c4
 have l3:=hd3.len
 simp [n1,n2,n3,n4,<- hH4,c4]
 refine cg_ex (l71Of_ok r _ _ s H4 hr4 (by omega) hs4 hsp) ?_
 rintro v H5 ⟨k,rfl,hk,hd5,hr5⟩
 have b5:=hd5.2 _ _ (show ¬H.length=r by omega) b4
 have c5:=hd5.2 _ _ (show ¬H3.length=r by omega) c4
 have hs5:=hs4.frE hd5 (e:=2) (by simp) hr4.e2
 have hle15:=hle14.fr_le hd5 (fun x hx=>by omega)
 simp [c5]
 refine cg_ex (l71Time_ok r _ _ s H5 hr5 (by omega) hs5 hsb) ?_
 rintro v H6 ⟨n,rfl,hd6,hr6⟩
 have b6:=hd6.2 _ _ (show ¬H.length=r by omega) b5
 have c6:=hd6.2 _ _ (show ¬H3.length=r by omega) c5
 have hs6:=hs5.frE hd6 (e:=2) (by simp) hr5.e2
 have hle16:=hle15.fr_le hd6 (fun x hx=>by omega)
 have u6:=Hp.at_lt b6
 simp [c6,b6,u6,n1,n2,n3,n4,Hp.at_set]
 obtain⟨z1,z2⟩:=hs6.put6 hle16 (Nat.le_refl _) b6 (some ⟨[[xa,xb,xc,.int .i64 s.keep,.int .i64 s.time,xd]],6,28,false⟩)
 exact⟨_,s,_,_,rfl,z1,z2,hsb,hsp,hk⟩
end Go.Proofs.YtdncpcghiooeoaaGreat.B

namespace Go.Proofs.YtdncpcghiooeoaaGreat.B
open Go.RowKit Go.Proofs
set_option linter.unusedVariables false
set_option linter.unusedSimpArgs false
theorem gotR_zero {s:Sr} (hv:storeOk s=true->Val s) {k:ByteArray} {t:Int} (h:(gotR s k t).2=false):(gotR s k t).1=0:=by
 unfold gotR at h ⊢
 split at h
 ·rename_i hc
  rw [if_pos hc] at *
  have hs:=hv hc.1
  cases hg:getR s k t with
  | none=>rfl
  | some e =>
   rw [hg] at h
   have he:=hs.best.1 hg
   have h2:e.gone=true:=by simpa using h
   exact entOk_gone (hs.ent e he.mem) h2
 ·rename_i hc
  rw [if_neg hc]
theorem btw_one {k x:ByteArray}:btwK k k x=true↔x=k:=by
 unfold btwK
 simp only [Bool.and_eq_true,Bool.not_eq_true']
 constructor
 ·rintro ⟨h1,h2⟩
  rcases sless_total x k with h | h | h
  ·rw [h1] at h
   cases h
  ·exact h
  ·rw [h2] at h
   cases h
 ·rintro rfl
  exact⟨sless_irrefl _,sless_irrefl _⟩
def gotE (o:Option Ent):Int × Bool:=match o with
 | some e=>(e.val,!e.gone)
 | none=>(0,false)
theorem list_one {s:Sr} (hs:Val s) {k:ByteArray} {t:Int} {out:List Ent} (hk:keyOk k=true) (h:ListOf s k k t out):((gotR s k t).2=false/\out=[])\/∃ e:Ent,out=[e]/\e.key=k/\(gotR s k t)=(e.val,true):=by
 unfold ListOf at h
 by_cases hn:knownR s t=true
 ·rw [if_pos ⟨hs.ok,hk,hk,hn⟩] at h
  have hg0:gotR s k t=gotE (getR s k t):=by
   unfold gotR gotE
   rw [if_pos ⟨hs.ok,hk,hn⟩]
   cases getR s k t<;>rfl
  have hin:∀ e,e∈out↔getR s k t=some e/\e.gone=false:=by
   intro e
   rw [h.mem,btw_one,hs.best]
   constructor
   ·rintro ⟨h1,h2,h3⟩
    rw [h3] at h1
    exact⟨h1,h2⟩
   ·rintro ⟨h1,h2⟩
    have h3:=h1.key
    rw [h3]
    exact⟨h1,h2,rfl⟩
  cases hg:getR s k t with
  | none =>
   left
   rw [hg] at hg0
   refine⟨by rw [hg0]; rfl,List.eq_nil_iff_forall_not_mem.2 (fun e he=>?_)⟩
   have:=(hin e).1 he
   rw [hg] at this
   cases this.1
  | some e =>
   rw [hg] at hg0
   cases hgo:e.gone with
   | true =>
    left
    refine⟨by rw [hg0]; simp [gotE,hgo],List.eq_nil_iff_forall_not_mem.2 (fun f hf=>?_)⟩
    have:=(hin f).1 hf
    rw [hg] at this
    have h2:=Option.some.inj this.1
    rw [<- h2,hgo] at this
    cases this.2
   | false =>
    right
    refine⟨e,asc_ext h.asc (List.pairwise_singleton _ _) (fun f=>?_),(hs.best.1 hg).key,by rw [hg0]; simp [gotE,hgo]⟩
    rw [hin,hg,List.mem_singleton]
    constructor
    ·rintro ⟨h1,_⟩
     exact (Option.some.inj h1).symm
    ·rintro rfl
     exact⟨rfl,hgo⟩
 ·rw [if_neg (fun hc=>hn hc.2.2.2)] at h
  left
  refine⟨?_,h⟩
  unfold gotR
  rw [if_neg (fun hc=>hn hc.2.2)]
end Go.Proofs.YtdncpcghiooeoaaGreat.B

namespace Go.Proofs.YtdncpcghiooeoaaGreat.B
open Go.RowKit Go.Proofs
set_option linter.unusedVariables false
set_option linter.unusedSimpArgs false
variable {E:Env}
set_option maxHeartbeats 3200000 in
theorem lawStoreGet_ok (c:AV) (bs:List Int) (H:Hp) (hc:Bytes H c bs) (hn:bs.length<4611686018427387904) :
  AC Tryz.prog E 3 [c] H (fun v H'=>v=.bool true):=by
 refine AC_by fol (tC_le tab2_ok) h_laws_FnStoreGet ?_
 have l1:=hc.len
 simp [c_laws_FnStoreGet,l1,hc.1.slc]
 by_cases q1:1048576<bs.length
 ·have q1I:(1048576:Int)<bs.length:=by omega
  simp [q1,q1I]
 have q1I:¬(1048576:Int)<bs.length:=by omega
 simp [q1,q1I]
 refine cg_ex (DrawStoreGet_ok c bs H hc hn) ?_
 rintro v H1 ⟨w,s,k,n,rfl,hle1,hs,hsb,hsp,hk⟩
 obtain⟨xa,xb,xc,xd,rfl,n1,n2,n3,n4,_⟩:=hs.shape
 obtain⟨H2,hH2⟩:∃ H2:Hp,H2=H1++[some ⟨[[xa,xb,xc,.int .i64 s.keep,.int .i64 s.time,xd]],6,28,false⟩]:=⟨_,rfl⟩
 obtain⟨hle2,b2,hs2⟩:=St.box hs hH2
 have hkey:∀ {C:CallP} {d:Option Nat} {ag} {p:Plan} {t:Tm} {H:Hp} {K:Tm->Hp->Prop},_:=@fun C d ag p t H K=>tab2_key C d ag p t H K k (by omega)
 simp [n1,n2,n3,n4,<- hH2,b2]
 refine cg_use (StoreGet_ok _ s k n H2 hs2 hsb (by omega)) ?_
 simp [b2]
 refine cg_use (implStoreGet_ok _ s k n H2 hs2 hsb (by omega)) ?_
 have hz:(if (gotR s k n).2=true then (gotR s k n).1 else 0)=(gotR s k n).1:=by
  cases h:(gotR s k n).2 with
  | true=>rfl
  | false=>rw [gotR_zero hsp.val h]; rfl
 rw [hz]
 rcases hgot:gotR s k n with ⟨gv,gb⟩
 simp [b2]
 refine cg_use (StoreOk_ok _ s H2 hs2 hsb) ?_
 cases ho:storeOk s with
 | false=>simp
 | true =>
  have hval:=hsp.val ho
  cases hko:keyOk k with
  | false=>simp [hkey,hko]
  | true =>
   simp [hkey,hko,b2]
   refine cg_ex (StoreList_ok _ s k k n H2 hs2 hsb (fun _=>hval) (by omega) (by omega)) ?_
   rintro u K ⟨hleK,out,hu,hL,hl⟩
   have hone:=list_one hval hko hL
   rw [hgot] at hone
   have lu:=hu.len
   rcases hone with ⟨h1,rfl⟩ | ⟨e,rfl,hek,hg⟩
   ·simp only at h1
    simp [h1,lu,hu.slc]
   ·obtain⟨rfl,rfl⟩:=Prod.mk.inj hg
    obtain⟨o1,i1,ob1,hsl,x1,x2,x3⟩:=hu.ents.get (j:=0) (by simp)
    simp only [List.length_singleton] at lu hsl
    subst hsl
    simp only [List.getElem_cons_zero,Nat.add_zero] at x3
    simp [lu,x1,x2,x3,hek]
end Go.Proofs.YtdncpcghiooeoaaGreat.B

/- A part of the proof: The reference finds a key in a store. The program's past, alone and with what is written; a new store. The reference's draws: deeds. The reference's stores: a new one. The reference's draws: stores. The reference's draws: stores. Stores that are drawn, and spoilt; runs and stores are compared. Stores that are spoilt. Stores are compared. Stores are compared, whole. What changes nothing may be left out, in plain Lean. Deeds that change something. A store and deeds are drawn. Stores, keys and values that are drawn. The law FnStorePutOther. The program's StoreList. The laws' ltPast: two stores, listed at some times. Stores that are drawn, and times of theirs. Times that are drawn; stores, keys and times. What is found is what is listed alone: in plain Lean. The law FnStoreSieve. The reference's sieve: whether it may have keys between two. A sieve that may have a key meets what begins with it: in plain Lean. What is kept stays, whatever is done: in plain Lean. What deeds leave of what is found and listed: in plain Lean. Keys that are drawn are keys. Stores, two keys and times that are drawn; what is listed between: in plain Lean. The law FnStoreSpans. There is no condition. -/
import Derived.Test.YtgoeenodllmdpaaGreatM0
import Derived.Test.YtgoeenodllmdpaaGreatM1
import Derived.Test.YtgoeenodllmdpaaGreatM2
import Derived.Test.YtgoeenodllmdpaaGreatM3
import Derived.Test.YtgoeenodllmdpaaGreatM4
namespace Go.Proofs.YtgoeenodllmdpaaGreat.B
open Go.RowKit Go.Proofs
set_option linter.unusedVariables false
set_option linter.unusedSimpArgs false
variable {E:Env}
set_option maxHeartbeats 1600000 in
theorem SieveHas_ok (ks:List ByteArray) (keep:Int) (r:AV) (k:ByteArray) (H:Hp) (hk:keysOk ks=true) (hkp:0<=keep/\keep<=5) (hr:Strs H r (sieveR ks keep).r) (hkk:keyOk k=true) :
  AC Tryz.prog E 186 [svAV (sieveR ks keep) r,.str k] H (fun v H'=>v=.bool (hasR ks keep k)/\H'=H):=by
 refine AC_byp (tC_le tab2_ok) h_spec_SieveHas (by simp) ?_
 obtain⟨F,L,h⟩:=Svt.of hk hkp
 have hks:=keyOk_size hkk
 have hkey:∀ {C:CallP} {d:Option Nat} {ag} {p:Plan} {t:Tm} {H:Hp} {K:Tm->Hp->Prop},_:=@fun C d ag p t H K=>tab2_key C d ag p t H K k (by omega)
 have cO:∀ K,HLe H K->_:=fun K hK=>SieveOk_ok (E:=E) ks keep r K hk hkp (hr.le hK)
 obtain⟨s,hs⟩:∃ s,s=sieveR ks keep:=⟨_,rfl⟩
 rw [<- hs] at h hr ⊢
 simp only [<- hs] at cO
 obtain⟨H1,hH1,hle1,b0⟩:=svBox s r H
 have hr1:=Rows.one hr
 have hls:=h.ls
 have hll:=h.len
 simp only [svAV] at cO
 simp [c_spec_SieveHas,svAV,hr1,<- hH1,b0]
 refine cg_use (cO H1 hle1) ?_
 simp [hkey,hkk,b0,hls]
 by_cases hke:ks=[]
 ·have hL:=h.tr.z hke
  have hL0:L.length=0:=by rw [hL]; rfl
  have e2:hasR ks keep k=false:=by
   unfold hasR
   rw [hke,hasF,brs]
   rfl
  simp [hL,e2,hle1]
 have hL0:L.length≠0:=fun e=>by
  obtain⟨a,_,_,p2,p3,_⟩:=h.tr.place hke (j:=0) (d:=0) (ks':=ks) (by rw [h.tr.f]; rfl)
  omega
 have hL0I:¬(L.length:Int)=0:=by omega
 have cW:=l3Walk_ok (E:=E) s r k ks keep F L H1 h hke hr1 hkk
 simp only [svAV] at cW
 have hLne:L≠[]:=fun e=>hL0 (by rw [e]; rfl)
 simp [hLne,b0]
 refine cg_ex cW ?_
 rintro v H2 ⟨hle2,hv⟩
 have hleA:=hle1.trans hle2
 have b2:=hle2.2 _ _ b0
 rcases hv with ⟨rfl,hR⟩ | ⟨p,d,x,hp,rfl,hm,hrst,hltr,hR⟩
 ·simp [hR,hleA]
 ·have hrs:=h.rs hp hm
  rw [hrst] at hrs
  have hlt:=h.lt hp
  rw [hltr] at hlt
  have hcn:=count_not (L.map Br.many) p (by rw [List.length_map]; omega)
  have hwk:(decide (letter x d=45)||decide (((restK x (d+1) keep).size:Int)<s.k))=wholeK x d keep:=by rw [h.en.k]; rfl
  have cC:=l3Whole_ok (E:=E) s r (L.map Br.many) p H2 (hr.le hleA) h.bm (by rw [List.length_map]; omega) (by rw [List.length_map]; omega) (by rw [List.length_map]; exact hls) _ hrs _ hlt
  rw [hwk] at cC
  have c1:=l1Ones_ok (E:=E) s.m (L.map Br.many) p H2 h.bm (by rw [List.length_map]; omega) (by omega)
  obtain⟨n1,hn1⟩:∃ n1,n1=((L.map Br.many).take p).countP id:=⟨_,rfl⟩
  obtain⟨n2,hn2⟩:∃ n2,n2=((L.map Br.many).take p).countP (fun x=>!x):=⟨_,rfl⟩
  rw [<- hn1] at c1 hcn
  rw [<- hn2] at hcn hrs
  obtain⟨hnl,hxe⟩:=List.getElem?_eq_some_iff.1 hrs
  obtain⟨o1,i1,ob1,hrr,y1,y2,y3⟩:=Strs.get (hr.le hleA) hnl
  rw [hxe] at y3
  have hw15:IntKind.i64.wrap ((p:Int)-(n1:Int))=(n2:Int):=by rw [wrap64 (by omega) (by omega)]; omega
  have hxs:(restK x (d+1) keep).size<1000:=by
   unfold restK
   rw [ByteArray.size_extract]
   omega
  obtain⟨e,he⟩:∃ e:Nat,e=min (d+1) k.size:=⟨_,rfl⟩
  have het:k.extract e k.size=tailK k d:=by unfold tailK; rw [he]
  have hts:(tailK k d).size<=k.size:=by rw [<- het,ByteArray.size_extract]; omega
  unfold leafHas at hR
  simp only [svAV] at cC
  subst hrr
  rw [<- he]
  simp [b2]
  refine cg_use c1 ?_
  simp [b2,hw15,y1,y2,y3,hnl]
  refine cg_use cC ?_
  cases hwh:wholeK x d keep with
  | true =>
   rw [hwh,if_pos rfl] at hR
   simp [het,hleA,hR]
   omega
  | false =>
   rw [hwh] at hR
   simp only [Bool.false_eq_true,if_false] at hR
   simp [het]
   refine⟨by omega,?_⟩
   refine cg_use (sBegins_ok _ _ H2 (by omega) (by omega)) ?_
   simp [hleA,hR]
def LkI (s:Sr) (time:Int) (L:Nat) (H:Hp) (m:Nat) (t:Tm) (H':Hp):Prop:=∃ i:Nat,i+m=s.tms.length/\t 1=.int .i64 time/\t 2=.pt L 0 0/\t 5=.bool (decide (time=s.time)||decide (time∈s.tms.take i))/\t 6=.int .i64 i/\H'=H
theorem l12Known_ok (v:AV) (s:Sr) (time:Int) (H:Hp) (hs:St H v s) (hn:s.tms.length<1099511627776) :
  AC Tryz.prog E 113 [v,.int .i64 time] H (fun u H'=>u=.bool (knownR s time)/\H'=H):=by
 obtain⟨a,b,c,d,rfl,n1,n2,n3,n4,ha,hd⟩:=hs.shape
 refine AC_byp (tC_le tab2_ok) h_spec_l12Known (by simp) ?_
 obtain⟨H1,hH1⟩:∃ H1:Hp,H1=H++[some ⟨[[a,b,c,.int .i64 s.keep,.int .i64 s.time,d]],6,28,false⟩]:=⟨_,rfl⟩
 have hle1:HLe H H1:=by rw [hH1]; exact HLe.self _ _
 have b0:H1.at H.length=some ⟨[[a,b,c,.int .i64 s.keep,.int .i64 s.time,d]],6,28,false⟩:=by rw [hH1]; simp
 have ld:=hd.len
 simp [c_spec_l12Known,stAV,n1,n2,n3,n4,<- hH1,b0]
 refine W_for (LkI s time H.length H1) s.tms.length ?_ (tC_mono AC_mono) ?_
 ·exact⟨0,by simp,by simp,by simp,by simp,by simp,rfl⟩
 rintro m t H' ⟨i,him,t1,t2,t5,t6,rfl⟩
 simp [t1,t2,t5,t6,b0,ld,hd.slc]
 refine c_split (fun hq=>?_) (fun hq=>?_)<;>simp at hq
 ·have hi:i<s.tms.length:=by omega
  have hw:=wrapN (i:=i) (by omega)
  obtain⟨o1,i1,ob1,rfl,x1,x2,x3⟩:=(Ints.le hd hle1).get hi
  have hst:decide (time∈s.tms.take (i+1))=(decide (time∈s.tms.take i)||decide (s.tms[i]=time)):=by
   rw [Bool.eq_iff_iff]
   simp only [decide_eq_true_eq,Bool.or_eq_true]
   rw [List.take_succ_eq_append_getElem hi,List.mem_append,List.mem_singleton]
   exact or_congr Iff.rfl ⟨Eq.symm,Eq.symm⟩
  cases hc:(decide (time=s.time)||decide (time∈s.tms.take i)) with
  | true =>
   rw [hc] at t5
   simp [t1,t2,t5,t6,hw]
   refine⟨m-1,by omega,i+1,by omega,by simp [t1],by simp [t2],?_,by simp,rfl⟩
   rw [hst,<- Bool.or_assoc,hc]
   simp
  | false =>
   rw [hc] at t5
   simp [t1,t2,t5,t6,hw,b0,x1,x2,x3,hi]
   refine⟨m-1,by omega,i+1,by omega,by simp [t1],by simp [t2],?_,by simp,rfl⟩
   rw [hst,<- Bool.or_assoc,hc]
   simp
 ·have:i=s.tms.length:=by omega
  subst this
  rw [List.take_length] at t5
  simp [t5,hle1,knownR]
def LgI (s:Sr) (a b c d:AV) (k:ByteArray) (time:Int) (H:Hp) (m:Nat) (t:Tm) (K:Hp):Prop:=∃ (i:Nat) (ra rb rc rd:AV),i+m=3/\t 1=.str k/\t 2=.int .i64 time/\t 3=.pt H.length 0 0/\t 6=.pt (H.length+1) 0 0/\t 8=.pt (H.length+2) 0 0/\t 10=.int .i64 i/\(s.lev.drop i).findSome? (atR k time)=getR s k time/\HLe H K /\
 K.at H.length=some ⟨[[a,b,c,.int .i64 s.keep,.int .i64 s.time,d]],6,28,false⟩/\K.at (H.length+1)=some ⟨[[.str ⟨#[]⟩,.int .i64 0,.bool false,.int .i64 0]],4,99,false⟩/\K.at (H.length+2)=some ⟨[[ra,rb,rc,rd]],4,99,false⟩
set_option maxHeartbeats 1600000 in
theorem l12Get_ok (v:AV) (s:Sr) (k:ByteArray) (time:Int) (H:Hp) (hs:St H v s) (hb:StB s) (ho:storeOk s=true) (hk:keyOk k=true) :
  AC Tryz.prog E 114 [v,.str k,.int .i64 time] H (fun u H'=>u=.tu (entAV (getR s k time))/\H'=H):=by
 have hst:=hs
 obtain⟨a,b,c,d,lr,sr,rfl,ha,hb1,hlr,hc,hsr,hd⟩:=hs
 obtain⟨hB1,hB2,hB3,hB4,hB5,hB6,hB7,hB8,hB9⟩:=hb
 have hsm:=storeOk_small ho
 have e3:s.lev.length=3:=hsm.2.2.2.2.2.2.2.1
 have s3:s.sv.length=3:=hsm.2.2.2.2.2.2.2.2
 have ll:=hlr.length
 have ls:=hsr.length
 have l1:=hb1.len
 rw [ll,e3] at l1
 have hplain:(AV.tu (entAV (getR s k time))).plain=true:=by unfold entAV; split<;>simp [entRow]
 refine AC_byp (tC_le tab2_ok) h_spec_l12Get hplain ?_
 obtain⟨H1,hH1⟩:∃ H1:Hp,H1=H++[some ⟨[[a,b,c,.int .i64 s.keep,.int .i64 s.time,d]],6,28,false⟩,some ⟨[[.str ⟨#[]⟩,.int .i64 0,.bool false,.int .i64 0]],4,99,false⟩]:=⟨_,rfl⟩
 have hle1:HLe H H1:=by rw [hH1]; exact HLe.self _ _
 have b0:H1.at H.length=some ⟨[[a,b,c,.int .i64 s.keep,.int .i64 s.time,d]],6,28,false⟩:=by rw [hH1]; simp
 have b1:H1.at (H.length+1)=some ⟨[[.str ⟨#[]⟩,.int .i64 0,.bool false,.int .i64 0]],4,99,false⟩:=by rw [hH1]; simp
 have lH1:H1.length=H.length+2:=by rw [hH1]; simp
 have u1:=Hp.at_lt b1
 simp [c_spec_l12Get,stAV,Rows.one ha,hb1.one,hc.one,Rows.one hd,<- hH1,b0]
 refine cg_use (l11At_ok a s.top k time H1 (ha.le hle1) (by have:=hB1.1; omega)) ?_
 cases ht:atR k time s.top with
 | some e =>
  have hg:getR s k time=some e:=by unfold getR; rw [List.findSome?_cons,ht]
  rw [hg]
  obtain⟨ek,ev,eg,et⟩:=e
  simp [entAV,entRow,b1,u1,Hp.at_app,Hp.at_set,set_in',at_in]
  exact (hle1.set (by omega) _).app _
 | none =>
  have hg:s.lev.findSome? (atR k time)=getR s k time:=by unfold getR; rw [List.findSome?_cons,ht]
  obtain⟨G,hG⟩:∃ G:Hp,G=H1++[some ⟨[[.str ⟨#[]⟩,.int .i64 0,.bool false,.int .i64 0]],4,99,false⟩]:=⟨_,rfl⟩
  have hleG:HLe H1 G:=by rw [hG]; exact HLe.self _ _
  have g0:=hleG.2 _ _ b0
  have g1:=hleG.2 _ _ b1
  have g2:G.at (H.length+2)=some ⟨[[.str ⟨#[]⟩,.int .i64 0,.bool false,.int .i64 0]],4,99,false⟩:=by rw [hG,<- lH1]; simp
  simp [entAV,entRow]
  simp only [<- hG]
  refine W_for (LgI s a b c d k time H) 3 ?_ (tC_mono AC_mono) ?_
  ·exact⟨0,_,_,_,_,by omega,by simp,by simp,by simp,by simp,by simp [lH1],by simp,by simpa using hg,hle1.trans hleG,g0,g1,g2⟩
  rintro m t H' ⟨i,ra,rb,rc,rd,him,t1,t2,t3,t6,t8,t10,hP,hle,c0,c1,c2⟩
  simp [t1,t2,t3,t6,t8,t10,c0,l1,hb1.slc]
  refine c_split (fun hq=>?_) (fun hq=>?_)<;>simp at hq
  ·have hi3:i<3:=by omega
   have hil:i<s.lev.length:=by omega
   have his:i<s.sv.length:=by omega
   have hiI:(i:Int)<3:=by omega
   have hw:=wrapN (i:=i) (by omega)
   obtain⟨o1,i1,ob1,rfl,x1,x2,x3⟩:=hb1.get (j:=i) (by omega)
   obtain⟨u,hu,hue⟩:=hlr.get i (by omega) hil
   rw [hu] at x3
   obtain⟨o2,i2,ob2,rfl,y1,y2,y3⟩:=hc.get (j:=i) (by omega)
   obtain⟨r,hr,hrs,_⟩:=hsr.get i (by omega) his
   rw [hr] at y3
   have x1':=hle.2 _ _ x1
   have y1':=hle.2 _ _ y1
   have q1:i<lr.length:=by omega
   have q2:i<sr.length:=by omega
   have hso:=storeOk_level ho hi3 hil his
   obtain⟨v1,v2,v3,v4⟩:=sieveO_some hso
   simp [t1,t2,t3,t6,t8,t10,c0,x1',x2,x3,y1',y2,y3,q1,q2]
   have cH:=SieveHas_ok (E:=E) (keysR s.lev[i]) s.keep r k H' v1 ⟨v2,v3⟩ (by rw [<- v4]; exact hrs.le hle) hk
   rw [<- v4] at cH
   simp only [svAV] at cH
   refine cg_use cH ?_
   rw [findSome_drop hil] at hP
   cases hh:hasR (keysR s.lev[i]) s.keep k with
   | false =>
    rw [hidden hso hh,Option.none_or] at hP
    simp [t1,t2,t3,t6,t8,t10,hw]
    exact⟨m-1,by omega,i+1,ra,rb,rc,rd,by omega,by simp [t1],by simp [t2],by simp [t3],by simp [t6],by simp [t8],by simp,hP,hle,c0,c1,c2⟩
   | true =>
    simp [t1,t2,t3,t6,t8,t10,c0,x1',x2,x3,q1]
    refine cg_use (l11At_ok u s.lev[i] k time H' (hue.le hle) (by have:=(hB2 _ (List.getElem_mem hil)).1; omega)) ?_
    have w1:=Hp.at_lt c1
    have w2:=Hp.at_lt c2
    have ne12:H.length+1≠H.length+2:=by omega
    cases hat:atR k time s.lev[i] with
    | some e =>
     rw [hat,Option.some_or] at hP
     rw [<- hP]
     obtain⟨ek,ev,eg,et⟩:=e
     simp [entAV,entRow,t1,t2,t3,t6,t8,t10,c1,c2,w1,w2,Hp.at_set,Hp.at_set_ne,ne12,ne12.symm]
     exact HLe.set (HLe.set hle (show H.length<=H.length+2 by omega) _) (show H.length<=H.length+1 by omega) _
    | none =>
     rw [hat,Option.none_or] at hP
     simp [entAV,entRow,t1,t2,t3,t6,t8,t10,c1,c2,w1,w2,hw,Hp.at_set]
     have F:=Fr.one H' (H.length+2) (some ⟨[[.str ⟨#[]⟩,.int .i64 0,.bool false,.int .i64 0]],4,99,false⟩)
     exact⟨m-1,by omega,i+1,_,_,_,_,by omega,by simp [t1],by simp [t2],by simp [t3],by simp [t6],by simp [t8],by simp,hP,hle.set (by omega) _,F.2 _ _ (by omega) c0,F.2 _ _ (by omega) c1,Hp.at_set _ w2⟩
  ·have:i=3:=by omega
   subst this
   rw [List.drop_of_length_le (by omega)] at hP
   rw [<- hP]
   have w1:=Hp.at_lt c1
   simp [entAV,entRow,t1,t2,t3,t6,t8,t10,c1,w1,Hp.at_set]
   exact hle.set (by omega) _
theorem StoreGet_ok (v:AV) (s:Sr) (k:ByteArray) (time:Int) (H:Hp) (hs:St H v s) (hb:StB s) (hk:k.size<4611686018427387904) :
  AC Tryz.prog E 40 [v,.str k,.int .i64 time] H (fun u H'=>u=.tu [.int .i64 (if (gotR s k time).2=true then (gotR s k time).1 else 0),.bool (gotR s k time).2]/\H'=H):=by
 have hs0:=hs
 obtain⟨a,b,c,d,rfl,n1,n2,n3,n4,_,_⟩:=hs.shape
 refine AC_byp (tC_le tab2_ok) h_spec_StoreGet (by simp) ?_
 obtain⟨H1,hH1⟩:∃ H1:Hp,H1=H++[some ⟨[[a,b,c,.int .i64 s.keep,.int .i64 s.time,d]],6,28,false⟩]:=⟨_,rfl⟩
 have hle1:HLe H H1:=by rw [hH1]; exact HLe.self _ _
 have b0:H1.at H.length=some ⟨[[a,b,c,.int .i64 s.keep,.int .i64 s.time,d]],6,28,false⟩:=by rw [hH1]; simp
 simp [c_spec_StoreGet,n1,n2,n3,n4,<- hH1,b0]
 refine cg_use (StoreOk_ok _ s H1 (hs0.le hle1) hb) ?_
 have hkey:∀ {C:CallP} {d:Option Nat} {ag} {p:Plan} {t:Tm} {H:Hp} {K:Tm->Hp->Prop},_:=@fun C d ag p t H K=>tab2_key C d ag p t H K k hk
 unfold gotR
 cases ho:storeOk s with
 | false=>simp [hle1]
 | true =>
  cases hko:keyOk k with
  | false=>simp [hkey,hko,hle1]
  | true =>
   simp [hkey,hko,b0]
   refine cg_use (l12Known_ok _ s time H1 (hs0.le hle1) hb.2.2.2.2.1) ?_
   cases hkn:knownR s time with
   | false=>simp [hle1]
   | true =>
    simp [b0]
    refine cg_use (l12Get_ok _ s k time H1 (hs0.le hle1) hb ho hko) ?_
    cases hg:getR s k time with
    | none =>
     simp [entAV,entRow,Hp.at_app]
     exact hle1.app _
    | some e =>
     obtain⟨ek,ev,eg,et⟩:=e
     cases eg with
     | false =>
      simp [entAV,entRow,Hp.at_app]
      exact hle1.app _
     | true =>
      simp [entAV,entRow,Hp.at_app]
      exact hle1.app _
end Go.Proofs.YtgoeenodllmdpaaGreat.B

namespace Go.Proofs.YtgoeenodllmdpaaGreat.B
open Go.RowKit Go.Proofs
set_option linter.unusedVariables false
set_option linter.unusedSimpArgs false
variable {E:Env}
end Go.Proofs.YtgoeenodllmdpaaGreat.B

namespace Go.Proofs.YtgoeenodllmdpaaGreat.B
open Go.RowKit Go.Proofs
set_option linter.unusedVariables false
set_option linter.unusedSimpArgs false
variable {E:Env}
theorem Rd.box {H:Hp} {o N n:Nat} (h:Rd H o N) (X:Option Ob) (hne:n≠o) (h1:∀ ob,H.at n=some ob->ob.esz≠1):Rd (List.set H n X) o N :=
 h.fr (Fr.one H n X) (fun e=>hne e.symm) (fun x ob hx ho=>by subst hx; exact h1 ob ho)
theorem l71Deed_ok (o N:Nat) (kv:AV) (ks:List ByteArray) (H:Hp) (hr:Rd H o N) (hk:Strs H kv ks) (hkl:ks.length<1099511627776) (hks:∀ s∈ks,s.size<=5) (hN:N<137438953472) :
  AC Tryz.prog E 149 [.pt o 0 0,kv] H (fun v H'=>∃ d,v=ddAV d/\d.key.size<=5/\Dr o H H'/\Rd H' o (N+9)):=by
 refine AC_by fol (tC_le tab2_ok) h_spec_l71Deed ?_
 have hol:=hr.lt
 have m0:H.length≠o:=by omega
 simp [c_spec_l71Deed]
 refine cg_ex (pick_ok o N 10 _ (hr.le (HLe.self _ _)) (by omega) (by omega)) ?_
 rintro v H1 ⟨n,rfl,hn,hd1,hr1,hlen⟩
 have b1:=hd1.2 H.length ⟨[[.int .i64 0,.str ⟨#[]⟩,.int .i64 0]],3,47,false⟩ (by omega) (by simp)
 have hD:Dr o H H1:=(Fr.app (Fr.refl _ H) _).same hd1
 have hk1:Strs H1 kv ks:=(Rows.dr (hr.le (HLe.self _ _)) (hk.le (HLe.self _ _)) (by decide) hd1)
 have fin:∀ (H2:Hp) (d:Dd) (M:Nat),d.key.size<=5->Dr o H1 H2->Rd H2 o M->M<=N+9->∃ d',ddAV d=ddAV d'/\d'.key.size<=5/\Dr o H (List.set H2 H.length (some ⟨[[.int .i64 d.kind,.str d.key,.int .i64 d.num]],3,47,false⟩))/\Rd (List.set H2 H.length (some ⟨[[.int .i64 d.kind,.str d.key,.int .i64 d.num]],3,47,false⟩)) o (N+9):=by
  intro H2 d M h1 h2 h3 h4
  have b2:=h2.2 _ _ m0 b1
  exact⟨d,rfl,h1,(hD.same h2).set (.inr (Nat.le_refl _)) _,(h3.box _ m0 (fun ob ho=>by rw [b2] at ho; cases ho; simp)).mono h4⟩
 have hcase:n=0\/n=1\/n=2\/n=3\/n=4\/n=5\/n=6\/n=7\/n=8\/n=9:=by omega
 have u1:=Hp.at_lt b1
 have put:∀ t:Tm,True:=fun _=>trivial
 simp
 refine c_split (fun q0=>?_) (fun q0=>?_)<;>simp at q0
 ·simp [q0]
  refine cg_ex (l71Near_ok o _ kv ks _ hr1 hk1 hkl hks (by omega)) ?_
  rintro _ H2 ⟨k,rfl,hk5,hd2,hr2⟩
  simp
  refine cg_ex (pick_ok o _ 100 _ hr2 (by omega) (by omega)) ?_
  rintro _ H3 ⟨m,rfl,hm,hd3,hr3,-⟩
  have hb:=(hd2.same hd3).2 _ _ m0 b1
  simp [hb,Hp.at_set,Hp.at_lt hb]
  exact fin _ ⟨1,k,m⟩ _ hk5 (hd2.same hd3) hr3 (by omega)
 simp
 refine c_split (fun q1=>?_) (fun q1=>?_)<;>simp at q1
 ·simp [q1]
  refine cg_ex (l71Near_ok o _ kv ks _ hr1 hk1 hkl hks (by omega)) ?_
  rintro _ H2 ⟨k,rfl,hk5,hd2,hr2⟩
  simp
  refine cg_ex (pick_ok o _ 100 _ hr2 (by omega) (by omega)) ?_
  rintro _ H3 ⟨m,rfl,hm,hd3,hr3,-⟩
  have hb:=(hd2.same hd3).2 _ _ m0 b1
  simp [hb,Hp.at_set,Hp.at_lt hb]
  exact fin _ ⟨1,k,m⟩ _ hk5 (hd2.same hd3) hr3 (by omega)
 simp
 refine c_split (fun q2=>?_) (fun q2=>?_)<;>simp at q2
 ·simp [q2]
  refine cg_ex (l71Near_ok o _ kv ks _ hr1 hk1 hkl hks (by omega)) ?_
  rintro _ H2 ⟨k,rfl,hk5,hd2,hr2⟩
  simp
  refine cg_ex (pick_ok o _ 100 _ hr2 (by omega) (by omega)) ?_
  rintro _ H3 ⟨m,rfl,hm,hd3,hr3,-⟩
  have hb:=(hd2.same hd3).2 _ _ m0 b1
  simp [hb,Hp.at_set,Hp.at_lt hb]
  exact fin _ ⟨1,k,m⟩ _ hk5 (hd2.same hd3) hr3 (by omega)
 simp
 refine c_split (fun q3=>?_) (fun q3=>?_)<;>simp at q3
 ·simp [q3]
  refine cg_ex (l71Near_ok o _ kv ks _ hr1 hk1 hkl hks (by omega)) ?_
  rintro _ H2 ⟨k,rfl,hk5,hd2,hr2⟩
  simp
  refine cg_ex (pick_ok o _ 100 _ hr2 (by omega) (by omega)) ?_
  rintro _ H3 ⟨m,rfl,hm,hd3,hr3,-⟩
  have hb:=(hd2.same hd3).2 _ _ m0 b1
  simp [hb,Hp.at_set,Hp.at_lt hb]
  exact fin _ ⟨1,k,m⟩ _ hk5 (hd2.same hd3) hr3 (by omega)
 simp
 refine c_split (fun q4=>?_) (fun q4=>?_)<;>simp at q4
 ·simp [q4]
  refine cg_ex (l71Near_ok o _ kv ks _ hr1 hk1 hkl hks (by omega)) ?_
  rintro _ H2 ⟨k,rfl,hk5,hd2,hr2⟩
  simp
  refine cg_ex (pick_ok o _ 100 _ hr2 (by omega) (by omega)) ?_
  rintro _ H3 ⟨m,rfl,hm,hd3,hr3,-⟩
  have hb:=(hd2.same hd3).2 _ _ m0 b1
  simp [hb,Hp.at_set,Hp.at_lt hb]
  exact fin _ ⟨1,k,m⟩ _ hk5 (hd2.same hd3) hr3 (by omega)
 simp [q4]
 refine c_split (fun q5=>?_) (fun q5=>?_)<;>simp at q5
 ·simp
  refine cg_ex (l71Near_ok o _ kv ks _ hr1 hk1 hkl hks (by omega)) ?_
  rintro _ H2 ⟨k,rfl,hk5,hd2,hr2⟩
  have hb:=hd2.2 _ _ m0 b1
  simp [hb,Hp.at_set,Hp.at_lt hb]
  exact fin _ ⟨2,k,0⟩ _ hk5 hd2 hr2 (by omega)
 simp
 refine c_split (fun q6=>?_) (fun q6=>?_)<;>simp at q6
 ·simp [b1,Hp.at_set,u1]
  exact fin H1 ⟨3,⟨#[]⟩,0⟩ _ (by decide) (Fr.refl _ _) hr1 (by omega)
 simp
 refine c_split (fun q7=>?_) (fun q7=>?_)<;>simp at q7
 ·simp
  refine cg_ex (pick_ok o _ 20 _ hr1 (by omega) (by omega)) ?_
  rintro _ H3 ⟨m,rfl,hm,hd3,hr3,-⟩
  have hb:=hd3.2 _ _ m0 b1
  simp [hb,Hp.at_set,Hp.at_lt hb]
  exact fin _ ⟨4,⟨#[]⟩,m⟩ _ (by show 0<=5; omega) hd3 hr3 (by omega)
 simp
 refine c_split (fun q8=>?_) (fun q8=>?_)<;>simp at q8
 ·simp [b1,Hp.at_set,u1]
  exact fin H1 ⟨5,⟨#[]⟩,0⟩ _ (by decide) (Fr.refl _ _) hr1 (by omega)
 simp
 refine cg_ex (pick_ok o _ 3 _ hr1 (by omega) (by omega)) ?_
 rintro _ H3 ⟨m,rfl,hm,hd3,hr3,-⟩
 have hb:=hd3.2 _ _ m0 b1
 simp [hb,Hp.at_set,Hp.at_lt hb]
 exact fin _ ⟨6,⟨#[]⟩,m⟩ _ (by show 0<=5; omega) hd3 hr3 (by omega)
end Go.Proofs.YtgoeenodllmdpaaGreat.B

namespace Go.Proofs.YtgoeenodllmdpaaGreat.B
open Go.RowKit Go.Proofs
set_option linter.unusedVariables false
set_option linter.unusedSimpArgs false
variable {E:Env}
def sv0 (keep:Int):Sv:=⟨⟨#[]⟩,⟨#[]⟩,⟨#[]⟩,[],keep⟩
theorem StoreNew_ok (keep:Int) (H:Hp):AC Tryz.prog E 67 [.int .i64 keep] H (fun u H'=>RetS H H' u (newR keep)):=by
 refine AC_by fol (tC_le tab2_ok) h_spec_StoreNew ?_
 simp [c_spec_StoreNew]
 refine c_split (fun hq=>?_) (fun hq=>?_)<;>simp at hq
 ·have hn:newR keep=none:=by unfold newR; rw [if_neg (by omega)]
  simp [hn,RetS]
 have hn:newR keep=some ⟨[],List.replicate 3 [],List.replicate 3 (sv0 keep),keep,0,[]⟩:=by
  unfold newR
  rw [if_pos (by omega)]
  rfl
 simp
 refine W_for (fun m t H'=>∃ i lv sv lr sr,i+m=3/\t 0=.int .i64 keep/\t 2=.pt H.length 0 0/\t 4=.pt (H.length+3) 0 0/\t 5=.int .i64 (i:Nat)/\HLe H H' /\
  H'.at H.length=some ⟨[[.nils,.nils,.nils,.int .i64 0,.int .i64 0,.nils]],6,28,false⟩ /\
  H'.at (H.length+3)=some ⟨[[.sl (H.length+1) 0 0,lv,sv,.int .i64 keep,.int .i64 0,.sl (H.length+2) 0 0]],6,28,false⟩ /\
  OwnE H H' (.sl (H.length+1) 0 0) []/\OwnI H H' (.sl (H.length+2) 0 0) []/\Own 1 23 H' lv lr/\(∀ x,lv.of x->H.length+4<=x)/\All2 (LvRow H') lr (List.replicate i [])/\OffB H (.sl (H.length+1) 0 0) lr /\
  Own 5 66 H' sv sr/\(∀ x,sv.of x->H.length+4<=x)/\All2 (SvRow H' (fun x=>lv.of x\/H.length+2=x)) sr (List.replicate i (sv0 keep))) 3 ?_ (tC_mono AC_mono) ?_
 ·refine⟨0,.nils,.nils,[],[],rfl,by simp,by simp,by simp,by simp,HLe.self _ _,by simp,by simp,⟨Own.obj (R:=[]) (by simp) rfl,fun x hx=>by simp at hx; omega⟩,⟨Own.obj (R:=[]) (by simp) rfl,fun x hx=>by simp at hx; omega⟩,Own.nils,fun x hx=>hx.elim,trivial,OffB.nil _ _,Own.nils,fun x hx=>hx.elim,trivial⟩
 rintro m t H' ⟨i,lv,sv,lr,sr,him,h0,h2,h4,h5,hle,k0,k3,htop,htms,hlv,hlva,hlvr,hoff,hsv,hsva,hsvr⟩
 simp [h0,h2,h4,h5]
 refine c_split (fun hq2=>?_) (fun hq2=>?_)<;>simp at hq2
 ·have hi3:i<3:=by omega
  have hw:=wrapN (i:=i) (by omega)
  have u0:=Hp.at_lt k0
  have u3:=Hp.at_lt k3
  simp [h0,h2,h4,h5,k3,Hp.at_app,u3]
  rw [List.append_cons]
  have hA:HLe H' (H'++[some ⟨[],4,99,false⟩]):=HLe.self _ _
  refine appG_one' (bytes:=24) (R:=lr) (by simp) (hlv.le hA) (by have:=All2.length hlvr; simp at this; omega) (fun v5 H5 g1 g2 g3=>?_)
  have hF5:Fr lv.of H' H5:=(hA.fr (S:=lv.of)).same g2
  have nlv:∀ x,x<H.length+4->¬lv.of x:=fun x h1 h2=>by have:=hlva x h2; omega
  have k05:=hF5.2 _ _ (nlv _ (by omega)) k0
  have k35:=hF5.2 _ _ (nlv _ (by omega)) k3
  have ktop:=g2.2 H'.length _ (fun h=>by have:=hlv.lt h; omega) (Hp.at_app_0.trans Hp.at_0)
  have u05:=Hp.at_lt k05
  have u35:=Hp.at_lt k35
  have m03:H.length≠H.length+3:=by omega
  have hl5:=g2.1
  simp at hl5
  simp [h0,h2,h4,h5,k35,g1.rows.one,g1.rows.cells,g1.rows.cells1,Hp.at_set,Hp.at_app,List.length_set,u35]
  obtain⟨X,hX⟩:∃ X:Option Ob,X=some ⟨[[.sl (H.length+1) 0 0,v5,sv,.int .i64 keep,.int .i64 0,.sl (H.length+2) 0 0]],6,28,false⟩:=⟨_,rfl⟩
  rw [<- hX]
  obtain⟨G5,hG5⟩:∃ G5:Hp,G5=List.set H5 (H.length+3) X:=⟨_,rfl⟩
  have hGl:H5.length=G5.length:=by rw [hG5]; simp
  have hG:Fr (fun x=>x=H.length+3) H5 G5:=by rw [hG5]; exact Fr.one _ _ _
  have kG3:G5.at (H.length+3)=X:=by rw [hG5]; exact Hp.at_set _ u35
  rw [<- hG5,hGl,List.append_cons]
  have hB:HLe G5 (G5++[some ⟨[],1,9,false⟩]):=HLe.self _ _
  have hsv5:Own 5 66 H5 sv sr:=hsv.fr hF5 (fun x hx h=>hlv.rows.apart hsv.rows (by simp) h hx)
  have hsvG:Own 5 66 G5 sv sr:=hsv5.fr hG (fun x hx=>by have:=hsva x hx; omega)
  refine appG_one' (bytes:=80) (R:=sr) (by simp) (hsvG.le hB) (by have:=All2.length hsvr; simp at this; omega) (fun v7 H7 p1 p2 p3=>?_)
  have hF7:Fr sv.of G5 H7:=(hB.fr (S:=sv.of)).same p2
  have nsv:∀ x,x<H.length+4->¬sv.of x:=fun x h1 h2=>by have:=hsva x h2; omega
  have kG0:=hG.2 _ _ m03 k05
  have k07:=hF7.2 _ _ (nsv _ (by omega)) kG0
  have k37:=hF7.2 _ _ (nsv _ (by omega)) (kG3.trans hX)
  have u37:=Hp.at_lt k37
  have hl7:=hF7.1
  have hsvl:∀ x,sv.of x->x<H'.length:=fun x hx=>hsv.lt hx
  have hlvl:∀ x,lv.of x->x<H'.length:=fun x hx=>hlv.lt hx
  have ktG:=hG.2 _ _ (show H'.length≠H.length+3 by omega) ktop
  have kt7:=hF7.2 _ _ (fun h=>by have:=hsvl _ h; omega) ktG
  have ks7:=p2.2 G5.length _ (fun h=>by have:=hsvl _ h; omega) (Hp.at_app_0.trans Hp.at_0)
  simp [h0,h2,h4,h5,k37,p1.rows.one,p1.rows.cells,p1.rows.cells1,hw]
  obtain⟨Z,hZ⟩:∃ Z:Option Ob,Z=some ⟨[[.sl (H.length+1) 0 0,v5,v7,.int .i64 keep,.int .i64 0,.sl (H.length+2) 0 0]],6,28,false⟩:=⟨_,rfl⟩
  rw [<- hZ]
  have hS:=Fr.one H7 (H.length+3) Z
  have hF58:Fr (fun x=>x=H.length+3\/sv.of x) H5 (List.set H7 (H.length+3) Z):=((hG.mono (fun x hx=>.inl (.inl hx))).trans hF7 (fun x hx=>.inl (.inr hx))).trans hS (fun x hx=>.inl (.inl hx))
  have hF8:Fr (fun x=>lv.of x\/sv.of x\/x=H.length+3) H' (List.set H7 (H.length+3) Z):=(hF5.mono (fun x hx=>.inl (.inl hx))).trans hF58 (fun x hx=>hx.elim (fun h=>.inl (.inr (.inr h))) (fun h=>.inl (.inr (.inl h))))
  have ns4:∀ x ob,(lv.of x\/sv.of x\/x=H.length+3)->H'.at x=some ob->ob.esz≠4:=fun x ob hs ho=>by
   rcases hs with h | h | h
   ·rw [hlv.esz h ho]; decide
   ·rw [hsv.esz h ho]; decide
   ·subst h; rw [k3] at ho; cases ho; simp
  have v5a:∀ x,v5.of x->lv.of x\/H'.length<=x:=fun x hx=>(g3 x hx).imp id (fun h=>by simp at h; omega)
  have v7a:∀ x,v7.of x->sv.of x\/H5.length<=x:=fun x hx=>(p3 x hx).imp id (fun h=>by simp at h; omega)
  have k0F:=hS.2 _ _ m03 k07
  have ktF:=hS.2 _ _ (show H'.length≠H.length+3 by omega) kt7
  have ksF:=hS.2 _ _ (show G5.length≠H.length+3 by omega) ks7
  refine⟨m-1,by omega,i+1,by omega,by omega,hle.fr_le hF8 (fun x hx=>by rcases hx with h | h | h; (have:=hlva x h; omega); (have:=hsva x h; omega); omega),k0F,v5,v7,(Hp.at_set _ u37).trans hZ,?_,?_,lr++[[.sl H'.length 0 0]],?_,?_,?_,hoff.add (fun y hy hy2=>by have h1:H.length+1=y:=hy; have h2:H'.length=y:=hy2; have:=Hp.at_lt k3; omega) (fun y hy=>by have h2:H'.length=y:=hy; have:=hle.1; omega),sr++[[.str ⟨#[]⟩,.str ⟨#[]⟩,.str ⟨#[]⟩,.sl G5.length 0 0,.int .i64 keep]],?_,?_,?_⟩
  ·exact htop.fr hF8 (fun x hx hs=>by
    have hx':H.length+1=x:=hx
    rcases hs with h | h | h
    ·have:=hlva x h; omega
    ·have:=hsva x h; omega
    ·omega)
  ·exact htms.fr hF8 (fun x hx hs=>by
    have hx':H.length+2=x:=hx
    rcases hs with h | h | h
    ·have:=hlva x h; omega
    ·have:=hsva x h; omega
    ·omega)
  ·exact g1.fr hF58 (fun x hx hs=>by
    rcases hs with h | h
    ·rcases v5a x hx with hh | hh
     ·have:=hlva x hh; omega
     ·omega
    ·exact g1.rows.apart hsv5.rows (by simp) hx h)
  ·intro x hx
   rcases v5a x hx with h | h
   ·exact hlva x h
   ·omega
  ·rw [List.replicate_succ']
   exact (All2.mono (fun row es h=>h.fr hF8 ns4) hlvr).append ⟨⟨_,rfl,Own.rows (ety:=99) (Own.obj (R:=[]) ktF rfl)⟩,trivial⟩
  ·exact p1.fr hS (fun x hx=>by
    rcases v7a x hx with h | h
    ·have:=hsva x h; omega
    ·omega)
  ·intro x hx
   rcases v7a x hx with h | h
   ·exact hsva x h
   ·omega
  ·rw [List.replicate_succ']
   refine (All2.mono (fun row sv' h=>?_) hsvr).append ⟨⟨.sl G5.length 0 0,rfl,Own.rows (ety:=9) (Own.obj (R:=[]) ksF rfl),fun x hx h=>?_⟩,trivial⟩
   ·refine SvRow.fr (X':=fun x=>v5.of x\/H.length+2=x) h hF8 (fun x ob hs ho=>?_) (fun x hx hx'=>hx'.elim (fun h=>(v5a x h).elim .inl (fun h=>by omega)) .inr)
    rcases hs with h | h | h
    ·exact .inr (.inl h)
    ·exact .inl (by rw [hsv.esz h ho]; decide)
    ·exact .inl (by subst h; rw [k3] at ho; cases ho; simp)
   ·have hx':G5.length=x:=hx
    rcases h with h | h
    ·have:=g1.lt h; omega
    ·omega
 ·have hi3:i=3:=by omega
  subst hi3
  have u0:=Hp.at_lt k0
  obtain⟨ol,rfl⟩:=hlv.sl (by rw [hlvr.length]; simp)
  obtain⟨os,rfl⟩:=hsv.sl (by rw [hsvr.length]; simp)
  have hl3:lr.length=3:=by rw [hlvr.length]; simp
  have hs3:sr.length=3:=by rw [hsvr.length]; simp
  rw [hl3] at hlv k3
  rw [hs3] at hsv k3
  simp [h2,h4,k0,k3,Hp.at_set,u0,hn]
  have hF:=Fr.one H' H.length (some ⟨[[.sl (H.length+1) 0 0,.sl ol 0 3,.sl os 0 3,.int .i64 keep,.int .i64 0,.sl (H.length+2) 0 0]],6,28,false⟩)
  have hm:MSt H H' (.ag [.sl (H.length+1) 0 0,.sl ol 0 3,.sl os 0 3,.int .i64 keep,.int .i64 0,.sl (H.length+2) 0 0]) ⟨[],List.replicate 3 [],List.replicate 3 (sv0 keep),keep,0,[]⟩ :=
   ⟨.sl (H.length+1) 0 0,ol,os,.sl (H.length+2) 0 0,lr,sr,rfl,htop,hlv,hlvr,hsv,All2.mono (fun _ _ h=>by
    obtain⟨r,e1,e2,e3⟩:=h
    rw [hl3] at e3
    exact⟨r,e1,e2,e3⟩) hsvr,htms,fun hx=>by have:=hlva ol rfl; simp at hx; omega,by have:=hlva ol rfl; omega,by have:=hsva os rfl; omega,rfl,rfl,hoff⟩
  exact⟨hle.fr_le hF (fun x hx=>by rw [hx]; exact Nat.le_refl _),_,rfl,hm.fr hF (fun y ob hy ho=>by rw [hy,k0] at ho; cases ho; rfl)⟩
end Go.Proofs.YtgoeenodllmdpaaGreat.B

namespace Go.Proofs.YtgoeenodllmdpaaGreat.B
open Go.RowKit Go.Proofs
set_option linter.unusedVariables false
set_option linter.unusedSimpArgs false
variable {E:Env}
abbrev OwnD:=OwnM (α:=Dd) 3 47 ddRow
theorem l71Deeds_ok (o N:Nat) (most:Nat) (H:Hp) (hr:Rd H o N) (hm:most<1000) (hN:N<68719476736) :
  AC Tryz.prog E 70 [.pt o 0 0,.int .i64 most] H (fun v H'=>∃ ds,OwnD H H' v ds/\ds.length<=most+1/\(∀ d∈ds,d.key.size<=5)/\Dr o H H'/\Rd H' o (N+39+10 * most)):=by
 refine AC_by fol (tC_le tab2_ok) h_spec_l71Deeds ?_
 have hw0:=wrapN (i:=most) (by omega)
 simp [c_spec_l71Deeds,hw0]
 refine cg_ex (l71Keys_ok o N 5 H hr (by omega) (by omega)) ?_
 rintro kv H1 ⟨ks,hks,hkl,hksz,hd1,hr1⟩
 simp [hw0]
 refine cg_ex (pick_ok o _ ((most:Int)+1) _ (hr1.le (HLe.self _ _)) (by omega) (by omega)) ?_
 rintro v H2 ⟨n,rfl,hn,hd2,hr2,hlen⟩
 have hd0:Dr o H H2:=(hd1.app _).same hd2
 have hn1:n<=most:=by omega
 have hks2:OwnS H H2 kv ks:=OwnM.dr (hr1.le (HLe.self _ _)) (hks.le (HLe.self _ _)) (by decide) hd2
 simp
 refine W_for (fun m t H'=>∃ ds v,m<=most/\t 0=.pt o 0 0/\t 5=kv/\t 6=v/\t 7=.int .i64 m/\OwnD H H' v ds/\OwnS H H' kv ks/\ds.length+m<=most/\(∀ d∈ds,d.key.size<=5)/\Dr o H H'/\Rd H' o (N+37+10 * (most-m))) n ?_ (tC_mono AC_mono) ?_
 ·refine⟨[],_,hn1,by simp,by simp,by simp; rfl,by simp,?_,hks2,by simpa using hn1,by simp,hd0,hr2.mono (by omega)⟩
  exact (OwnM.dr (hr1.le (HLe.self _ _)) (OwnM.lit0 (HLe.refl H1)) (by decide) hd2).base hd1.len
 rintro m t H' ⟨ds,v,hm5,h0,h5,h6,h7,hv,hkv,hdl,hdk,hd,hr⟩
 simp [h0,h5,h6,h7]
 refine c_split (fun hq=>?_) (fun hq=>?_)<;>simp at hq
 ·have hw:IntKind.i64.wrap ((m:Int)-1)=((m-1:Nat):Int):=by rw [wrap64 (by omega) (by omega)]; omega
  simp [h0,h5,h6,h7]
  refine cg_ex (l71Deed_ok o _ kv ks H' hr hkv.strs (by omega) hksz (by omega)) ?_
  rintro _ H2 ⟨e,rfl,hk5,hd2,hr2⟩
  have hkv2:=OwnM.dr hr hkv (by decide) hd2
  have hv2:=OwnM.dr hr hv (by decide) hd2
  simp [h0,h5,h6,h7,ddAV]
  have hla:=hd.len
  have hl2a:=hd2.len
  refine appG_one' (bytes:=32) (R:=ds.map ddRow) rfl hv2.1 (by simp; omega) (fun v5 H5 g1 g2 g3=>?_)
  have hv5:OwnD H H5 v5 (ds++[e]):=⟨by simpa [ddRow] using g1,fun x hx=>(g3 x hx).elim (hv2.2 x) (fun h=>by omega)⟩
  have hr5:=(hr2.fr g2 (fun h=>hr2.ne hv2.rows (by decide) h rfl) (fun x ob hx ho=>by rw [hv2.1.esz hx ho]; decide))
  have hd5:Dr o H H5:=(hd.same hd2).trans g2 (fun x hx=>.inr (hv2.2 x hx))
  have hkv5:=hkv2.fr g2 (fun x hx hs=>hkv2.rows.apart hv2.rows (by simp) hx hs)
  simp [h0,h5,h6,h7,hw]
  refine⟨m-1,by omega,by omega,rfl,ds++[e],hv5,hkv5,by simp; omega,fun d hd=>?_,hd5,hr5.mono (by omega)⟩
  rcases List.mem_append.1 hd with h | h
  ·exact hdk d h
  ·rw [List.mem_singleton.1 h]; exact hk5
 ·have:m=0:=by omega
  subst this
  simp [h0,h6]
  refine cg_ex (pick_ok o _ 24 _ hr (by omega) (by omega)) ?_
  rintro _ H2 ⟨c,rfl,hc,hd2,hr2,-⟩
  have hv2:=OwnM.dr hr hv (by decide) hd2
  simp [h0,h6]
  refine c_split (fun hq=>?_) (fun hq=>?_)<;>simp at hq
  ·simp [h0,h6]
   refine cg_ex (pick_ok o _ 9 _ hr2 (by omega) (by omega)) ?_
   rintro _ H3 ⟨q,rfl,hq9,hd3,hr3,-⟩
   have hv3:=OwnM.dr hr2 hv2 (by decide) hd3
   simp [h0,h6]
   have hlb:=hd.len
   have hl2b:=hd2.len
   have hl3b:=hd3.len
   refine appG_one' (bytes:=32) (R:=ds.map ddRow) rfl hv3.1 (by simp; omega) (fun v5 H5 g1 g2 g3=>?_)
   have hv5:OwnD H H5 v5 (ds++[⟨IntKind.i64.wrap ((q:Int)-1),⟨#[120]⟩,-1⟩]):=⟨by simpa [ddRow] using g1,fun x hx=>(g3 x hx).elim (hv3.2 x) (fun h=>by omega)⟩
   have hr5:=(hr3.fr g2 (fun h=>hr3.ne hv3.rows (by decide) h rfl) (fun x ob hx ho=>by rw [hv3.1.esz hx ho]; decide))
   have hd5:Dr o H H5:=((hd.same hd2).same hd3).trans g2 (fun x hx=>.inr (hv3.2 x hx))
   simp
   refine⟨_,hv5,by simp; omega,fun d hd=>?_,hd5,hr5.mono (by omega)⟩
   rcases List.mem_append.1 hd with h | h
   ·exact hdk d h
   ·rw [List.mem_singleton.1 h]; show 1<=5; omega
  ·simp [h0,h6]
   exact⟨ds,hv2,by omega,hdk,hd.same hd2,hr2.mono (by omega)⟩
end Go.Proofs.YtgoeenodllmdpaaGreat.B

namespace Go.Proofs.YtgoeenodllmdpaaGreat.B
open Go.RowKit Go.Proofs
set_option linter.unusedVariables false
set_option linter.unusedSimpArgs false
variable {E:Env}
theorem MSt.frn {S:Nat->Prop} {H0 H H':Hp} {v:AV} {s:Sr} (h:MSt H0 H v s) (hf:Fr S H H') (hS:∀ x ob,S x->H.at x=some ob->ob.esz=2\/ob.esz=6):MSt H0 H' v s:=by
 obtain⟨a,ol,os,d,lr,sr,rfl,ha,hlv,hlr,hsv,hsr,hd,hdo,hol,hos,hl3,hs3,hoff⟩:=h
 have no:∀ {esz ety:Nat} {v:AV} {R:List (List AV)},esz≠2/\esz≠6->Own esz ety H v R->∀ x,v.of x->¬S x:=by
  intro esz ety v R hne ho x hx hs
  rcases ho with ⟨rfl,_⟩ | ⟨rfl,_⟩ | ⟨o',ob,rfl,a2,a3,a4,_⟩
  ·exact hx.elim
  ·exact hx.elim
  ·have:o'=x:=hx
   subst this
   rcases hS _ _ hs a2 with h | h
   ·exact hne.1 (a4.symm.trans h)
   ·exact hne.2 (a4.symm.trans h)
 refine⟨a,ol,os,d,lr,sr,rfl,ha.fr hf (no (by omega) ha.1),hlv.fr hf (no (by omega) hlv),All2.mono (fun _ _ h=>h.fr hf (fun x ob hs ho=>by have:=hS x ob hs ho; omega)) hlr,hsv.fr hf (no (by omega) hsv),
  All2.mono (fun _ _ h=>h.fr hf (fun x ob hs ho=>.inl (by have:=hS x ob hs ho; omega)) (fun _ _ h=>h)) hsr,hd.fr hf (no (by omega) hd.1),hdo,hol,hos,hl3,hs3,hoff⟩
theorem doAll_small:∀ (ds:List Dd) {s:Sr},Small s->Small (doAll s ds)
 | [],s,h=>h
 | d :: ds,s,h=>by
  have:doAll s (d :: ds)=doAll ((doR s d).getD s) ds:=rfl
  rw [this]
  refine doAll_small ds ?_
  cases hd:doR s d with
  | none=>exact h
  | some x=>exact doR_small hd
theorem pastR_small {s x:Sr} {ds:List Dd} (h:pastR s ds=some x):Small x:=by
 unfold pastR at h
 split at h
 ·rename_i hc
  cases h
  simp only [Bool.and_eq_true] at hc
  exact doAll_small ds (storeOk_small hc.1)
 ·cases h
end Go.Proofs.YtgoeenodllmdpaaGreat.B

namespace Go.Proofs.YtgoeenodllmdpaaGreat.B
open Go.RowKit Go.Proofs
set_option linter.unusedVariables false
set_option linter.unusedSimpArgs false
variable {E:Env}
theorem l71StoreM_ok (o N:Nat) (H:Hp) (hr:Rd H o N) (hN:N<34359738368) :
  AC Tryz.prog E 147 [.pt o 0 0] H (fun v H'=>∃ s,MSt H H' v s/\Small s/\storeOk s=true/\Val s/\Dr o H H'/\Rd H' o (N+400)):=by
 refine AC_by fol (tC_le tab2_ok) h_spec_l71Store ?_
 have hol:=hr.lt
 simp [c_spec_l71Store]
 refine cg_ex (pick_ok o N 5 _ (hr.le (HLe.self _ _)) (by omega) (by omega)) ?_
 rintro v H1 ⟨n,rfl,hn,hd1,hr1,hlen⟩
 have b0:=hd1.2 H.length ⟨[[.nils,.nils,.nils,.int .i64 0,.int .i64 0,.nils]],6,28,false⟩ (by omega) (by simp)
 have bl:=hd1.2 (H.length+1) ⟨[[.int .i64 0],[.int .i64 1],[.int .i64 1],[.int .i64 2],[.int .i64 5]],1,3,false⟩ (by omega) (by simp)
 have hD1:Dr o H H1:=(Fr.app (Fr.refl _ H) _).same hd1
 have hn5:n<5:=by omega
 have hnI:(n:Int)<5:=by omega
 have hrow:∃ k:Int,(0<=k/\k<=5)/\([[.int .i64 0],[.int .i64 1],[.int .i64 1],[.int .i64 2],[.int .i64 5]]:List (List AV))[n]?=some [.int .i64 k]:=by
  have:n=0\/n=1\/n=2\/n=3\/n=4:=by omega
  rcases this with rfl | rfl | rfl | rfl | rfl<;>exact⟨_,by constructor<;>decide,rfl⟩
 obtain⟨k,hk05,hk⟩:=hrow
 simp [bl,hk,hnI]
 refine cg_ex (StoreNew_ok k H1) ?_
 intro v2 H2 hret
 obtain⟨s0,hs0⟩:∃ s0,newR k=some s0:=by
  unfold newR
  rw [if_pos hk05]
  exact⟨_,rfl⟩
 have hso:storeOk s0=true:=by
  obtain⟨a,b,c,u,v,w,hv⟩:=newR_V hs0
  exact hv.ok
 rw [hs0] at hret
 obtain⟨xa,xb,xc,xk,xt,xd,rfl,o1,o2,o3,o4,o5,o6⟩:=hret.shape
 simp [o1,o2,o3,o4,o5,o6]
 have hr2:=hr1.le hret.1
 have hl2:=hret.1.1
 have hl1:=hD1.len
 have hB:=HLe.self H2 [some ⟨[[xa,xb,xc,xk,xt,xd]],6,28,false⟩]
 refine cg_ex (l71Deeds_ok o _ 30 _ (hr2.le hB) (by omega) (by omega)) ?_
 rintro dv H3 ⟨ds,hds,hdl,hdk,hd3,hr3⟩
 have esz2:∀ x ob,x=o->H2.at x=some ob->ob.esz=2\/ob.esz=6:=by
  intro x ob hx ho
  obtain⟨b,bs,p,h1,_⟩:=hr2
  rw [hx,h1] at ho
  cases ho
  exact .inl rfl
 have hmm:MSt H1 H2 (.ag [xa,xb,xc,xk,xt,xd]) s0:=by
  obtain⟨_,w,hw,hm⟩:=hret
  cases hw
  exact hm
 have hm3:=hmm.frn ((Fr.app (Fr.refl (fun x=>x=o) H2) [some ⟨[[xa,xb,xc,xk,xt,xd]],6,28,false⟩]).same hd3) esz2
 have hsm:=newR_small hs0
 have c3:=hd3.2 H2.length _ (show ¬H2.length=o by omega) (Hp.at_app_0.trans Hp.at_0)
 have b03:=hd3.2 H.length _ (show ¬H.length=o by omega) (hB.2 _ _ (hret.1.2 _ _ b0))
 simp [c3]
 refine cg_ex (PastDo_ok _ dv s0 ds H3 hm3.st hsm.stB hds.rows (fun d hd=>by have:=hdk d hd; omega)) ?_
 intro v4 H4 hret4
 have hp:pastR s0 ds=some (doAll s0 ds):=by
  unfold pastR
  rw [if_pos (by rw [hso,Bool.true_and,decide_eq_true_iff]; omega)]
 rw [hp] at hret4
 obtain⟨ya,yb,yc,yk,yt,yd,rfl,p1,p2,p3,p4,p5,p6⟩:=hret4.shape
 have c4:=hret4.1.2 _ _ c3
 have b04:=hret4.1.2 _ _ b03
 have u4:=Hp.at_lt c4
 have u04:=Hp.at_lt b04
 have hl1':=Hp.at_lt b0
 have m0:H2.length≠H.length:=by omega
 simp [p1,p2,p3,p4,p5,p6,c4,b04,Hp.at_set,Hp.at_set_ne,List.length_set,u4,u04,m0,m0.symm]
 obtain⟨W,hW⟩:∃ W:Option Ob,W=some ⟨[[ya,yb,yc,yk,yt,yd]],6,28,false⟩:=⟨_,rfl⟩
 rw [<- hW]
 have hF:=((Fr.refl (fun x=>x=H2.length\/x=H.length) H4).set (o:=H2.length) (.inl (.inl rfl)) W).set (o:=H.length) (.inl (.inr rfl)) W
 have e6:∀ x ob,(x=H2.length\/x=H.length)->H4.at x=some ob->ob.esz=2\/ob.esz=6:=by
  intro x ob hx ho
  rcases hx with h | h
  ·rw [h,c4] at ho; cases ho; exact .inr rfl
  ·rw [h,b04] at ho; cases ho; exact .inr rfl
 have hm5:MSt H3 H4 (.ag [ya,yb,yc,yk,yt,yd]) (doAll s0 ds):=by
  obtain⟨_,w,hw,hm⟩:=hret4
  cases hw
  exact hm
 have hB1:=hB.1
 have hd31:=hd3.len
 refine⟨doAll s0 ds,(hm5.frn hF e6).base (by omega),pastR_small hp,(by
  obtain⟨a,b,c,u,v,w,hv⟩:=doAll_V ds (newR_V hs0)
  exact hv.ok),doAll_V ds (newR_V hs0),((((hD1.le_fr hret.1).app _).same hd3).le_fr hret4.1).trans hF (fun x hx=>.inr (by rcases hx with h | h<;>omega)),Rd.mono ((hr3.le hret4.1).fr hF (by omega) (fun x ob hx ho=>by have:=e6 x ob hx ho; omega)) (by omega)⟩
end Go.Proofs.YtgoeenodllmdpaaGreat.B

namespace Go.Proofs.YtgoeenodllmdpaaGreat.B
open Go.RowKit Go.Proofs
set_option linter.unusedVariables false
set_option linter.unusedSimpArgs false
variable {E:Env}
theorem addBs_l (d:Nat):∀ (gs:List (List ByteArray)) (b:Bool) (s:Sv),(addBs d b s gs).l.size<=s.l.size+gs.length
 | [],b,s=>Nat.le_refl _
 | g :: gs,b,s=>by
  have h:=addBs_l d gs false (addB d b s g)
  have h2:(addB d b s g).l.size=s.l.size+1:=by
   simp only [addB,ByteArray.size_append]
   rfl
  simp only [addBs,List.length_cons]
  omega
theorem bfs_l:∀ (n:Nat) (q:List Fk) (s:Sv),(∀ f∈q,f.1.length<=24)->(bfs n q s).l.size<=s.l.size+n * 24
 | 0,q,s,h=>by simp [bfs]
 | n+1,[],s,h=>by simp [bfs]
 | n+1,(ks,d) :: q,s,h=>by
  have hk:ks.length<=24:=h (ks,d) (List.mem_cons_self ..)
  have h1:=bfs_l n (q++subs d (brs d ks)) (addBs d true s (brs d ks)) (fun f hf=>(List.mem_append.1 hf).elim (fun hf=>h f (List.mem_cons_of_mem _ hf)) (subs_len hk f))
  have h2:=addBs_l d (brs d ks) true s
  have h3:=(brs_sum _ d ks (Nat.le_refl _)).2
  simp only [bfs]
  omega
theorem sieveO_l {ks:List ByteArray} {keep:Int} {x:Sv} (h:sieveO ks keep=some x):x.l.size<=12000:=by
 unfold sieveO at h
 split at h
 ·rename_i hc
  cases h
  have:=bfs_l 500 [(ks,0)] ⟨⟨#[]⟩,⟨#[]⟩,⟨#[]⟩,[],keep⟩ (fun f hf=>by
   simp at hf
   subst hf
   exact (keysOk_good hc.1).2)
  have e:(⟨#[]⟩:ByteArray).size=0:=rfl
  simp only [e] at this
  unfold sieveR
  omega
 ·cases h
theorem storeOk_l0 {s:Sr} (h:storeOk s=true) (h3:0<s.sv.length):s.sv[0].l.size<=12000:=by
 simp only [storeOk,Bool.and_eq_true,decide_eq_true_eq] at h
 have h0:=h.2.1.1
 simp only [levelOk,Bool.and_eq_true,decide_eq_true_eq] at h0
 have:=sieveO_l h0.2
 rwa [getD_get _ h3] at this
theorem MSt.appT {H0 H H':Hp} {a a' d:AV} {ol os:Nat} {s:Sr} {tp:List Ent} (h:MSt H0 H (.ag [a,.sl ol 0 3,.sl os 0 3,.int .i64 s.keep,.int .i64 s.time,d]) s) (hf:Fr a.of H H') (ha:Ents H' a' tp) :
  St H' (.ag [a',.sl ol 0 3,.sl os 0 3,.int .i64 s.keep,.int .i64 s.time,d]) { s with top:=tp }:=by
 obtain⟨a2,ol2,os2,d2,lr,sr,hv,ha2,hlv,hlr,hsv,hsr,hd2,hdo2,hol,hos,hl3,hs3,hoff⟩:=h
 simp only [stAV,hl3,hs3,AV.ag.injEq,List.cons.injEq,AV.sl.injEq,and_true,true_and] at hv
 obtain⟨rfl,rfl,rfl,rfl⟩:=hv
 have n4:∀ {e:Nat},e≠4->∀ x ob,a.of x->H.at x=some ob->ob.esz≠e:=fun he x ob hx ho=>by rw [ha2.1.esz hx ho]; exact he.symm
 refine⟨a',.sl ol 0 3,.sl os 0 3,d,lr,sr,rfl,ha,?_,?_,?_,All2.mono (fun row sv h=>?_) hsr,Rows.frz hd2.ints hf (n4 (by simp))⟩
 ·rw [<- hl3]
  exact Rows.frz hlv.rows hf (n4 (by simp))
 ·have key:∀ {lr:List (List AV)} {ls:List (List Ent)},All2 (LvRow H) lr ls->(∀ y,a.of y->∀ u,[u]∈lr->¬u.of y)->All2 (LvRow H') lr ls:=by
   intro lr
   induction lr with
   | nil=>intro ls h _; cases ls with
    | nil=>trivial
    | cons=>exact h.elim
   | cons r lr ih=>intro ls h ho; cases ls with
    | nil=>exact h.elim
    | cons l ls =>
     obtain⟨⟨u,rfl,hu⟩,h2⟩:=h
     exact⟨⟨u,rfl,Rows.fr hu hf (fun y hy hs=>ho y hs u (List.mem_cons_self ..) hy)⟩,ih h2 (fun y hy w hw=>ho y hy w (List.mem_cons_of_mem _ hw))⟩
  exact key hlr hoff.1
 ·rw [<- hs3]
  exact Rows.frz hsv.rows hf (n4 (by simp))
 ·obtain⟨r,e1,e2,_⟩:=h
  exact⟨r,e1,Rows.frz e2 hf (n4 (by simp)),fun _ _ h=>h⟩
def BoxS (H:Hp) (L:Nat) (s:Sr):Prop:=∃ a b c d,H.at L=some ⟨[[a,b,c,.int .i64 s.keep,.int .i64 s.time,d]],6,28,false⟩/\one a=true/\one b=true/\one c=true/\one d=true/\St H (.ag [a,b,c,.int .i64 s.keep,.int .i64 s.time,d]) s/\StB s
structure Spl (s:Sr):Prop where
 val:storeOk s=true->Val s
 key:∀ e∈s.top++s.lev.flatten,e.key.size<=5
 sml:s.top.length<=2000/\s.lev.length<=3/\∀ l∈s.lev,l.length<=1000
theorem Small.sml {s:Sr} (h:Small s):s.top.length<=2000/\s.lev.length<=3/\∀ l∈s.lev,l.length<=1000:=by
 obtain⟨h1,h2,h3,h4,h5,h6,h7,h8,h9⟩:=h
 exact⟨by have:=h1.1; omega,by omega,fun l hl=>(h2 l hl).1⟩
theorem runOk_key {r:List Ent} (h:runOk r=true):∀ e∈r,e.key.size<=5:=by
 simp only [runOk,decide_eq_true_eq] at h
 intro e he
 obtain⟨i,hi,rfl⟩:=List.getElem_of_mem he
 have:=(h.1 i hi).1
 simp only [entOk,Bool.and_eq_true] at this
 exact keyOk_size this.1.1.1
theorem Val.key {s:Sr} (h:Val s):∀ e∈s.top++s.lev.flatten,e.key.size<=5:=by
 obtain⟨a,b,c,u,v,w,h⟩:=h
 rw [h.lev]
 intro e he
 simp only [List.flatten_cons,List.flatten_nil,List.append_nil,List.mem_append] at he
 rcases he with he | he | he | he
 ·exact runOk_key h.top e he
 ·exact runOk_key h.la.run e he
 ·exact runOk_key h.lb.run e he
 ·exact runOk_key h.lc.run e he
def SpJ (o N:Nat) (H:Hp) (L:Nat) (t:Tm) (H':Hp):Prop:=t 2=.pt H.length 0 0/\t 3=.pt L 0 0/\H'.at H.length=some ⟨[[.nils,.nils,.nils,.int .i64 0,.int .i64 0,.nils]],6,28,false⟩/\(∃ s,BoxS H' L s/\Spl s)/\Dr o H H'/\Rd H' o (N+410)
theorem BoxS.of {H:Hp} {L:Nat} {a b c d:AV} {s:Sr} {R:List (List AV)} (hb:H.at L=some ⟨R,6,28,false⟩) (hs:St H (.ag [a,b,c,.int .i64 s.keep,.int .i64 s.time,d]) s) (hB:StB s) :
  BoxS (List.set H L (some ⟨[[a,b,c,.int .i64 s.keep,.int .i64 s.time,d]],6,28,false⟩)) L s:=by
 have hs2:=hs.fr6 (Fr.one H L (some ⟨[[a,b,c,.int .i64 s.keep,.int .i64 s.time,d]],6,28,false⟩)) (fun y ob hy ho=>by rw [hy,hb] at ho; cases ho; rfl)
 obtain⟨a',b',c',d',e,n1,n2,n3,n4,_⟩:=hs.shape
 simp only [stAV,AV.ag.injEq,List.cons.injEq,and_true,true_and] at e
 obtain⟨rfl,rfl,rfl,rfl⟩:=e
 exact⟨a,b,c,d,Hp.at_set _ (Hp.at_lt hb),n1,n2,n3,n4,hs2,hB⟩
theorem SpJ.put {o N:Nat} {H K:Hp} {L:Nat} {t:Tm} {a b c d:AV} {s:Sr} {R:List (List AV)} (t2:t 2=.pt H.length 0 0) (t3:t 3=.pt L 0 0) (hb:K.at H.length=some ⟨[[.nils,.nils,.nils,.int .i64 0,.int .i64 0,.nils]],6,28,false⟩)
  (hc:K.at L=some ⟨R,6,28,false⟩) (hL:H.length<L) (ho:o<H.length) (hs:St K (.ag [a,b,c,.int .i64 s.keep,.int .i64 s.time,d]) s) (hB:StB s) (hV:Spl s) (hD:Dr o H K) {M:Nat} (hr:Rd K o M) (hM:M<=N+410) :
  SpJ o N H L t (List.set K L (some ⟨[[a,b,c,.int .i64 s.keep,.int .i64 s.time,d]],6,28,false⟩)):=by
 have F:=Fr.one K L (some ⟨[[a,b,c,.int .i64 s.keep,.int .i64 s.time,d]],6,28,false⟩)
 exact⟨t2,t3,(Hp.at_set_ne (by omega)).trans hb,⟨s,BoxS.of hc hs hB,hV⟩,hD.trans F (fun x hx=>.inr (by omega)),Rd.mono (hr.fr F (by omega) (fun x ob hx ho=>by rw [hx,hc] at ho; cases ho; simp)) hM⟩
theorem ok_head {s:Sr} (h:storeOk s=true):s.lev.length=3/\s.sv.length=3/\(0<=s.keep/\s.keep<=5)/\(0<=s.time/\s.time<=999)/\timesR s.tms s.time=true/\runOk s.top=true:=by
 simp only [storeOk,headOk,Bool.and_eq_true,decide_eq_true_eq] at h
 obtain⟨⟨⟨⟨⟨⟨h1,h2⟩,h3⟩,h4⟩,h5⟩,h6,h7⟩,h8⟩:=h
 exact⟨h1,h2,h3,h4,h5,h6⟩
theorem spoil_tms {s:Sr} (h:storeOk { s with tms:=s.tms++[s.time+1] }=true):Val { s with tms:=s.tms++[s.time+1] }:=by
 have h5:=(ok_head h).2.2.2.2.1
 simp only [timesR,Bool.and_eq_true] at h5
 have:=asc1_bnd _ _ _ h5.1 (s.time+1) (by simp)
 omega
theorem spoil_sv {s:Sr} (h0:storeOk s=true) (hl:0<s.lev.length) (hv:0<s.sv.length) (h:storeOk { s with sv:=s.sv.set 0 { (s.sv[0]'hv) with l:=(s.sv[0]'hv).l++⟨#[97]⟩ } }=true):False:=by
 have lv:∀ {q:Sr},storeOk q=true->levelOk q 0=true:=fun {q} hq=>by
  simp only [storeOk,Bool.and_eq_true,decide_eq_true_eq] at hq
  exact hq.2.1.1
 have a1:=lv h0
 have a2:=lv h
 simp only [levelOk,Bool.and_eq_true,decide_eq_true_eq] at a1 a2
 have e:=a1.2.symm.trans a2.2
 rw [getD_get default hv,getD_get default (by simpa using hv)] at e
 simp only [List.getElem_set_self,Option.some.injEq] at e
 have e2:=congrArg (fun q:Sv=>q.l.size) e
 simp only [ByteArray.size_append] at e2
 have:(⟨#[97]⟩:ByteArray).size=1:=rfl
 omega
theorem spoil_top {s:Sr} (h:storeOk { s with top:=s.top++[⟨⟨#[]⟩,0,false,0⟩] }=true):False:=by
 have h6:=(ok_head h).2.2.2.2.2
 simp only [runOk,decide_eq_true_eq] at h6
 have:=(h6.1 s.top.length (by simp)).1
 simp [entOk] at this
theorem lit2 {z:Nat} (hz:z<2):∃ k:Int,(k<0\/999<k)/\I64 k/\([[.int .i64 (-1)],[.int .i64 1000]]:List (List AV))[z]?=some [.int .i64 k]:=by
 have:z=0\/z=1:=by omega
 rcases this with rfl | rfl
 ·exact⟨-1,.inl (by decide),⟨by decide,by decide⟩,rfl⟩
 ·exact⟨1000,.inr (by decide),⟨by decide,by decide⟩,rfl⟩
set_option maxHeartbeats 1600000 in
theorem l71Spoilt_ok (o N:Nat) (H:Hp) (hr:Rd H o N) (hN:N<34359738368) :
  AC Tryz.prog E 69 [.pt o 0 0] H (fun v H'=>∃ s,St H' v s/\StB s/\Spl s/\Dr o H H'/\Rd H' o (N+410)):=by
 refine AC_by fol (tC_le tab2_ok) h_spec_l71Spoilt ?_
 have hol:=hr.lt
 obtain⟨H1,hH1⟩:∃ H1:Hp,H1=H++[some ⟨[[.nils,.nils,.nils,.int .i64 0,.int .i64 0,.nils]],6,28,false⟩]:=⟨_,rfl⟩
 have hle1:HLe H H1:=by rw [hH1]; exact HLe.self _ _
 have b1:H1.at H.length=some ⟨[[.nils,.nils,.nils,.int .i64 0,.int .i64 0,.nils]],6,28,false⟩:=by rw [hH1]; simp
 have hD1:Dr o H H1:=hle1.fr
 simp [c_spec_l71Spoilt,<- hH1]
 refine cg_ex (l71StoreM_ok o N H1 (hr.le hle1) hN) ?_
 rintro v H2 ⟨s,hm2,hsm,hok,hval,hd2,hr2⟩
 obtain⟨xa,xl,xs,xd,rfl,xn1,xn2,xdi⟩:=hm2.shape
 have b2:=hd2.2 _ _ (show ¬H.length=o by omega) b1
 obtain⟨H3,hH3⟩:∃ H3:Hp,H3=H2++[some ⟨[[xa,.sl xl 0 3,.sl xs 0 3,.int .i64 s.keep,.int .i64 s.time,xd]],6,28,false⟩]:=⟨_,rfl⟩
 have hle3:HLe H2 H3:=by rw [hH3]; exact HLe.self _ _
 have c3:H3.at H2.length=some ⟨[[xa,.sl xl 0 3,.sl xs 0 3,.int .i64 s.keep,.int .i64 s.time,xd]],6,28,false⟩:=by rw [hH3]; simp
 have b3:=hle3.2 _ _ b2
 have hr3:=hr2.le hle3
 have hm3:=(hm2.le hle3).base hle1.1
 have hD3:Dr o H H3:=(hD1.same hd2).le_fr hle3
 simp [xn1,xn2,<- hH3]
 refine cg_ex (pick_ok o _ 14 _ hr3 (by omega) (by omega)) ?_
 rintro v H4 ⟨n,rfl,hn,hd4,hr4,hlen⟩
 have l21:H.length<H2.length:=Hp.at_lt b2
 have b4:=hd4.2 _ _ (show ¬H.length=o by omega) b3
 have c4:=hd4.2 _ _ (show ¬H2.length=o by omega) c3
 have e2:∀ x ob,x=o->H3.at x=some ob->ob.esz=2\/ob.esz=6:=by
  intro x ob hx ho
  obtain⟨b,bs,p,h1,_⟩:=hr3
  rw [hx,h1] at ho
  cases ho
  exact .inl rfl
 have hm4:=hm3.frn hd4 e2
 have hD4:Dr o H H4:=hD3.same hd4
 have u4:=Hp.at_lt b4
 have hS:∀ y ob,y=H.length->H4.at y=some ob->ob.esz=6:=fun y ob hy ho=>by rw [hy,b4] at ho; cases ho; rfl
 simp
 refine c_split (fun hq=>?_) (fun hq=>?_)<;>simp at hq
 ·simp [c4,b4,xn1,xn2,Hp.at_set,u4]
  have F:=Fr.one H4 H.length (some ⟨[[xa,.sl xl 0 3,.sl xs 0 3,.int .i64 s.keep,.int .i64 s.time,xd]],6,28,false⟩)
  exact⟨s,hm4.st.fr6 F hS,hsm.stB,⟨fun _=>hval,hval.key,hsm.sml⟩,hD4.trans F (fun x hx=>.inr (by omega)),Rd.mono (hr4.fr F (by omega) (fun x ob hx ho=>by have:=hS x ob hx ho; omega)) (by omega)⟩
 rw [W_skip]
 refine W_cut (tC_mono AC_mono) (SpJ o N H H2.length) ?_ ?_
 ·simp
  refine cg_ex (pick_ok o _ 6 _ hr4 (by omega) (by omega)) ?_
  rintro v H5 ⟨q,rfl,hq6,hd5,hr5,hlen5⟩
  have b5:=hd5.2 _ _ (show ¬H.length=o by omega) b4
  have c5:=hd5.2 _ _ (show ¬H2.length=o by omega) c4
  have e4:∀ x ob,x=o->H4.at x=some ob->ob.esz=2\/ob.esz=6:=by
   intro x ob hx ho
   obtain⟨b,bs,p,h1,_⟩:=hr4
   rw [hx,h1] at ho
   cases ho
   exact .inl rfl
  have hm5:=hm4.frn hd5 e4
  have hD5:Dr o H H5:=hD4.same hd5
  have u5:=Hp.at_lt c5
  simp
  refine c_split (fun q0=>?_) (fun q0=>?_)<;>simp at q0
  ·simp
   refine cg_ex (pick_ok o _ 2 _ (hr5.le (HLe.self _ _)) (by omega) (by omega)) ?_
   rintro v H6 ⟨z,rfl,hz,hd6,hr6,hlen6⟩
   have b6:=hd6.2 _ _ (show ¬H.length=o by omega) ((HLe.self _ _).2 _ _ b5)
   have c6:=hd6.2 _ _ (show ¬H2.length=o by omega) ((HLe.self _ _).2 _ _ c5)
   have l6:=hd6.2 _ _ (show ¬H5.length=o by omega) (Hp.at_app_0.trans Hp.at_0)
   have e5:∀ x ob,x=o->(H5++[some ⟨[[.int .i64 (-1)],[.int .i64 1000]],1,3,false⟩]:Hp).at x=some ob->ob.esz=2\/ob.esz=6:=by
    intro x ob hx ho
    obtain⟨b,bs,p,h1,_⟩:=hr5.le (HLe.self H5 [some ⟨[[.int .i64 (-1)],[.int .i64 1000]],1,3,false⟩])
    rw [hx,h1] at ho
    cases ho
    exact .inl rfl
   have hm6:=(hm5.le (HLe.self _ _)).frn hd6 e5
   have hD6:Dr o H H6:=(hD5.app _).same hd6
   have u6:=Hp.at_lt c6
   have hz2:z<2:=by omega
   have hzI:(z:Int)<2:=by omega
   obtain⟨k,hkb,hk64,hk⟩:=lit2 hz2
   obtain⟨p1,p2,p3⟩:=hm6.parts
   simp [l6,hk,hzI,c6,u6]
   have hBs:=hsm.stB
   exact SpJ.put (s:={ s with time:=k }) (by simp) (by simp) b6 c6 l21 hol (hm6.upd (tp:=s.top) (ts:=s.tms) k p1 p2 p3 (fun y h=>h) (fun lr h _=>h)).st ⟨hBs.1,hBs.2.1,hBs.2.2.1,hBs.2.2.2.1,hBs.2.2.2.2.1,hBs.2.2.2.2.2.1,hk64,hBs.2.2.2.2.2.2.2.1,hBs.2.2.2.2.2.2.2.2⟩ ⟨fun h=>by have:=(ok_head h).2.2.2.1; simp only at this; omega,hval.key,hsm.sml⟩ hD6 hr6 (by omega)
  simp
  refine c_split (fun q1=>?_) (fun q1=>?_)<;>simp at q1
  ·obtain⟨p1,p2,p3⟩:=hm5.parts
   have ht:=storeOk_time hok
   have hlt:=(headI_parts (storeOk_ok hok).1).2.2.2.2.1
   simp [c5,ht]
   refine appG_one (bytes:=8) (R:=s.tms.map intRow) p2.1 (by have:=hsm.2.2.1; simp; omega) (fun v6 H6 g1 g2 g3=>?_)
   have nd:∀ {x:Nat} {ob:Ob},H5.at x=some ob->ob.ety≠3->¬xd.of x:=fun ho he hx=>he (p2.1.ety hx ho)
   have b6:=g2.2 _ _ (nd b5 (by simp)) b5
   have c6:=g2.2 _ _ (nd c5 (by simp)) c5
   have u6:=Hp.at_lt c6
   have hl5:=hD5.len
   have g1':OwnI H H6 v6 (s.tms++[s.time+1]):=⟨by simpa [intRow] using g1,fun y hy=>(g3 y hy).elim (p2.2 y) (fun h=>by omega)⟩
   have hm6:=hm5.app (ts:=s.tms++[s.time+1]) g2 g1' g3
   have hBs:=hsm.stB
   simp [c6,u6,g1.rows.one,g1.rows.cells,g1.rows.cells1]
   refine SpJ.put (s:={ s with tms:=s.tms++[s.time+1] }) (by simp) (by simp) b6 c6 l21 hol hm6.st ⟨hBs.1,hBs.2.1,hBs.2.2.1,hBs.2.2.2.1,by have:=hsm.2.2.1; simp; omega,hBs.2.2.2.2.2.1,hBs.2.2.2.2.2.2.1,hBs.2.2.2.2.2.2.2.1,fun t ht=>?_⟩ ⟨spoil_tms,hval.key,hsm.sml⟩ (hD5.trans g2 (fun x hx=>.inr (p2.2 x hx))) (hr5.fr2 g2 (fun x hx=>by have:=p2.2 x hx; omega)) (by omega)
   rcases List.mem_append.1 ht with h | h
   ·exact hBs.2.2.2.2.2.2.2.2 t h
   ·rw [List.mem_singleton.1 h]
    exact⟨by omega,by omega⟩
  simp
  refine c_split (fun q2=>?_) (fun q2=>?_)<;>simp at q2
  ·obtain⟨a',b',c',d',lr,sr,e,f1,f2,f3,f4,f5,f6⟩:=hm5.st
   simp only [stAV,AV.ag.injEq,List.cons.injEq,and_true,true_and] at e
   obtain⟨rfl,rfl,rfl,rfl⟩:=e
   have hlr3:lr.length=3:=by rw [f3.length]; exact hsm.2.2.2.2.2.2.2.1
   have hBs:=hsm.stB
   simp [c5]
   refine cutG_from f2 1 rfl (by omega) (fun u g1 g2=>?_)
   simp [c5,u5,g1.one,g1.cells,g1.cells1]
   exact SpJ.put (s:={ s with lev:=s.lev.drop 1 }) (by simp) (by simp) b5 c5 l21 hol ⟨xa,u,.sl xs 0 3,xd,lr.drop 1,sr,rfl,f1,g1,All2.drop f3 1,f4,f5,f6⟩ ⟨hBs.1,fun es he=>hBs.2.1 es (List.mem_of_mem_drop he),by have:=hBs.2.2.1; simp; omega,hBs.2.2.2⟩ ⟨fun h=>by have:=(ok_head h).1; have h3:=hsm.2.2.2.2.2.2.2.1; simp at this; omega,fun e he=>hval.key e (by
    rcases List.mem_append.1 he with h | h
    ·exact List.mem_append_left _ h
    ·obtain⟨l,h1,h2⟩:=List.mem_flatten.1 h
     exact List.mem_append_right _ (List.mem_flatten.2 ⟨l,List.mem_of_mem_drop h1,h2⟩)),hsm.sml.1,by have:=hsm.sml.2.1; simp; omega,fun l hl=>hsm.sml.2.2 l (List.mem_of_mem_drop hl)⟩ hD5 hr5 (by omega)
  simp
  refine c_split (fun q3=>?_) (fun q3=>?_)<;>simp at q3
  ·obtain⟨a2,ol2,os2,d2,lr,sr,hv,ha2,hlv,hlr,hsv,hsr,hd2',hdo2,hol2,hos2,hl3,hs3,hoff⟩:=hm5
   simp only [stAV,hl3,hs3,AV.ag.injEq,List.cons.injEq,AV.sl.injEq,and_true,true_and] at hv
   obtain⟨rfl,rfl,rfl,rfl⟩:=hv
   have hsv':=hsv
   obtain⟨e2,obs,j1,j2,j3,j4,j5,j6⟩:=hsv'.ob
   have hsr3:sr.length=3:=by omega
   obtain⟨x0,hx0⟩:∃ x0,x0=s.sv[0]'(by omega):=⟨_,rfl⟩
   obtain⟨r0,hr0,hr1,_⟩:=hsr.get 0 (by omega) (by omega)
   rw [<- hx0] at hr0 hr1
   have hx0l:x0.l.size<=12000:=by rw [hx0]; exact storeOk_l0 hok (by omega)
   have hsz:x0.l.size+(⟨#[97]⟩:ByteArray).size<=9223372036854775807:=by
    have:(⟨#[97]⟩:ByteArray).size=1:=rfl
    omega
   have j7:obs.rows[0]?=some [.str x0.l,.str x0.m,.str x0.f,r0,.int .i64 x0.k]:=by
    have:(obs.rows.take sr.length)[0]?=sr[0]?:=by rw [j6]
    rw [List.getElem?_take,if_pos (by omega)] at this
    rw [this,List.getElem?_eq_getElem (by omega),hr0]
   have u1:=Hp.at_lt j1
   simp [c5,j1,j2,j3,j7,hsz,u1]
   obtain⟨K,hK⟩:∃ K:Hp,K=List.set H5 xs (some ⟨obs.rows.set 0 [.str (x0.l++⟨#[97]⟩),.str x0.m,.str x0.f,r0,.int .i64 x0.k],5,obs.ety,false⟩):=⟨_,rfl⟩
   rw [<- hK]
   have F:Fr (fun y=>y=xs) H5 K:=by rw [hK]; exact Fr.one _ _ _
   have jK:K.at xs=some { obs with rows:=obs.rows.set 0 [.str (x0.l++⟨#[97]⟩),.str x0.m,.str x0.f,r0,.int .i64 x0.k] }:=by rw [hK,Hp.at_set _ u1,<- j2,<- j3]
   have n5:∀ {e:Nat},e≠5->∀ x ob,x=xs->H5.at x=some ob->ob.esz≠e:=fun he x ob hx ho=>by
    rw [hx,j1] at ho
    cases ho
    omega
   have ne6:∀ {x:Nat} {ob:Ob},H5.at x=some ob->ob.esz=6->¬x=xs:=fun ho he hx=>by
    rw [hx,j1] at ho
    cases ho
    omega
   have hsvK:=hsv.setRow j1 0 _ jK
   have hBs:=hsm.stB
   refine⟨by simp,by simp,F.2 _ _ (ne6 b5 rfl) b5,⟨{ s with sv:=s.sv.set 0 { x0 with l:=x0.l++⟨#[97]⟩ } },⟨xa,.sl xl 0 3,.sl xs 0 3,xd,F.2 _ _ (ne6 c5 rfl) c5,xn1,by simp,by simp,xn2,?_,hBs.1,hBs.2.1,hBs.2.2.1,by simpa using hBs.2.2.2.1,hBs.2.2.2.2.1,fun y hy=>?_,hBs.2.2.2.2.2.2⟩,⟨fun h=>by rw [hx0] at h; exact (spoil_sv hok (by have:=hsm.2.2.2.2.2.2.2.1; omega) (by omega) h).elim,hval.key,hsm.sml⟩⟩,hD5.trans F (fun x hx=>.inr (by omega)),Rd.mono (hr5.fr2 F (fun x hx=>by omega)) (by omega)⟩
   ·refine⟨xa,.sl xl 0 3,.sl xs 0 3,xd,lr,sr.set 0 [.str (x0.l++⟨#[97]⟩),.str x0.m,.str x0.f,r0,.int .i64 x0.k],rfl,Rows.frz ha2.ents F (n5 (by simp)),?_,All2.mono (fun _ _ h=>h.fr F (n5 (by simp))) hlr,?_,All2.set (All2.mono (fun row sv h=>?_) hsr) 0 ⟨r0,rfl,Rows.frz hr1 F (n5 (by simp)),fun _ _ h=>h⟩,Rows.frz hd2'.ints F (n5 (by simp))⟩
    ·rw [<- hl3]
     exact Rows.frz hlv.rows F (n5 (by simp))
    ·rw [<- hs3]
     exact hsvK.rows
    ·obtain⟨r,e1,e2,_⟩:=h
     exact⟨r,e1,Rows.frz e2 F (n5 (by simp)),fun _ _ h=>h⟩
   ·rcases List.mem_or_eq_of_mem_set hy with h | h
    ·exact hBs.2.2.2.2.2.1 y h
    ·rw [h]
     exact hBs.2.2.2.2.2.1 x0 (by rw [hx0]; exact List.getElem_mem _)
  simp
  refine c_split (fun q4=>?_) (fun q4=>?_)<;>simp at q4
  ·obtain⟨a',b',c',d',lr,sr,e,f1,f2,f3,f4,f5,f6⟩:=hm5.st
   simp only [stAV,AV.ag.injEq,List.cons.injEq,and_true,true_and] at e
   obtain⟨rfl,rfl,rfl,rfl⟩:=e
   have hBs:=hsm.stB
   simp [c5,u5]
   exact SpJ.put (s:={ s with keep:=6 }) (by simp) (by simp) b5 c5 l21 hol ⟨xa,_,_,xd,lr,sr,rfl,f1,f2,f3,f4,f5,f6⟩ ⟨hBs.1,hBs.2.1,hBs.2.2.1,hBs.2.2.2.1,hBs.2.2.2.2.1,hBs.2.2.2.2.2.1,hBs.2.2.2.2.2.2.1,⟨by simp,by simp⟩,hBs.2.2.2.2.2.2.2.2⟩ ⟨fun h=>by have:=(ok_head h).2.2.1; simp at this,hval.key,hsm.sml⟩ hD5 hr5 (by omega)
  ·obtain⟨p1,p2,p3⟩:=hm5.parts
   simp [c5]
   refine appG_one (bytes:=40) (R:=s.top.map entRow) p1.1 (by have:=hsm.1.1; simp; omega) (fun v6 H6 g1 g2 g3=>?_)
   have nd:∀ {x:Nat} {ob:Ob},H5.at x=some ob->ob.ety≠99->¬xa.of x:=fun ho he hx=>he (p1.1.ety hx ho)
   have b6:=g2.2 _ _ (nd b5 (by simp)) b5
   have c6:=g2.2 _ _ (nd c5 (by simp)) c5
   have u6:=Hp.at_lt c6
   have g1':Ents H6 v6 (s.top++[⟨⟨#[]⟩,0,false,0⟩]):=by
    have:=g1.rows
    simpa [entRow,Ents] using this
   have hBs:=hsm.stB
   simp [c6,u6,g1.rows.one,g1.rows.cells,g1.rows.cells1]
   refine SpJ.put (s:={ s with top:=s.top++[⟨⟨#[]⟩,0,false,0⟩] }) (by simp) (by simp) b6 c6 l21 hol (hm5.appT g2 g1') ⟨⟨by have:=hsm.1.1; simp; omega,fun e he=>?_⟩,hBs.2⟩ ⟨fun h=>(spoil_top h).elim,fun e he=>by
    rcases List.mem_append.1 he with h | h
    ·rcases List.mem_append.1 h with h | h
     ·exact hval.key e (List.mem_append_left _ h)
     ·rw [List.mem_singleton.1 h]
      exact Nat.zero_le _
    ·exact hval.key e (List.mem_append_right _ h),by have:=hsm.1.1; simp; omega,hsm.sml.2⟩ (hD5.trans g2 (fun x hx=>.inr (p1.2 x hx))) (hr5.fr2 g2 (fun x hx=>by have:=p1.2 x hx; omega)) (by omega)
   rcases List.mem_append.1 he with h | h
   ·exact hBs.1.2 e h
   ·rw [List.mem_singleton.1 h]
    exact⟨by show (0:Nat)<_; omega,⟨by simp,by simp⟩,⟨by simp,by simp⟩⟩
 rintro t H5 ⟨t2,t3,b5,⟨s',⟨a',b',c',d',c5,n1,n2,n3,n4,hs5,hB5⟩,hV5⟩,hD5,hr5⟩
 have u5:=Hp.at_lt b5
 simp [t2,t3,c5,b5,n1,n2,n3,n4,Hp.at_set,u5]
 have F:=Fr.one H5 H.length (some ⟨[[a',b',c',.int .i64 s'.keep,.int .i64 s'.time,d']],6,28,false⟩)
 have hS5:∀ y ob,y=H.length->H5.at y=some ob->ob.esz=6:=fun y ob hy ho=>by rw [hy,b5] at ho; cases ho; rfl
 exact⟨s',hs5.fr6 F hS5,hB5,hV5,hD5.trans F (fun x hx=>.inr (by omega)),Rd.mono (hr5.fr F (by omega) (fun x ob hx ho=>by have:=hS5 x ob hx ho; omega)) (by omega)⟩
end Go.Proofs.YtgoeenodllmdpaaGreat.B

namespace Go.Proofs.YtgoeenodllmdpaaGreat.B
open Go.RowKit Go.Proofs
set_option linter.unusedVariables false
set_option linter.unusedSimpArgs false
variable {E:Env}
end Go.Proofs.YtgoeenodllmdpaaGreat.B

namespace Go.Proofs.YtgoeenodllmdpaaGreat.B
open Go.RowKit Go.Proofs
set_option linter.unusedVariables false
set_option linter.unusedSimpArgs false
variable {E:Env}
end Go.Proofs.YtgoeenodllmdpaaGreat.B

namespace Go.Proofs.YtgoeenodllmdpaaGreat.B
open Go.RowKit
set_option linter.unusedVariables false
set_option linter.unusedSimpArgs false
end Go.Proofs.YtgoeenodllmdpaaGreat.B

namespace Go.Proofs.YtgoeenodllmdpaaGreat.B
open Go.RowKit Go.Proofs
set_option linter.unusedVariables false
set_option linter.unusedSimpArgs false
variable {E:Env}
theorem St.frE {S:Nat->Prop} {e:Nat} {H H':Hp} {v:AV} {s:Sr} (h:St H v s) (hf:Fr S H H') (he:e≠1/\e≠4/\e≠5) (hS:∀ y ob,S y->H.at y=some ob->ob.esz=e):St H' v s:=by
 obtain⟨a,b,c,d,lr,sr,e0,h1,h2,h3,h4,h5,h6⟩:=h
 have n:∀ {k:Nat},e≠k->∀ y ob,S y->H.at y=some ob->ob.esz≠k:=fun hk y ob hy ho=>by rw [hS y ob hy ho]; exact hk
 exact⟨a,b,c,d,lr,sr,e0,Rows.frz h1 hf (n he.2.1),Rows.frz h2 hf (n he.1),All2.mono (fun _ _ ⟨u,k1,k2⟩=>⟨u,k1,Rows.frz k2 hf (n he.2.1)⟩) h3,Rows.frz h4 hf (n he.2.2),All2.mono (fun _ _ ⟨u,k1,k2,k3⟩=>⟨u,k1,Rows.frz k2 hf (n he.1),k3⟩) h5,Rows.frz h6 hf (n he.1)⟩
end Go.Proofs.YtgoeenodllmdpaaGreat.B

namespace Go.Proofs.YtgoeenodllmdpaaGreat.B
open Go.RowKit Go.Proofs
set_option linter.unusedVariables false
set_option linter.unusedSimpArgs false
variable {E:Env}
end Go.Proofs.YtgoeenodllmdpaaGreat.B

namespace Go.Proofs.YtgoeenodllmdpaaGreat.B
open Go.RowKit Go.Proofs
set_option linter.unusedVariables false
set_option linter.unusedSimpArgs false
variable {E:Env}
theorem Rd.e2 {K:Hp} {r M:Nat} (hr:Rd K r M):∀ x ob,x=r->K.at x=some ob->ob.esz=2:=by
 intro x ob hx ho
 obtain⟨b,bs,p,h1,_⟩:=hr
 rw [hx,h1] at ho
 cases ho
 rfl
theorem keysR_size {r:List Ent} {B:Nat} (h:∀ e∈r,e.key.size<=B):∀ k∈keysR r,k.size<=B:=by
 intro k hk
 obtain⟨e,he,rfl⟩:=keys1_mem none r k hk
 exact h e he
set_option maxHeartbeats 1600000 in
theorem l71Of_ok (o N:Nat) (v:AV) (s:Sr) (H:Hp) (hr:Rd H o N) (hN:N<34359738368) (hs:St H v s) (hp:Spl s) :
  AC Tryz.prog E 111 [.pt o 0 0,v] H (fun u H'=>∃ k,u=.str k/\k.size<=5/\Dr o H H'/\Rd H' o (N+7)):=by
 obtain⟨a,b,c,d,lr,sr,rfl,f1,f2,f3,f4,f5,f6⟩:=hs
 refine AC_by fol (tC_le tab2_ok) h_spec_l71Of ?_
 obtain⟨H1,hH1⟩:∃ H1:Hp,H1=H++[some ⟨[[a,b,c,.int .i64 s.keep,.int .i64 s.time,d]],6,28,false⟩]:=⟨_,rfl⟩
 have hle1:HLe H H1:=by rw [hH1]; exact HLe.self _ _
 have b0:H1.at H.length=some ⟨[[a,b,c,.int .i64 s.keep,.int .i64 s.time,d]],6,28,false⟩:=by rw [hH1]; simp
 have ll:=f3.length
 have l1:=f2.len
 rw [ll] at l1
 obtain⟨z1,z2,z3⟩:=hp.sml
 simp [c_spec_l71Of,stAV,Rows.one f1,f2.one,f4.one,Rows.one f6,<- hH1,b0]
 refine cg_ex (l11Keys_ok a s.top H1 (f1.le hle1) (by omega)) ?_
 rintro v0 H2 ⟨hle2,hv0⟩
 simp
 refine W_for (fun m t H'=>∃ (i:Nat) (out:List ByteArray) (w:AV),i+m=s.lev.length/\t 0=.pt o 0 0/\t 3=.pt H.length 0 0/\t 5=w/\t 6=.int .i64 i/\HLe H1 H'/\OwnS H1 H' w out/\out.length<=2000+1000 * i/\∀ k∈out,k.size<=5) s.lev.length ?_ (tC_mono AC_mono) ?_
 ·refine⟨0,keysR s.top,v0,by omega,by simp,by simp,by simp,by simp,hle2,hv0,?_,keysR_size (fun e he=>hp.key e (List.mem_append_left _ he))⟩
  have:=keysR_len s.top
  omega
 rintro m t H' ⟨i,out,w,him,t0,t3,t5,t6,hle,hw,hol,hok⟩
 have c0:=hle.2 _ _ b0
 have hleH:=hle1.trans hle
 simp [t0,t3,t5,t6,c0,l1,f2.slc]
 refine c_split (fun hq=>?_) (fun hq=>?_)<;>simp at hq
 ·have hi:i<s.lev.length:=by omega
  have hw2:=wrapN (i:=i) (by omega)
  obtain⟨o1,i1,ob1,rfl,x1,x2,x3⟩:=f2.get (j:=i) (by omega)
  obtain⟨u,hu,hue⟩:=f3.get i (by omega) hi
  rw [hu] at x3
  have x1':=hleH.2 _ _ x1
  have q1:i<lr.length:=by omega
  have hlen:=z3 _ (List.getElem_mem hi)
  simp [t0,t3,t5,t6,c0,x1',x2,x3,q1]
  refine cg_ex (l11Keys_ok u s.lev[i] H' (hue.le hleH) (by omega)) ?_
  rintro v1 H3 ⟨hle3,hv1⟩
  have hk1:=keysR_len s.lev[i]
  have hw3:=hw.le hle3
  simp [t0,t3,t5,t6]
  refine appG_cat (bytes:=16) hw3 hv1.rows (hle.trans hle3) (by omega) (fun v2 H4 g1 g2 g3 g4=>?_)
  simp [t0,t3,t5,t6,hw2]
  refine⟨m-1,by omega,i+1,by omega,by omega,g1,out++keysR s.lev[i],g2,by rw [List.length_append]; omega,fun k hk=>?_⟩
  rcases List.mem_append.1 hk with h | h
  ·exact hok k h
  ·exact keysR_size (fun e he=>hp.key e (List.mem_append_right _ (List.mem_flatten.2 ⟨_,List.getElem_mem hi,he⟩))) k h
 ·simp [t0,t5]
  refine cg_ex (l71Near_ok o N w out H' (hr.le hleH) hw.rows (by omega) hok (by omega)) ?_
  rintro v1 H3 ⟨k,rfl,hk,hd,hr3⟩
  simp
  exact⟨hk,(hleH.fr (S:=fun x=>x=o)).same hd,hr3⟩
def DrawnK (H H':Hp) (v:AV):Prop:=∃ w s k n,v=.tu [w,.str k,.int .i64 n]/\HLe H H'/\St H' w s/\StB s/\Spl s/\k.size<=5
end Go.Proofs.YtgoeenodllmdpaaGreat.B

namespace Go.Proofs.YtgoeenodllmdpaaGreat.B
open Go.RowKit Go.Proofs
set_option linter.unusedVariables false
set_option linter.unusedSimpArgs false
variable {E:Env}
theorem St.box {H K:Hp} {a b c d:AV} {s:Sr} (h:St H (.ag [a,b,c,.int .i64 s.keep,.int .i64 s.time,d]) s) (hK:K=H++[some ⟨[[a,b,c,.int .i64 s.keep,.int .i64 s.time,d]],6,28,false⟩]) :
  HLe H K/\K.at H.length=some ⟨[[a,b,c,.int .i64 s.keep,.int .i64 s.time,d]],6,28,false⟩/\St K (.ag [a,b,c,.int .i64 s.keep,.int .i64 s.time,d]) s:=by
 have hle:HLe H K:=by rw [hK]; exact HLe.self _ _
 exact⟨hle,by rw [hK]; simp,h.le hle⟩
end Go.Proofs.YtgoeenodllmdpaaGreat.B

namespace Go.Proofs.YtgoeenodllmdpaaGreat.B
open Go.RowKit Go.Proofs
set_option linter.unusedVariables false
set_option linter.unusedSimpArgs false
variable {E:Env}
end Go.Proofs.YtgoeenodllmdpaaGreat.B

namespace Go.Proofs.YtgoeenodllmdpaaGreat.B
open Go.RowKit Go.Proofs
set_option linter.unusedVariables false
set_option linter.unusedSimpArgs false
variable {E:Env}
end Go.Proofs.YtgoeenodllmdpaaGreat.B

namespace Go.Proofs.YtgoeenodllmdpaaGreat.B
open Go.RowKit Go.Proofs
set_option linter.unusedVariables false
set_option linter.unusedSimpArgs false
variable {E:Env}
theorem St.ints {H:Hp} {a b c d:AV} {k t:Int} {s:Sr} (h:St H (.ag [a,b,c,.int .i64 k,.int .i64 t,d]) s):Ints H d s.tms:=by
 obtain⟨a1,b1,c1,d1,lr,sr,e,_,_,_,_,_,hd⟩:=h
 simp only [stAV,AV.ag.injEq,List.cons.injEq,and_true,true_and] at e
 obtain⟨rfl,rfl,rfl,_,_,rfl⟩:=e
 exact hd
theorem St.put6 {H K:Hp} {o:Nat} {a b c d:AV} {s:Sr} {R:List (List AV)} (hle:HLe H K) (ho:H.length<=o) (hb:K.at o=some ⟨R,6,28,false⟩) (hs:St K (.ag [a,b,c,.int .i64 s.keep,.int .i64 s.time,d]) s) (X:Option Ob) :
  HLe H (List.set K o X)/\St (List.set K o X) (.ag [a,b,c,.int .i64 s.keep,.int .i64 s.time,d]) s:=by
 have F:=Fr.one K o X
 refine⟨hle.fr_le F (fun x hx=>by omega),hs.frE F (e:=6) (by simp) (fun y ob hy hob=>?_)⟩
 rw [hy,hb] at hob
 cases hob
 rfl
end Go.Proofs.YtgoeenodllmdpaaGreat.B

namespace Go.Proofs.YtgoeenodllmdpaaGreat.B
open Go.RowKit Go.Proofs
set_option linter.unusedVariables false
set_option linter.unusedSimpArgs false
variable {E:Env}
set_option maxHeartbeats 1600000 in
theorem l71Time_ok (o N:Nat) (v:AV) (s:Sr) (H:Hp) (hr:Rd H o N) (hN:N<34359738368) (hs:St H v s) (hB:StB s) :
  AC Tryz.prog E 112 [.pt o 0 0,v] H (fun u H'=>∃ n,u=.int .i64 n/\Dr o H H'/\Rd H' o (N+2)):=by
 obtain⟨a,b,c,d,rfl,n1,n2,n3,n4,_⟩:=hs.shape
 refine AC_by fol (tC_le tab2_ok) h_spec_l71Time ?_
 obtain⟨H1,hH1⟩:∃ H1:Hp,H1=H++[some ⟨[[a,b,c,.int .i64 s.keep,.int .i64 s.time,d]],6,28,false⟩]:=⟨_,rfl⟩
 have hle1:HLe H H1:=by rw [hH1]; exact HLe.self _ _
 have b0:H1.at H.length=some ⟨[[a,b,c,.int .i64 s.keep,.int .i64 s.time,d]],6,28,false⟩:=by rw [hH1]; simp
 have hol:=hr.lt
 have hne:¬H.length=o:=by omega
 have hr1:=hr.le hle1
 have hs1:=hs.le hle1
 have hd:=hs1.ints
 have ld:=hd.len
 have hnl:s.tms.length<1099511627776:=hB.2.2.2.2.1
 simp [c_spec_l71Time,n1,n2,n3,n4,<- hH1,b0,ld,hd.slc]
 by_cases hl:0<s.tms.length
 ·have hlI:(0:Int)<s.tms.length:=by omega
  simp [hl,hlI]
  refine cg_ex (pick_ok o N 2 H1 hr1 (by omega) (by omega)) ?_
  rintro v H2 ⟨n,rfl,hn,hd2,hr2,_⟩
  have b2:=hd2.2 _ _ hne b0
  have hs2:=hs1.frE hd2 (e:=2) (by simp) hr1.e2
  have hdd:=hs2.ints
  have ldd:=hdd.len
  simp
  refine c_split (fun hq=>?_) (fun hq=>?_)<;>simp at hq
  ·simp [b2,ldd,hdd.slc]
   refine cg_ex (pick_ok o _ _ H2 hr2 (by omega) (by omega)) ?_
   rintro v H3 ⟨j,rfl,hj,hd3,hr3,_⟩
   have b3:=hd3.2 _ _ hne b2
   have hs3:=hs2.frE hd3 (e:=2) (by simp) hr2.e2
   have hj':j<s.tms.length:=by omega
   obtain⟨o1,i1,ob1,hsl,x1,x2,x3⟩:=hs3.ints.get hj'
   subst hsl
   simp [b3,x1,x2,x3,hj']
   exact⟨((hle1.fr (S:=fun x=>x=o)).same hd2).same hd3,Rd.mono hr3 (by omega)⟩
  ·simp [b2]
   refine cg_ex (pick_ok o _ 8 H2 hr2 (by omega) (by omega)) ?_
   rintro v H3 ⟨j,rfl,hj,hd3,hr3,_⟩
   have b3:=hd3.2 _ _ hne b2
   simp [b3]
   exact⟨((hle1.fr (S:=fun x=>x=o)).same hd2).same hd3,Rd.mono hr3 (by omega)⟩
 ·have hlI:¬(0:Int)<s.tms.length:=by omega
  simp [hl,hlI,b0]
  refine cg_ex (pick_ok o _ 8 H1 hr1 (by omega) (by omega)) ?_
  rintro v H3 ⟨j,rfl,hj,hd3,hr3,_⟩
  have b3:=hd3.2 _ _ hne b0
  simp [b3]
  exact⟨(hle1.fr (S:=fun x=>x=o)).same hd3,Rd.mono hr3 (by omega)⟩
set_option maxHeartbeats 1600000 in
theorem DrawStoreGet_ok (c:AV) (bs:List Int) (H:Hp) (hc:Bytes H c bs) (hn:bs.length<4611686018427387904) :
  AC Tryz.prog E 39 [c] H (fun v H'=>DrawnK H H' v):=by
 refine AC_by fol (tC_le tab2_ok) h_spec_DrawStoreGet ?_
 obtain⟨H1,hH1⟩:∃ H1:Hp,H1=H++[some ⟨[[.nils,.nils,.nils,.int .i64 0,.int .i64 0,.nils]],6,28,false⟩]:=⟨_,rfl⟩
 have hle1:HLe H H1:=by rw [hH1]; exact HLe.self _ _
 have b1:H1.at H.length=some ⟨[[.nils,.nils,.nils,.int .i64 0,.int .i64 0,.nils]],6,28,false⟩:=by rw [hH1]; simp
 simp [c_spec_DrawStoreGet,<- hH1]
 refine cg_ex (l6Open_ok c bs H1 ⟨hc.1.le hle1,hc.2⟩ hn) ?_
 rintro v H2 ⟨r,rfl,ho,hle2,hr2⟩
 have hol:=hr2.lt
 have lH:H.length<H1.length:=Hp.at_lt b1
 have b2:=hle2.2 _ _ b1
 simp
 refine cg_ex (l71Spoilt_ok r 0 H2 hr2 (by omega)) ?_
 rintro w H3 ⟨s,hs,hsb,hsp,hd3,hr3⟩
 obtain⟨xa,xb,xc,xd,rfl,n1,n2,n3,n4,_⟩:=hs.shape
 have b3:=hd3.2 _ _ (show ¬H.length=r by omega) b2
 have hle3:HLe H H3:=(hle1.trans hle2).fr_le hd3 (fun x hx=>by omega)
 obtain⟨H4,hH4⟩:∃ H4:Hp,H4=H3++[some ⟨[[xa,xb,xc,.int .i64 s.keep,.int .i64 s.time,xd]],6,28,false⟩]:=⟨_,rfl⟩
 obtain⟨hle4,c4,hs4⟩:=hs.box hH4
 have b4:=hle4.2 _ _ b3
 have hr4:=hr3.le hle4
 have hle14:=hle3.trans hle4
 have l34:=Hp.at_lt c4
 have l3:=hd3.len
 simp [n1,n2,n3,n4,<- hH4,c4]
 refine cg_ex (l71Of_ok r _ _ s H4 hr4 (by omega) hs4 hsp) ?_
 rintro v H5 ⟨k,rfl,hk,hd5,hr5⟩
 have b5:=hd5.2 _ _ (show ¬H.length=r by omega) b4
 have c5:=hd5.2 _ _ (show ¬H3.length=r by omega) c4
 have hs5:=hs4.frE hd5 (e:=2) (by simp) hr4.e2
 have hle15:=hle14.fr_le hd5 (fun x hx=>by omega)
 simp [c5]
 refine cg_ex (l71Time_ok r _ _ s H5 hr5 (by omega) hs5 hsb) ?_
 rintro v H6 ⟨n,rfl,hd6,hr6⟩
 have b6:=hd6.2 _ _ (show ¬H.length=r by omega) b5
 have c6:=hd6.2 _ _ (show ¬H3.length=r by omega) c5
 have hs6:=hs5.frE hd6 (e:=2) (by simp) hr5.e2
 have hle16:=hle15.fr_le hd6 (fun x hx=>by omega)
 have u6:=Hp.at_lt b6
 simp [c6,b6,u6,n1,n2,n3,n4,Hp.at_set]
 obtain⟨z1,z2⟩:=hs6.put6 hle16 (Nat.le_refl _) b6 (some ⟨[[xa,xb,xc,.int .i64 s.keep,.int .i64 s.time,xd]],6,28,false⟩)
 exact⟨_,s,_,_,rfl,z1,z2,hsb,hsp,hk⟩
end Go.Proofs.YtgoeenodllmdpaaGreat.B

namespace Go.Proofs.YtgoeenodllmdpaaGreat.B
open Go.RowKit Go.Proofs
set_option linter.unusedVariables false
set_option linter.unusedSimpArgs false
theorem gotR_zero {s:Sr} (hv:storeOk s=true->Val s) {k:ByteArray} {t:Int} (h:(gotR s k t).2=false):(gotR s k t).1=0:=by
 unfold gotR at h ⊢
 split at h
 ·rename_i hc
  rw [if_pos hc] at *
  have hs:=hv hc.1
  cases hg:getR s k t with
  | none=>rfl
  | some e =>
   rw [hg] at h
   have he:=hs.best.1 hg
   have h2:e.gone=true:=by simpa using h
   exact entOk_gone (hs.ent e he.mem) h2
 ·rename_i hc
  rw [if_neg hc]
end Go.Proofs.YtgoeenodllmdpaaGreat.B

namespace Go.Proofs.YtgoeenodllmdpaaGreat.B
open Go.RowKit Go.Proofs
set_option linter.unusedVariables false
set_option linter.unusedSimpArgs false
variable {E:Env}
def inK (k:ByteArray) (ks:List ByteArray):Bool:=ks.any (fun x=>decide (x=k))
theorem inK_yes {k:ByteArray} {ks:List ByteArray} (h:k∈ks):inK k ks=true:=List.any_eq_true.2 ⟨k,h,by simp⟩
theorem inK_no {k:ByteArray} {ks:List ByteArray} (h:¬k∈ks):inK k ks=false:=by
 cases hb:inK k ks with
 | false=>rfl
 | true =>
  obtain⟨x,hx,he⟩:=List.any_eq_true.1 hb
  have:x=k:=by simpa using he
  exact absurd (this ▸ hx) h
def InI (a:AV) (ks:List ByteArray) (k:ByteArray) (H:Hp) (m:Nat) (t:Tm) (K:Hp):Prop:=∃ i:Nat,i+m=ks.length/\t 0=a/\t 1=.str k/\t 5=.int .i64 i/\(∀ j:Nat,∀ h:j<ks.length,j<i->ks[j]≠k)/\K=H
theorem ltIn_ok (a:AV) (ks:List ByteArray) (k:ByteArray) (H:Hp) (ha:Strs H a ks) (hn:ks.length<1099511627776) :
  AC Tryz.prog E 43 [a,.str k] H (fun v H'=>v=.bool (inK k ks)/\H'=H):=by
 refine AC_byp (tC_le tab2_ok) h_laws_ltIn (by simp) ?_
 have l1:=ha.len
 simp [c_laws_ltIn]
 refine W_for (InI a ks k H) ks.length ?_ (tC_mono AC_mono) ?_
 ·exact⟨0,by omega,by simp,by simp,by simp,fun j _ hj=>by omega,rfl⟩
 rintro m t K ⟨i,him,t0,t1,t5,hno,rfl⟩
 simp [t0,t1,t5,l1,ha.slc]
 refine c_split (fun hq=>?_) (fun hq=>?_)<;>simp at hq
 ·have hi:i<ks.length:=by omega
  have hw:=wrapN (i:=i) (by omega)
  obtain⟨o1,i1,ob1,e1,x1,x2,x3⟩:=Strs.get ha hi
  subst e1
  by_cases he:ks[i]=k
  ·have hm:inK k ks=true:=inK_yes (by rw [<- he]; exact List.getElem_mem hi)
   simp [t0,t1,t5,hi,x1,x2,x3,he,hm]
  ·simp [t0,t1,t5,hi,x1,x2,x3,he,hw]
   refine⟨m-1,by omega,i+1,by omega,by simp [t0],by simp [t1],by simp,fun j h hj=>?_,rfl⟩
   by_cases hji:j=i
   ·subst hji
    exact he
   ·exact hno j h (by omega)
 ·have hm:¬k∈ks:=fun hm=>by
   obtain⟨j,hj,e⟩:=List.getElem_of_mem hm
   exact hno j hj (by omega) e
  simp [inK_no hm]
theorem iSieveOk_ok (ks:List ByteArray) (keep:Int) (r:AV) (H:Hp) (hk:keysOk ks=true) (hkp:0<=keep/\keep<=5) (hr:Strs H r (sieveR ks keep).r) :
  AC Tryz.prog E 115 [svAV (sieveR ks keep) r] H (fun v H'=>v=.bool true/\H'=H):=by
 refine AC_byp (tC_le tabJ_ok) h_impl_SieveOk (by simp) ?_
 obtain⟨H1,hH1,hle1,b0⟩:=svBox (sieveR ks keep) r H
 have hr1:=Rows.one hr
 have cH:=heads_ok (E:=E) ks keep r H1 hk hkp (hr.le hle1)
 simp only [svAV] at cH
 simp [c_impl_SieveOk,svAV,hr1,<- hH1,b0]
 refine cg_ex cH ?_
 rintro u H2 ⟨w,rfl,hle2,hw⟩
 simp
 exact hle1.trans hle2
theorem iSieveHas_ok (ks:List ByteArray) (keep:Int) (r:AV) (k:ByteArray) (H:Hp) (hk:keysOk ks=true) (hkp:0<=keep/\keep<=5) (hr:Strs H r (sieveR ks keep).r) (hkk:keyOk k=true) :
  AC Tryz.prog E 44 [svAV (sieveR ks keep) r,.str k] H (fun v H'=>v=.bool (hasR ks keep k)/\H'=H):=by
 refine AC_byp (tC_le tabJ_ok) h_impl_SieveHas (by simp) ?_
 obtain⟨F,L,h⟩:=Svt.of hk hkp
 obtain⟨H1,hH1,hle1,b0⟩:=svBox (sieveR ks keep) r H
 have hks:=keyOk_size hkk
 have hr1:=Rows.one hr
 have hkey:∀ {C:CallP} {d:Option Nat} {ag} {p:Plan} {t:Tm} {H:Hp} {K:Tm->Hp->Prop},_:=@fun C d ag p t H K=>tabJ_key C d ag p t H K k (by omega)
 have cO:=iSieveOk_ok (E:=E) ks keep r H1 hk hkp (hr.le hle1)
 have cA:=has_ok (E:=E) _ r k ks keep F L H1 h (hr.le hle1) hkk
 simp only [svAV] at cO cA
 simp [c_impl_SieveHas,svAV,hr1,<- hH1,b0]
 refine cg_use cO ?_
 simp [hkey,hkk,b0]
 refine cg_use cA ?_
 simp [hle1]
theorem looks1_ok (ks:List ByteArray) (keep:Int) (r:AV) (k:ByteArray) (o:Nat) (ob:Ob) (H:Hp) (hk:keysOk ks=true) (hkp:0<=keep/\keep<=5) (hr:Strs H r (sieveR ks keep).r) (hkk:keyOk k=true) (ho:H.at o=some ob) (hb:ob.rows[0]?=some [.str k]) :
  AC Tryz.prog E 109 [svAV (sieveR ks keep) r,.pt o 0 0] H (fun v H'=>v=.bool (hasR ks keep k)/\H'=H):=by
 refine AC_byp (tC_le tabJ_ok) h_impl_StoreLooks_1 (by simp) ?_
 obtain⟨F,L,h⟩:=Svt.of hk hkp
 obtain⟨H1,hH1,hle1,b0⟩:=svBox (sieveR ks keep) r H
 have hr1:=Rows.one hr
 have ho1:=hle1.2 _ _ ho
 have cA:=has_ok (E:=E) _ r k ks keep F L H1 h (hr.le hle1) hkk
 simp only [svAV] at cA
 simp [c_impl_StoreLooks_1,svAV,hr1,<- hH1,b0,ho1,hb]
 refine cg_use cA ?_
 simp [hle1]
def CtI (P:Nat->Bool) (f:AV) (c:AV) (H:Hp) (m:Nat) (t:Tm) (K:Hp):Prop:=∃ i:Nat,i+m=3/\t 1=f/\t 5=.int .i64 ((List.range i).countP P)/\t 9=c/\t 10=.int .i64 3/\t 11=.int .i64 i/\HLe H K
theorem count_ok (v:AV) (s:Sr) (fn:Nat) (caps:List AV) (P:Nat->Bool) (H:Hp) (hs:St H v s) (hb:StB s) (h3:s.sv.length=3) (hcl:one (.fn fn caps)=true)
  (hf:∀ (i:Nat) (hi:i<s.sv.length) (r:AV) (H':Hp),HLe H H'->Strs H' r s.sv[i].r->AC Tryz.prog E fn ([svAV s.sv[i] r]++caps) H' (fun u H''=>u=.bool (P i)/\H''=H')) (hT:∀ a,tabJ fn a=none) :
  AC Tryz.prog E 105 [v,.fn fn caps] H (fun u H'=>u=.int .i64 ((List.range 3).countP P)/\H'=H):=by
 obtain⟨a,b,c,d,lr,sr,rfl,ha,hb1,hlr,hc,hsr,hd⟩:=hs
 refine AC_byp (tC_le tabJ_ok) h_impl_Store_count (by simp) ?_
 obtain⟨H1,hH1⟩:∃ H1:Hp,H1=H++[some ⟨[[a,b,c,.int .i64 s.keep,.int .i64 s.time,d]],6,28,false⟩]:=⟨_,rfl⟩
 have hle1:HLe H H1:=by rw [hH1]; exact HLe.self _ _
 have b0:H1.at H.length=some ⟨[[a,b,c,.int .i64 s.keep,.int .i64 s.time,d]],6,28,false⟩:=by rw [hH1]; simp
 have ls:=hsr.length
 have lc:=hc.len
 rw [ls,h3] at lc
 simp [c_impl_Store_count,stAV,Rows.one ha,hb1.one,hc.one,Rows.one hd,<- hH1,b0,lc,hc.slc]
 refine W_for (CtI P (.fn fn caps) c H) 3 ?_ (tC_mono AC_mono) ?_
 ·exact⟨0,by omega,by simp,by simp,by simp,by simp,by simp,hle1⟩
 rintro m t K ⟨i,him,t1,t5,t9,t10,t11,hle⟩
 simp [t1,t5,t9,t10,t11]
 refine c_split (fun hq=>?_) (fun hq=>?_)<;>simp at hq
 ·have hi3:i<3:=by omega
  have his:i<s.sv.length:=by omega
  have hw:=wrapN (i:=i) (by omega)
  obtain⟨o2,i2,ob2,rfl,y1,y2,y3⟩:=hc.get (j:=i) (by omega)
  obtain⟨r,hr,hrs,_⟩:=hsr.get i (by omega) his
  rw [hr] at y3
  have y1':=hle.2 _ _ y1
  have q2:i<sr.length:=by omega
  obtain⟨G,hG⟩:∃ G:Hp,G=K++[some ⟨[[.str s.sv[i].l,.str s.sv[i].m,.str s.sv[i].f,r,.int .i64 s.sv[i].k]],5,66,false⟩]:=⟨_,rfl⟩
  have hleG:HLe K G:=by rw [hG]; exact HLe.self _ _
  have gG:G.at K.length=some ⟨[[.str s.sv[i].l,.str s.sv[i].m,.str s.sv[i].f,r,.int .i64 s.sv[i].k]],5,66,false⟩:=by rw [hG]; simp
  have hr1:=Rows.one hrs
  have cf:=hf i his r G (hle.trans hleG) ((hrs.le hle).le hleG)
  simp only [svAV,List.singleton_append] at cf
  have hcn:=List.countP_le_length (p:=P) (l:=List.range i)
  rw [List.length_range] at hcn
  have hst:(List.range (i+1)).countP P=(List.range i).countP P+(if P i=true then 1 else 0):=by
   rw [List.range_succ,List.countP_append,List.countP_singleton]
  simp [t1,t5,t9,t10,t11,y1',y2,y3,q2,hr1]
  simp only [<- hG]
  refine cg_use (hT:=hT _) cf ?_
  cases hp:P i with
  | true =>
   rw [hp,if_pos rfl] at hst
   have hw2:IntKind.i64.wrap (((List.range i).countP P:Nat)+1:Int)=(((List.range i).countP P+1:Nat):Int):=wrapN (by omega)
   simp [t1,t5,t9,t10,t11,hw,hw2]
   exact⟨m-1,by omega,i+1,by omega,by simp [t1],by rw [hst]; simp,by simp [t9],by simp [t10],by simp,hle.trans hleG⟩
  | false =>
   rw [hp] at hst
   simp only [Bool.false_eq_true,if_false,Nat.add_zero] at hst
   simp [t1,t5,t9,t10,t11,hw]
   exact⟨m-1,by omega,i+1,by omega,by simp [t1],by rw [hst]; simp [t5],by simp [t9],by simp [t10],by simp,hle.trans hleG⟩
 ·have:i=3:=by omega
  subst this
  simp [t5,hle]
def looksP (s:Sr) (k:ByteArray) (i:Nat):Bool:=hasR (keysR (s.lev.getD i [])) s.keep k
theorem one_fn1 (f o:Nat):one (.fn f [.pt o 0 0])=true:=by simp [one]
set_option maxHeartbeats 1600000 in
theorem StoreLooks_ok (v:AV) (s:Sr) (k:ByteArray) (H:Hp) (hs:St H v s) (hb:StB s) (ho:storeOk s=true) (hk:keyOk k=true) :
  AC Tryz.prog E 38 [v,.str k] H (fun u H'=>u=.int .i64 ((List.range 3).countP (looksP s k))/\H'=H):=by
 have hs0:=hs
 obtain⟨a,b,c,d,rfl,n1,n2,n3,n4,_,_⟩:=hs.shape
 refine AC_byp (tC_le tabJ_ok) h_impl_StoreLooks (by simp) ?_
 obtain⟨H1,hH1⟩:∃ H1:Hp,H1=H++[some ⟨[[a,b,c,.int .i64 s.keep,.int .i64 s.time,d]],6,28,false⟩,some ⟨[[.str k]],1,9,false⟩]:=⟨_,rfl⟩
 have hle1:HLe H H1:=by rw [hH1]; exact HLe.self _ _
 have b0:H1.at H.length=some ⟨[[a,b,c,.int .i64 s.keep,.int .i64 s.time,d]],6,28,false⟩:=by rw [hH1]; simp
 have b1:H1.at (H.length+1)=some ⟨[[.str k]],1,9,false⟩:=by rw [hH1]; simp
 have hks:=keyOk_size hk
 have hkey:∀ {C:CallP} {d:Option Nat} {ag} {p:Plan} {t:Tm} {H:Hp} {K:Tm->Hp->Prop},_:=@fun C d ag p t H K=>tabJ_key C d ag p t H K k (by omega)
 have hsm:=storeOk_small ho
 have e3:s.lev.length=3:=hsm.2.2.2.2.2.2.2.1
 have s3:s.sv.length=3:=hsm.2.2.2.2.2.2.2.2
 simp [c_impl_StoreLooks,stAV,n1,n2,n3,n4,<- hH1,b0]
 have cO:=implStoreOk_ok (E:=E) _ s H1 (hs0.le hle1) hb
 try simp only [stAV] at cO
 refine cg_use cO ?_
 have cC:=count_ok (E:=E) _ s 109 [.pt (H.length+1) 0 0] (looksP s k) H1 (hs0.le hle1) hb s3 (one_fn1 _ _) (fun i hi r H' hle hr=>by
  have hi3:i<3:=by omega
  have hil:i<s.lev.length:=by omega
  have hso:=storeOk_level ho hi3 hil hi
  obtain⟨v1,v2,v3,v4⟩:=sieveO_some hso
  have hlp:looksP s k i=hasR (keysR s.lev[i]) s.keep k:=by
   unfold looksP
   rw [List.getD_eq_getElem?_getD,List.getElem?_eq_getElem hil]
   rfl
  have hr':Strs H' r (sieveR (keysR s.lev[i]) s.keep).r:=by rw [<- v4]; exact hr
  rw [hlp,v4]
  exact looks1_ok (keysR s.lev[i]) s.keep r k (H.length+1) _ H' v1 ⟨v2,v3⟩ hr' hk (hle.2 _ _ b1) rfl) (fun a=>rfl)
 try simp only [stAV] at cC
 simp [ho,hkey,hk,b0,b1]
 refine cg_use cC ?_
 simp [hle1]
def YeI (S:Nat) (k:ByteArray) (gb:Bool) (H:Hp) (m:Nat) (t:Tm) (K:Hp):Prop:=∃ i:Nat,i+m=3/\t 3=.pt S 0 0/\t 4=.str k/\t 9=.bool gb/\t 10=.int .i64 i/\HLe H K
set_option maxHeartbeats 3200000 in
theorem lawStoreSieve_ok (c:AV) (bs:List Int) (H:Hp) (hc:Bytes H c bs) (hn:bs.length<4611686018427387904) :
  AC Tryz.prog E 8 [c] H (fun v H'=>v=.bool true):=by
 refine AC_by fol (tC_le tab2_ok) h_laws_FnStoreSieve ?_
 have l1:=hc.len
 simp [c_laws_FnStoreSieve,l1,hc.1.slc]
 by_cases q1:1048576<bs.length
 ·have q1I:(1048576:Int)<bs.length:=by omega
  simp [q1,q1I]
 have q1I:¬(1048576:Int)<bs.length:=by omega
 simp [q1,q1I]
 refine cg_ex (DrawStoreGet_ok c bs H hc hn) ?_
 rintro v H1 ⟨w,s,k,n,rfl,hle1,hs,hsb,hsp,hk⟩
 have hs00:=hs
 obtain⟨xa,xb,xc,xd,lr,sr,hw,hA,hBl,hlr,hCs,hsr,hDt⟩:=hs00
 have n1:=Rows.one hA
 have n2:=hBl.one
 have n3:=hCs.one
 have n4:=Rows.one hDt
 simp only [stAV] at hw
 subst hw
 obtain⟨H2,hH2⟩:∃ H2:Hp,H2=H1++[some ⟨[[xa,xb,xc,.int .i64 s.keep,.int .i64 s.time,xd]],6,28,false⟩]:=⟨_,rfl⟩
 obtain⟨hle2,b2,hs2⟩:=St.box hs hH2
 have hkey:∀ {C:CallP} {d:Option Nat} {ag} {p:Plan} {t:Tm} {H:Hp} {K:Tm->Hp->Prop},_:=@fun C d ag p t H K=>tab2_key C d ag p t H K k (by omega)
 simp [n1,n2,n3,n4,<- hH2,b2]
 refine cg_use (StoreGet_ok _ s k n H2 hs2 hsb (by omega)) ?_
 simp [b2]
 refine cg_use (implStoreGet_ok _ s k n H2 hs2 hsb (by omega)) ?_
 have hz:(if (gotR s k n).2=true then (gotR s k n).1 else 0)=(gotR s k n).1:=by
  cases h:(gotR s k n).2 with
  | true=>rfl
  | false=>rw [gotR_zero hsp.val h]; rfl
 rw [hz]
 rcases hgot:gotR s k n with ⟨gv,gb⟩
 simp [b2]
 refine cg_use (StoreOk_ok _ s H2 hs2 hsb) ?_
 cases ho:storeOk s with
 | false=>simp
 | true =>
  have hval:=hsp.val ho
  cases hko:keyOk k with
  | false=>simp [hkey,hko]
  | true =>
   have hsm:=storeOk_small ho
   have e3:s.lev.length=3:=hsm.2.2.2.2.2.2.2.1
   have s3:s.sv.length=3:=hsm.2.2.2.2.2.2.2.2
   have lL:=hlr.length
   have lS:=hsr.length
   have lb:=hBl.len
   rw [lL,e3] at lb
   have hrun:∀ r∈s.top :: s.lev,runOk r=true:=by
    obtain⟨a,b,c,u,v,w,hV⟩:=hval
    rw [hV.lev]
    intro r hr
    simp only [List.mem_cons,List.not_mem_nil,or_false] at hr
    rcases hr with rfl | rfl | rfl | rfl
    ·exact hV.top
    ·exact hV.la.run
    ·exact hV.lb.run
    ·exact hV.lc.run
   have hB1:EsB s.top:=hsb.1
   have hB2:∀ es∈s.lev,EsB es:=hsb.2.1
   simp [hkey,hko]
   refine W_for (YeI H1.length k gb H2) 3 ?_ (tC_mono AC_mono) ?_
   ·exact⟨0,by omega,by simp,by simp,by simp,by simp,HLe.refl _⟩
   rintro m t K ⟨i,him,t3,t4,t9,t10,hle⟩
   have bK:=hle.2 _ _ b2
   have hleA:=hle2.trans hle
   simp [t3,t4,t9,t10,bK,lb,hBl.slc]
   refine c_split (fun hq=>?_) (fun hq=>?_)<;>simp at hq
   ·have hi3:i<3:=by omega
    have hil:i<s.lev.length:=by omega
    have his:i<s.sv.length:=by omega
    have hw2:=wrapN (i:=i) (by omega)
    obtain⟨o1,i1,ob1,e1,x1,x2,x3⟩:=hBl.get (j:=i) (by omega)
    obtain⟨y,hy,hye⟩:=hlr.get i (by omega) hil
    rw [hy] at x3
    obtain⟨o2,i2,ob2,e2,y1,y2,y3⟩:=hCs.get (j:=i) (by omega)
    obtain⟨r,hr,hrs,_⟩:=hsr.get i (by omega) his
    rw [hr] at y3
    have q1:i<lr.length:=by omega
    have q2:i<sr.length:=by omega
    have hso:=storeOk_level ho hi3 hil his
    obtain⟨v1,v2,v3,v4⟩:=sieveO_some hso
    have x1K:=hleA.2 _ _ x1
    rw [e1,e2] at bK
    simp [t3,t4,t9,t10,bK,x1K,x2,x3,q1]
    refine cg_ex (RunKeys_ok y s.lev[i] K (hye.le hleA) (hB2 _ (List.getElem_mem hil))) ?_
    rintro u K2 ⟨hleK,hu⟩
    rw [if_pos (hrun _ (List.mem_cons_of_mem _ (List.getElem_mem hil)))] at hu
    have bK2:=hleK.2 _ _ bK
    have y1K:=(hleA.trans hleK).2 _ _ y1
    have hkl:=keysR_len s.lev[i]
    have hln:s.lev[i].length<=1000:=(hsm.2.1 _ (List.getElem_mem hil)).1
    simp [t3,t4,t9,t10]
    refine cg_use (ltIn_ok u (keysR s.lev[i]) k K2 hu.strs (by omega)) ?_
    by_cases hin:k∈keysR s.lev[i]
    ·have hh:=hasR_self v1 v2 hin
     have cH:=iSieveHas_ok (E:=E) (keysR s.lev[i]) s.keep r k K2 v1 ⟨v2,v3⟩ (by rw [<- v4]; exact hrs.le (hleA.trans hleK)) hko
     rw [<- v4,hh] at cH
     simp only [svAV] at cH
     simp [inK_yes hin,t3,t4,t9,t10,bK2,y1K,y2,y3,q2]
     refine cg_use cH ?_
     simp [t3,t4,t9,t10,hw2]
     exact⟨m-1,by omega,i+1,by omega,by simp [t3],by simp [t4],by simp [t9],by simp,hle.trans hleK⟩
    ·simp [inK_no hin,t3,t4,t9,t10,hw2]
     exact⟨m-1,by omega,i+1,by omega,by simp [t3],by simp [t4],by simp [t9],by simp,hle.trans hleK⟩
   ·simp [t3,t4,t9,bK]
    refine cg_use (StoreLooks_ok _ s k K (hs2.le hle) hsb ho hko) ?_
    obtain⟨cn,hcn⟩:∃ cn,cn=(List.range 3).countP (looksP s k):=⟨_,rfl⟩
    rw [<- hcn]
    by_cases hpos:0<cn
    ·have hposI:(0:Int)<cn:=by omega
     simp [hpos,hposI]
    ·have hposI:¬(0:Int)<cn:=by omega
     cases gb with
     | false=>simp [hpos,hposI,t9]
     | true =>
      have htop:k∈keysR s.top:=by
       unfold gotR at hgot
       split at hgot
       ·cases hg:getR s k n with
        | none=>rw [hg] at hgot; cases hgot
        | some e =>
         have hbe:=hval.best.1 hg
         have hke:=hbe.key
         rcases List.mem_append.1 hbe.mem with h4 | h4
         ·rw [<- hke]
          exact keysR_mem h4
         ·obtain⟨l,hl,he⟩:=List.mem_flatten.1 h4
          obtain⟨j,hj,rfl⟩:=List.getElem_of_mem hl
          have hj3:j<3:=by omega
          have hso:=storeOk_level ho hj3 hj (by omega)
          obtain⟨v1,v2,v3,v4⟩:=sieveO_some hso
          have hh:=hasR_self (keep:=s.keep) v1 v2 (by rw [<- hke]; exact keysR_mem he:k∈keysR s.lev[j])
          have:0<(List.range 3).countP (looksP s k):=List.countP_pos_iff.2 ⟨j,List.mem_range.2 hj3,by
           unfold looksP
           rw [List.getD_eq_getElem?_getD,List.getElem?_eq_getElem hj]
           exact hh⟩
          omega
       ·cases hgot
      have hle4:s.top.length<=4:=by
       obtain⟨_,_,_,_,_,_,hV⟩:=hval
       exact hV.top4
      have hkl:=keysR_len s.top
      simp [hpos,hposI,t3,t4,t9,bK]
      refine cg_ex (RunKeys_ok xa s.top K (hA.le hleA) hB1) ?_
      rintro u K2 ⟨hleK,hu⟩
      rw [if_pos (hrun _ (by simp))] at hu
      simp [t4]
      refine cg_use (ltIn_ok u (keysR s.top) k K2 hu.strs (by omega)) ?_
      simp [inK_yes htop]
end Go.Proofs.YtgoeenodllmdpaaGreat.B

namespace Go.Proofs.YtgoeenodllmdpaaGreat.B
open Go.RowKit Go.Proofs
set_option linter.unusedVariables false
set_option linter.unusedSimpArgs false
variable {E:Env}
def bRow (b:Bool):List AV:=[.bool b]
def whl (keep:Int) (z:ByteArray × Nat):Bool:=wholeK z.1 z.2 keep
def WlJ (keep:Int) (n d a q:Nat) (gs:List (List ByteArray)) (out:List Bool) (s:Sv) (r:AV) (H0 H:Hp) (m:Nat) (t:Tm) (H':Hp):Prop:=∃ (i p:Nat) (w:AV),i+m=gs.length/\p=a+i/\t 2=.int .i64 q/\t 3=w/\t 4=.pt H.length 0 0/\t 9=.int .i64 p/\HLe H0 H'/\KeepE 4 H H' /\
 OwnM 1 4 bRow H0 H' w (out++(((gs.take i).map (sgm n d)).flatten).map (whl keep))/\H'.at H.length=some ⟨[[.str s.l,.str s.m,.str s.f,r,.int .i64 s.k]],5,66,false⟩
set_option maxHeartbeats 3200000 in
theorem l3Wholes_ok (s:Sv) (r:AV) (ks:List ByteArray) (keep:Int) (F:List Fk) (L:List Br) (H0:Hp) (h:Svt ks keep F L s) (hke:ks≠[]) (hr:Strs H0 r s.r) :
  ∀ (n j d a q:Nat) (ks':List ByteArray) (v:AV) (out:List Bool) (H:Hp),F[j]?=some (ks',d)->onePd (L.map (·.fst)) j=a->onePd (L.map (·.fst)) (j+1)=q->7<=n+d->HLe H0 H->OwnM 1 4 bRow H0 H v out->out.length+ks'.length<=1000000 ->
  AC Tryz.prog E 179 [svAV s r,.int .i64 a,.int .i64 q,v] H (fun u H'=>HLe H0 H'/\KeepE 4 H H'/\OwnM 1 4 bRow H0 H' u (out++(leafs n ks' d).map (whl keep)))
 | 0,j,d,a,q,ks',v,out,H,hj,_,_,hn,_,_,_=>by
  obtain⟨hjl,hje⟩:=List.getElem?_eq_some_iff.1 hj
  have hgd:=h.tr.good F[j] (List.getElem_mem hjl)
  rw [hje] at hgd
  have:=hgd.deep
  simp only at this
  omega
 | n+1,j,d,a,q,ks',v,out,H,hj,ha,hq',hn,hle0,hv,hlen=>by
  have ih:=l3Wholes_ok s r ks keep F L H0 h hke hr n
  obtain⟨hjl,hje⟩:=List.getElem?_eq_some_iff.1 hj
  have hgd:=h.tr.good F[j] (List.getElem_mem hjl)
  have hsp:=h.tr.sp F[j] (List.getElem_mem hjl)
  rw [hje] at hgd hsp
  have hd5:d<=5:=hgd.deep
  have hr1:=Rows.one hr
  have hll:=h.len
  obtain⟨a',q1,q2,p2,p3,p6⟩:=h.tr.place hke hj
  rw [ha] at q1
  subst q1
  rw [hq'] at q2
  have hflat:=brs_flat ks'.length (Nat.le_refl _) hsp
  have hleafs:=leafs_succ n ks' d
  have hsf:∀ g∈brs d ks',(sgm n d g).map Prod.fst=g:=fun g hg=>sgm_fst hsp hgd (by omega) hg
  obtain⟨gs,hgs⟩:∃ gs,gs=brs d ks':=⟨_,rfl⟩
  have hgm:∀ g∈gs,g∈brs d ks':=by rw [hgs]; exact fun g h=>h
  simp only [<- hgs] at p2 p3 q2 p6 hflat hleafs hsf
  refine AC_by fol (tC_le tab2_ok) h_spec_l3Wholes ?_
  obtain⟨H1,hH1,hle1,b0⟩:=svBox s r H
  simp [c_spec_l3Wholes,svAV,hr1,<- hH1,b0]
  refine W_for (WlJ keep n d a q gs out s r H0 H) gs.length ?_ (tC_mono AC_mono) ?_
  ·exact⟨0,a,v,by omega,by omega,by simp,by simp,by simp,by simp,hle0.trans hle1,hle1.keepE,by simpa using hv.le hle1,b0⟩
  rintro m t K ⟨i,p,w,him,hp,t2,t3,t4,t9,hle,hkp,hw,b0'⟩
  have hls:=h.ls
  by_cases hi:i<gs.length
  ·have hpq:p<q:=by omega
   have hpqI:(p:Int)<q:=by omega
   have hpL:p<L.length:=by omega
   have hpLI:(p:Int)<L.length:=by omega
   obtain⟨z1,z2⟩:=p6 i hi (by omega)
   simp only [<- hp] at z1 z2
   have hlt:=h.lt hpL
   obtain⟨x,hx⟩:∃ x,x=gs[i].headD ⟨#[]⟩:=⟨_,rfl⟩
   have hltr:L[p].ltr=letter x d:=by
    unfold Br.ltr
    rw [z1,z2,hx]
   rw [hltr] at hlt
   have hw2:=wrapN (i:=p) (by omega)
   have hbm:=h.bm.bt (i:=p) (by rw [List.length_map]; omega)
   rw [List.getElem_map] at hbm
   have hms:s.m.size=L.length:=by rw [h.bm.size,List.length_map]
   have hmany:L[p].many=many gs[i]:=by unfold Br.many; rw [z1]
   have hgi:=hgm _ (List.getElem_mem hi)
   have hft:=flat_take (f:=sgm n d) hi (fun g hg=>by
    have:=congrArg List.length (hsf g hg)
    rwa [List.length_map] at this)
   rw [hflat] at hft
   cases hm:many gs[i] with
   | false =>
    rw [hm] at hmany
    rw [hmany] at hbm
    simp only [Bool.false_eq_true,if_false] at hbm
    have hrs:=h.rs hpL hmany
    have hrst:L[p].rst keep=restK x (d+1) keep:=by unfold Br.rst; rw [z1,z2,hx]
    rw [hrst] at hrs
    have hwk:(decide (letter x d=45)||decide (((restK x (d+1) keep).size:Int)<s.k))=wholeK x d keep:=by rw [h.en.k]; rfl
    have cC:=l3Whole_ok (E:=E) s r (L.map Br.many) p K (hr.le hle) h.bm (by rw [List.length_map]; omega) (by rw [List.length_map]; omega) (by rw [List.length_map]; exact hls) _ hrs _ hlt
    rw [hwk] at cC
    simp only [svAV] at cC
    simp [t2,t3,t4,t9,b0',hpq,hpqI,hls,hpL,hpLI,hbm,hms]
    refine cg_use cC ?_
    simp [t2,t3,t4,t9]
    refine appG_add (y:=whl keep (x,d)) (row:=bRow) (bytes:=1) (H0:=H0) hw hle (by rw [List.length_append,List.length_map]; omega) rfl (fun v2 K2 g1 g2 g3 g4=>?_)
    simp [t2,t3,t4,t9,hw2]
    have hkpK:KeepE 4 K K2:=⟨g3.1,fun y ob ho he=>g3.2 y ob (fun hy=>he (hw.1.ety hy ho)) ho⟩
    refine⟨m-1,by omega,i+1,p+1,v2,by omega,by omega,by simp [t2],by simp,by simp [t4],by simp,g1,hkp.trans hkpK,?_,hkpK.2 _ _ b0' (by simp)⟩
    have e:sgm n d gs[i]=[(x,d)]:=by
     unfold sgm
     rw [hm,<- hx]
     rfl
    rw [flat_succ hi,e,List.map_append,<- List.append_assoc]
    exact g2
   | true =>
    rw [hm] at hmany
    rw [hmany,if_pos rfl] at hbm
    have hkd:=h.kid hpL hmany
    obtain⟨j2,hj2⟩:∃ j2,j2=((L.map Br.many).take (p+1)).countP id:=⟨_,rfl⟩
    have cK:=l3Kids_ok (E:=E) s r (L.map Br.many) (L.map (·.fst)) p K hr1 h.bm h.bf (by rw [List.length_map]; omega) (by rw [List.length_map]; omega) (by rw [List.length_map]; omega)
    rw [<- hj2] at hkd cK
    have hkk:L[p].kid=(gs[i],d+1):=by unfold Br.kid; rw [z1,z2]
    rw [hkk] at hkd
    obtain⟨a2,s1,s2,s3,s4,s6⟩:=h.tr.place hke hkd
    rw [s1,s2] at cK
    have cP:=ih j2 (d+1) a2 (a2+(brs (d+1) gs[i]).length) gs[i] w _ K hkd s1 s2 (by omega) hle hw (by rw [List.length_append,List.length_map]; omega)
    simp only [svAV] at cK cP
    simp [t2,t3,t4,t9,b0',hpq,hpqI,hls,hpL,hpLI,hbm,hms]
    refine cg_use cK ?_
    simp [t2,t3,t4,t9,b0']
    refine cg_ex cP ?_
    rintro w2 K2 ⟨g1,g2,g3⟩
    simp [t2,t3,t4,t9,hw2]
    refine⟨m-1,by omega,i+1,p+1,w2,by omega,by omega,by simp [t2],by simp,by simp [t4],by simp,g1,hkp.trans g2,?_,g2.2 _ _ b0' (by simp)⟩
    have e:sgm n d gs[i]=leafs n gs[i] (d+1):=by
     unfold sgm
     rw [if_pos hm]
    rw [flat_succ hi,e,List.map_append,<- List.append_assoc]
    exact g3
  ·have hieq:i=gs.length:=by omega
   have hpq:¬p<q:=by omega
   have hpqI:¬(p:Int)<q:=by omega
   rw [hieq,List.take_length,<- hleafs] at hw
   simp [t2,t3,t4,t9,hpq,hpqI]
   exact⟨hle,hkp,hw⟩
theorem findIdx_drop {α:Type} {p:α->Bool} {l:List α} {i:Nat} (hi:i<l.length):(l.drop i).findIdx p=if p l[i]=true then 0 else (l.drop (i+1)).findIdx p+1:=by
 rw [List.drop_eq_getElem_cons hi,List.findIdx_cons]
 cases p l[i]<;>rfl
def BhI (keep:Int) (fr:ByteArray) (zs:List (ByteArray × Nat)) (u v:AV) (H:Hp) (m:Nat) (t:Tm) (H':Hp):Prop:=∃ i:Nat,i+m=zs.length/\t 0=u/\t 1=v/\t 2=.str fr/\t 7=.int .i64 i/\i+(zs.drop i).findIdx (mayK keep fr)=zs.findIdx (mayK keep fr)/\H'=H
theorem l3Behind_ok (keep:Int) (zs:List (ByteArray × Nat)) (fr:ByteArray) (u v:AV) (H:Hp) (hu:Strs H u (zs.map (cutK keep))) (hv:Rows 1 H v ((zs.map (whl keep)).map bRow)) (hz:∀ z∈zs,(cutK keep z).size<4611686018427387904) (hf:fr.size<4611686018427387904) (hn:zs.length<1099511627776) :
  AC Tryz.prog E 178 [u,v,.str fr] H (fun w H'=>w=.int .i64 (zs.findIdx (mayK keep fr))/\H'=H):=by
 refine AC_byp (tC_le tab2_ok) h_spec_l3Behind (by simp) ?_
 have l1:lenV u=.int .i64 zs.length:=by simpa using hu.len
 simp [c_spec_l3Behind]
 refine W_for (BhI keep fr zs u v H) zs.length ?_ (tC_mono AC_mono) ?_
 ·exact⟨0,by omega,by simp,by simp,by simp,by simp,by simp,rfl⟩
 rintro m t H' ⟨i,him,t0,t1,t2,t7,hP,rfl⟩
 simp [t0,t1,t2,t7,l1,hu.slc]
 refine c_split (fun hq=>?_) (fun hq=>?_)<;>simp at hq
 ·have hi:i<zs.length:=by omega
  have hw:=wrapN (i:=i) (by omega)
  rw [findIdx_drop hi] at hP
  obtain⟨o1,i1,ob1,e1,x1,x2,x3⟩:=Strs.get hu (j:=i) (by simpa using hi)
  obtain⟨o2,i2,ob2,e2,y1,y2,y3⟩:=Rows.get hv (j:=i) (by simpa using hi)
  simp only [List.getElem_map,List.length_map] at x3 y3 e1 e2
  subst e1
  subst e2
  have hzi:=hz _ (List.getElem_mem hi)
  obtain⟨z,hzz⟩:∃ z,z=zs[i]:=⟨_,rfl⟩
  rw [<- hzz] at x3 y3 hzi hP
  simp [t0,t1,t2,t7,hi,x1,x2,x3]
  have hmay:mayK keep fr z=(!sless (cutK keep z) fr||(!whl keep z&&begins fr (cutK keep z))):=rfl
  cases hl:sless (cutK keep z) fr with
  | false =>
   rw [hmay,hl] at hP
   simp at hP
   simp [hl,hP,t7]
  | true =>
   simp [hl,t0,t1,t2,t7,hi,y1,y2,y3,bRow]
   cases hwh:whl keep z with
   | true =>
    rw [hmay,hl,hwh] at hP
    simp at hP
    simp [t0,t1,t2,t7,hw]
    exact⟨m-1,by omega,i+1,by omega,by simp [t0],by simp [t1],by simp [t2],by simp,by omega,rfl⟩
   | false =>
    simp [t0,t1,t2,t7,hi,x1,x2,x3]
    refine cg_use (sBegins_ok fr (cutK keep z) H' hf hzi) ?_
    cases hbg:begins fr (cutK keep z) with
    | true =>
     rw [hmay,hl,hwh,hbg] at hP
     simp at hP
     simp [hP,t7]
    | false =>
     rw [hmay,hl,hwh,hbg] at hP
     simp at hP
     simp [t0,t1,t2,t7,hw]
     exact⟨m-1,by omega,i+1,by omega,by simp [t0],by simp [t1],by simp [t2],by simp,by omega,rfl⟩
 ·have:i=zs.length:=by omega
  subst this
  rw [List.drop_length] at hP
  simp at hP
  simp [t0,l1,hu.slc,<- hP]
def MtJ (u0:AV) (to:ByteArray) (n:Nat) (H:Hp) (t:Tm) (K:Hp):Prop:=t 2=.str to/\t 7=u0/\t 8=.int .i64 n/\HLe H K
theorem find_idx {α:Type} {p:α->Bool} {l:List α}:l.find? p=l[l.findIdx p]?:=by
 induction l with
 | nil=>rfl
 | cons x l ih =>
  rw [List.find?_cons,List.findIdx_cons]
  cases p x with
  | true=>rfl
  | false=>simpa using ih
set_option maxHeartbeats 3200000 in
theorem sMeets_ok (ks:List ByteArray) (keep:Int) (r:AV) (fr to:ByteArray) (H:Hp) (hk:keysOk ks=true) (hkp:0<=keep/\keep<=5) (hr:Strs H r (sieveR ks keep).r) (hfs:fr.size<4611686018427387904) (hts:to.size<4611686018427387904) :
  AC Tryz.prog E 107 [svAV (sieveR ks keep) r,.str fr,.str to] H (fun v H'=>v=.bool (meetsR ks keep fr to)/\H'=H):=by
 refine AC_byp (tC_le tab2_ok) h_spec_SieveMeets (by simp) ?_
 obtain⟨F,L,h⟩:=Svt.of hk hkp
 have hkf:∀ {C:CallP} {d:Option Nat} {ag} {p:Plan} {t:Tm} {H:Hp} {K:Tm->Hp->Prop},_:=@fun C d ag p t H K=>tab2_key C d ag p t H K fr hfs
 have hkt:∀ {C:CallP} {d:Option Nat} {ag} {p:Plan} {t:Tm} {H:Hp} {K:Tm->Hp->Prop},_:=@fun C d ag p t H K=>tab2_key C d ag p t H K to hts
 have cO:∀ K,HLe H K->_:=fun K hK=>SieveOk_ok (E:=E) ks keep r K hk hkp (hr.le hK)
 have cH:∀ K,HLe H K->_:=fun K hK=>l3Heads_ok (E:=E) ks keep (sieveR ks keep) r F L K h hk (hr.le hK)
 have hsp0:=SP.of_keys hk
 have hll:=h.len
 have hfst:=leafs_fst 7 hsp0 (keysOk_good hk).1 (by omega)
 have hzk:∀ z∈leafs 7 ks 0,keyOk z.1=true:=fun z hz=>hsp0.ok z.1 (by rw [<- hfst]; exact List.mem_map_of_mem hz)
 have hzl:(leafs 7 ks 0).length<1000000:=by
  have:=leafs_len (n:=7) hsp0 (keysOk_good hk).1 (by omega)
  have:=(keysOk_good hk).2
  omega
 have hks24:=(keysOk_good hk).2
 have hmeet:meetsR ks keep fr to=(keyOk fr&&keyOk to&&!sless to fr&&(match (leafs 7 ks 0)[(leafs 7 ks 0).findIdx (mayK keep fr)]? with
  | some z=>!sless to (cutK keep z)
  | none=>false)):=by
  unfold meetsR seekP
  rw [find_idx]
  cases (leafs 7 ks 0)[(leafs 7 ks 0).findIdx (mayK keep fr)]?<;>rfl
 obtain⟨s,hs⟩:∃ s,s=sieveR ks keep:=⟨_,rfl⟩
 rw [<- hs] at h hr ⊢
 simp only [<- hs] at cO cH
 have hr1:=Rows.one hr
 have cW:∀ K0 K v,HLe H K0->HLe K0 K->OwnM 1 4 bRow K0 K v []->AC Tryz.prog E 179 [svAV s r,.int .i64 0,.int .i64 (onePd (L.map (·.fst)) 1),v] K (fun u H'=>HLe K0 H'/\OwnM 1 4 bRow K0 H' u ((leafs 7 ks 0).map (whl keep))):=fun K0 K v hK0 hK hv=>by
  by_cases hke:ks=[]
  ·have hL:=h.tr.z hke
   have e1:onePd (L.map (·.fst)) 1=0:=by rw [hL]; rfl
   have e2:leafs 7 ks 0=[]:=by rw [hke,leafs,brs]; rfl
   rw [e1,e2]
   refine AC_by fol (tC_le tab2_ok) h_spec_l3Wholes ?_
   obtain⟨K1,hK1,hle2,c0⟩:=svBox s r K
   simp [c_spec_l3Wholes,svAV,hr1,<- hK1,c0]
   refine W_for (fun m t H'=>t 2=.int .i64 0/\t 3=v/\t 9=.int .i64 0/\H'=K1) 0 ?_ (tC_mono AC_mono) ?_
   ·exact⟨by simp,by simp,by simp,rfl⟩
   rintro m t H' ⟨t2,t3,t9,rfl⟩
   simp [t2,t3,t9]
   exact⟨hK.trans hle2,hv.le hle2⟩
  ·have:=l3Wholes_ok (E:=E) s r ks keep F L K0 h hke (hr.le hK0) 7 0 0 0 (onePd (L.map (·.fst)) 1) ks v [] K (by rw [h.tr.f]; rfl) (heads0 h) rfl (by omega) hK hv (by simp; omega)
   exact this.mono (fun u H' q=>⟨q.1,by simpa using q.2.2⟩)
 have hzs:∀ z∈leafs 7 ks 0,(cutK keep z).size<4611686018427387904:=fun z hz=>by
  have:=keyOk_size (keyOk_cut (keep:=keep) (hzk z hz))
  omega
 have hhd:headsR ks keep=(leafs 7 ks 0).map (cutK keep):=rfl
 obtain⟨zs,hzz⟩:∃ zs,zs=leafs 7 ks 0:=⟨_,rfl⟩
 simp only [<- hzz] at hzk hzl hmeet cW hzs hhd
 obtain⟨n,hn⟩:∃ n,n=zs.findIdx (mayK keep fr):=⟨_,rfl⟩
 rw [<- hn] at hmeet
 obtain⟨H1,hH1,hle1,b0⟩:=svBox s r H
 have c1:∀ K,AC Tryz.prog E 180 [.str s.f,.int .i64 1] K (fun v H'=>v=.int .i64 (onePd (L.map (·.fst)) 1)/\H'=K):=fun K=>l1One_ok s.f (L.map (·.fst)) 1 K h.bf (by rw [List.length_map]; omega) (by omega)
 simp only [svAV] at cO cH cW
 simp [-RgP_both,c_spec_SieveMeets,svAV,hr1,<- hH1,b0]
 refine cg_use (cO H1 hle1) ?_
 cases hf:keyOk fr with
 | false =>
  rw [hmeet,hf]
  simp [-RgP_both,hkf,hf,hle1]
 | true =>
  cases ht:keyOk to with
  | false =>
   rw [hmeet,ht]
   simp [-RgP_both,hkf,hkt,hf,ht,hle1]
  | true =>
   cases hlt:sless to fr with
   | true =>
    rw [hmeet,hlt]
    simp [-RgP_both,hkf,hkt,hf,ht,hlt,hle1]
   | false =>
    rw [hf,ht,hlt] at hmeet
    simp [-RgP_both,hkf,hkt,hf,ht,hlt,b0]
    refine cg_ex (cH H1 hle1) ?_
    rintro u0 H2 ⟨hle2,hu0⟩
    rw [hhd] at hu0
    have b2:=hle2.2 _ _ b0
    simp [-RgP_both,b2]
    refine RgP_then (tC_mono AC_mono) (MtJ u0 to n H2) ?_ ?_
    ·obtain⟨G,hG⟩:∃ G:Hp,G=H2++[some ⟨[],1,4,false⟩]:=⟨_,rfl⟩
     have hleG:HLe H2 G:=by rw [hG]; exact HLe.self _ _
     have bG:=hleG.2 _ _ b2
     have hlit:OwnM 1 4 bRow H2 G (.sl H2.length 0 0) []:=by rw [hG]; exact OwnM.lit0 (HLe.refl _)
     have hleH2:=hle1.trans hle2
     have cB:∀ (w:AV) (K:Hp),HLe H2 K->Rows 1 K w ((zs.map (whl keep)).map bRow)->AC Tryz.prog E 178 [u0,w,.str fr] K (fun w H'=>w=.int .i64 n/\H'=K):=fun w K hK hw=>by
      have:=l3Behind_ok (E:=E) keep zs fr u0 w K (hu0.rows.le hK) hw hzs hfs (by omega)
      rw [<- hn] at this
      exact this
     rw [RgP_both]
     refine⟨?_,?_⟩
     ·simp [b2]
      refine cg_use (c1 H2) ?_
      simp [b2]
      simp only [<- hG]
      simp [bG]
      refine cg_ex (cW H2 G _ hleH2 hleG hlit) ?_
      rintro w K ⟨hK,hw⟩
      simp
      refine cg_use (cB w K hK hw.rows) ?_
      simp
      exact⟨by simp,by simp,by simp,hK⟩
     ·simp [b2]
      simp only [<- hG]
      simp [bG]
      refine cg_use (c1 G) ?_
      simp [bG]
      refine cg_ex (cW H2 G _ hleH2 hleG hlit) ?_
      rintro w K ⟨hK,hw⟩
      simp
      refine cg_use (cB w K hK hw.rows) ?_
      simp
      exact⟨by simp,by simp,by simp,hK⟩
    ·rintro t K ⟨t2,t7,t8,hleK⟩
     have hu:=hu0.rows.le hleK
     have lu:lenV u0=.int .i64 zs.length:=by simpa using Strs.len hu
     have hleA:=(hle1.trans hle2).trans hleK
     have hnl:n<=zs.length:=by rw [hn]; exact List.findIdx_le_length
     show W _ _ _ _ _
     by_cases hlt2:n<zs.length
     ·have hltI:(n:Int)<zs.length:=by omega
      obtain⟨o1,i1,ob1,e1,x1,x2,x3⟩:=Strs.get hu (j:=n) (by simpa using hlt2)
      simp only [List.getElem_map,List.length_map] at x3 e1
      subst e1
      rw [List.getElem?_eq_getElem hlt2] at hmeet
      rw [hmeet]
      simp [t2,t7,t8,hlt2,hltI,x1,x2,x3,hleA]
     ·have hltI:¬(n:Int)<zs.length:=by omega
      rw [List.getElem?_eq_none (by omega)] at hmeet
      rw [hmeet]
      have hnl2:n=zs.length:=by omega
      simp [t2,t7,t8,hlt2,hltI,lu,Strs.slc hu,hleA]
end Go.Proofs.YtgoeenodllmdpaaGreat.B

namespace Go.Proofs.YtgoeenodllmdpaaGreat.B
open Go.RowKit Go.Proofs
set_option linter.unusedVariables false
set_option linter.unusedSimpArgs false
theorem key_split {k:ByteArray} {d:Nat} (hk:keyOk k=true) (hd:d<=k.size):(if letter k d=45 then k.extract 0 d else k.extract 0 d++lit1 (letter k d))++tailK k d=k:=by
 have hlen:=ba_len k
 by_cases hl:letter k d=45
 ·have hkd:=(letter_ok hk d).1 hl
  have:d=k.size:=by omega
  subst this
  rw [if_pos hl]
  apply ba_ext
  unfold tailK
  rw [ba_app,ba_toList,ba_toList,Nat.min_eq_right (by omega)]
  simp [List.take_of_length_le,List.drop_of_length_le,hlen]
 ·have hlt:d<k.size:=by
   rcases Nat.lt_or_ge d k.size with h | h
   ·exact h
   ·exact absurd ((letter_ok hk d).2 h) hl
  rw [if_neg hl,way_more hlt]
  apply ba_ext
  unfold tailK
  rw [ba_app,ba_toList,ba_toList,Nat.min_eq_left (by omega)]
  simp only [List.drop_zero,Nat.sub_zero]
  rw [List.take_of_length_le (l:=k.data.toList.drop (d+1)) (by rw [List.length_drop]; omega),List.take_append_drop]
theorem begins_app (a t:ByteArray) (hs:(a++t).size<9223372036854775807):begins (a++t) a=true:=by
 unfold begins
 rw [decide_eq_true_eq]
 refine⟨by rw [ByteArray.size_append]; omega,?_⟩
 apply ba_ext
 rw [ba_toList,ba_app]
 simp only [List.drop_zero,Nat.sub_zero]
 rw [<- ba_len a,List.take_left]
theorem begins_split {k p:ByteArray} (h:begins k p=true):∃ t,k=p++t:=by
 unfold begins at h
 rw [decide_eq_true_eq] at h
 obtain⟨h1,h2⟩:=h
 refine⟨k.extract p.size k.size,?_⟩
 apply ba_ext
 have hl:=ba_len k
 have hp:p.data.toList=k.data.toList.take p.size:=by
  have h3:(k.extract 0 p.size).data.toList=p.data.toList:=by rw [h2]
  rw [ba_toList] at h3
  simpa using h3.symm
 rw [ba_app,ba_toList,List.take_of_length_le (l:=k.data.toList.drop p.size) (by rw [List.length_drop]; omega)]
 conv=>rhs; lhs; rw [hp]
 rw [List.take_append_drop]
theorem not_less_app (a t:ByteArray):sless (a++t) a=false:=by
 unfold sless
 rw [toList_ba,toList_ba,ba_app]
 have h2:=bLess_app a.data.toList t.data.toList []
 rw [List.append_nil] at h2
 rw [h2]
 cases t.data.toList<;>rfl
theorem ba_assoc (a b c:ByteArray):a++b++c=a++(b++c):=by
 apply ba_ext
 rw [ba_app,ba_app,ba_app,ba_app,List.append_assoc]
theorem leaf_may {keep:Int} {k x:ByteArray} {d:Nat} (hk:keyOk k=true) (hx:keyOk x=true) (h0:0<=keep) (hway:x.extract 0 d=k.extract 0 d) (hd:d<=k.size) (hl:letter x d=letter k d) (h:leafHas k d keep x=true):mayK keep k (x,d)=true/\sless k (cutK keep (x,d))=false:=by
 have hks:=key_split hk hd
 have hws:(k.extract 0 d).size=d:=by rw [ByteArray.size_extract]; omega
 have hct:=leaf_text hx h0 hway hws
 rw [hl] at hct
 obtain⟨A,hA⟩:∃ A,A=if letter k d=45 then k.extract 0 d else k.extract 0 d++lit1 (letter k d):=⟨_,rfl⟩
 rw [<- hA] at hks hct
 have hk5:=keyOk_size hk
 unfold leafHas at h
 cases hw:wholeK x d keep with
 | true =>
  rw [hw,if_pos rfl,decide_eq_true_eq] at h
  have e:cutK keep (x,d)=k:=by rw [<- hct,<- h,hks]
  constructor
  ·unfold mayK
   rw [e,sless_irrefl]
   rfl
  ·rw [e]
   exact sless_irrefl _
 | false =>
  rw [hw] at h
  simp only [Bool.false_eq_true,if_false] at h
  obtain⟨t,ht⟩:=begins_split h
  have e:k=cutK keep (x,d)++t:=by
   rw [<- hct,ba_assoc,<- ht,hks]
  constructor
  ·have hb:begins k (cutK keep (x,d))=true:=by
    rw [e]
    exact begins_app _ _ (by rw [<- e]; omega)
   unfold mayK
   simp only
   rw [hw,hb]
   simp
  ·have:=not_less_app (cutK keep (x,d)) t
   rw [<- e] at this
   exact this
theorem pickG_some {d:Nat} {c:UInt8}:∀ {gs:List (List ByteArray)} {g:List ByteArray},pickG d c gs=some g->g∈gs/\letter (g.headD ⟨#[]⟩) d=c
 | [],g,h=>by cases h
 | x :: gs,g,h=>by
  rw [pickG] at h
  by_cases hc:letter (x.headD ⟨#[]⟩) d=c
  ·rw [if_pos hc] at h
   obtain rfl:=Option.some.inj h
   exact⟨by simp,hc⟩
  ·rw [if_neg hc] at h
   obtain⟨h1,h2⟩:=pickG_some h
   exact⟨List.mem_cons_of_mem _ h1,h2⟩
theorem has_leaf {keep:Int} {k:ByteArray} (hk:keyOk k=true) (h0:0<=keep):∀ (n:Nat) (ks:List ByteArray) (d:Nat),SP d ks->Good (ks,d)->7<=n+d->d<=k.size->(∀ x∈ks,x.extract 0 d=k.extract 0 d)->hasF keep k n ks d=true->∃ z∈leafs n ks d,mayK keep k z=true/\sless k (cutK keep z)=false
 | 0,ks,d,_,_,_,_,_,h=>by cases h
 | n+1,ks,d,hs,hg,hn,hd,hway,h=>by
  rw [hasF] at h
  split at h
  ·cases h
  ·rename_i g hp
   obtain⟨hgm,hgl⟩:=pickG_some hp
   have hne:=brs_ne ks.length d ks (Nat.le_refl _) g hgm
   have hsub:∀ y∈g,y∈ks:=by
    obtain⟨ks',h1,rfl⟩:=brs_sub ks.length d ks (Nat.le_refl _) g hgm
    exact fun y hy=>h1.subset ((grp_sub d ks').subset hy)
   have hin:∀ z∈sgm n d g,z∈leafs (n+1) ks d:=fun z hz=>by
    rw [leafs_succ]
    exact List.mem_flatten.2 ⟨_,List.mem_map_of_mem hgm,hz⟩
   obtain⟨x,hx⟩:∃ x,x=g.headD ⟨#[]⟩:=⟨_,rfl⟩
   have hxg:x∈g:=by
    cases g with
    | nil=>exact absurd rfl hne
    | cons a r=>rw [hx]; simp
   rw [<- hx] at hgl
   cases hm:many g with
   | true =>
    rw [hm,if_pos rfl] at h
    have hmo:=g_more hs hgm hm
    have hxm:=hmo x hxg
    have hdk:d<k.size:=by
     rcases Nat.lt_or_ge d k.size with h1 | h1
     ·exact h1
     ·have:=(letter_ok hk d).2 h1
      rw [<- hgl] at this
      exact absurd this hxm.2.1
    obtain⟨z,hz,h1,h2⟩:=has_leaf hk h0 n g (d+1) (SP.of_brs ks.length d (Nat.le_refl _) hs g hgm) (kid_good hg hgm hm) (by omega) (by omega) (fun y hy=>by
     obtain⟨m1,m2,m3⟩:=hmo y hy
     rw [<- way_more m1,<- way_more hdk,hway y (hsub y hy),m3,<- hx,hgl]) h
    exact⟨z,hin z (by unfold sgm; rw [if_pos hm]; exact hz),h1,h2⟩
   | false =>
    rw [hm] at h
    simp only [Bool.false_eq_true,if_false] at h
    rw [<- hx] at h
    have hxk:=hsub x hxg
    obtain⟨h1,h2⟩:=leaf_may hk (hs.ok x hxk) h0 (hway x hxk) hd hgl h
    exact⟨(x,d),hin _ (by unfold sgm; rw [hm,<- hx]; simp),h1,h2⟩
theorem has_meets {ks:List ByteArray} {keep:Int} {k to:ByteArray} (hk:keysOk ks=true) (h0:0<=keep) (hf:keyOk k=true) (ht:keyOk to=true) (hkt:sless to k=false) (h:hasR ks keep k=true):meetsR ks keep k to=true:=by
 have hs:=SP.of_keys hk
 obtain⟨z,hz,hmay,hzk⟩:=has_leaf hf h0 7 ks 0 hs (keysOk_good hk).1 (by omega) (by omega) (fun x _=>by
  apply ba_ext
  rw [ba_toList,ba_toList]
  rfl) h
 unfold meetsR
 rw [hf,ht,hkt]
 cases hfd:(leafs 7 ks 0).find? (mayK keep k) with
 | none =>
  have:=List.find?_eq_none.1 hfd z hz
  exact absurd hmay this
 | some y =>
  have hsk:seekP keep k (leafs 7 ks 0)=some (cutK keep y):=by unfold seekP; rw [hfd]; rfl
  rw [hsk]
  obtain⟨hy,cs,bs,hab,hno⟩:=List.find?_eq_some_iff_append.1 hfd
  have hle:sless (cutK keep z) (cutK keep y)=false:=by
   have hzz:z=y\/z∈bs:=by
    rw [hab] at hz
    rcases List.mem_append.1 hz with h | h
    ·have:=hno z h
     rw [hmay] at this
     cases this
    ·exact List.mem_cons.1 h
   rcases hzz with rfl | hzb
   ·exact sless_irrefl _
   ·have hpw:=heads_pw (keep:=keep) hk
    unfold headsR at hpw
    rw [hab,List.map_append,List.map_cons] at hpw
    have h3:=(List.pairwise_cons.1 (List.pairwise_append.1 hpw).2.1).1 (cutK keep z) (List.mem_map_of_mem hzb)
    exact sless_asymm h3
  have h4:sless to (cutK keep y)=false:=not_less_trans (not_less_trans hle hzk) hkt
  simp [h4]
end Go.Proofs.YtgoeenodllmdpaaGreat.B

namespace Go.Proofs.YtgoeenodllmdpaaGreat.B
open Go.RowKit Go.Proofs
set_option linter.unusedVariables false
set_option linter.unusedSimpArgs false
end Go.Proofs.YtgoeenodllmdpaaGreat.B

namespace Go.Proofs.YtgoeenodllmdpaaGreat.B
open Go.RowKit Go.Proofs
set_option linter.unusedVariables false
set_option linter.unusedSimpArgs false
end Go.Proofs.YtgoeenodllmdpaaGreat.B

namespace Go.Proofs.YtgoeenodllmdpaaGreat.B
open Go.RowKit Go.Proofs
set_option linter.unusedVariables false
set_option linter.unusedSimpArgs false
variable {E:Env}
def Ltr (k:ByteArray):Prop:=∀ c∈k.data.toList,97<=c.toNat/\c.toNat<=100
theorem keyOk_ltr {k:ByteArray}:keyOk k=true↔Ltr k/\k.size<=5:=by
 simp only [keyOk,decide_eq_true_eq]
 constructor
 ·rintro ⟨h1,h2⟩
  refine⟨fun c hc=>?_,h2⟩
  obtain⟨i,hi,rfl⟩:=List.getElem_of_mem hc
  rw [ba_len] at hi
  have h3:=h1 i hi
  rw [bt_at (by rw [ba_len]; exact hi)] at h3
  omega
 ·rintro ⟨h1,h2⟩
  refine⟨fun i hi=>?_,h2⟩
  rw [bt_at (by rw [ba_len]; exact hi)]
  have:=h1 _ (List.getElem_mem (by rw [ba_len]; exact hi:i<k.data.toList.length))
  omega
theorem Ltr.app {x y:ByteArray} (h:Ltr x) (k:Ltr y):Ltr (x++y):=by
 intro c hc
 rw [ba_app] at hc
 rcases List.mem_append.1 hc with g | g
 ·exact h c g
 ·exact k c g
theorem Ltr.cut {x:ByteArray} (h:Ltr x) (a b:Nat):Ltr (x.extract a b):=by
 intro c hc
 rw [ba_toList] at hc
 exact h c (List.mem_of_mem_drop (List.mem_of_mem_take hc))
theorem Ltr.nil:Ltr ⟨#[]⟩:=fun c hc=>by cases hc
theorem Ltr.one {c:UInt8} (h:97<=c.toNat/\c.toNat<=100):Ltr ⟨#[c]⟩:=fun d hd=>by
 have:d=c:=by simpa using hd
 rw [this]
 exact h
def KyI (o:Nat) (H:Hp) (N:Nat) (m:Nat) (t:Tm) (H':Hp):Prop:=∃ k:ByteArray,m<=5/\t 0=.pt o 0 0/\t 3=.str k/\t 4=.int .i64 m/\k.size+m<=5/\Ltr k/\Dr o H H'/\Rd H' o (N+6-m)
theorem key_ok' (o N:Nat) (H:Hp) (hr:Rd H o N) (hN:N<549755813888) :
  AC Tryz.prog E 116 [.pt o 0 0] H (fun v H'=>∃ k,v=.str k/\keyOk k=true/\Dr o H H'/\Rd H' o (N+6)):=by
 refine AC_by fol (tC_le tab2_ok) h_spec_l71Key ?_
 simp [c_spec_l71Key]
 refine cg_ex (pick_ok o N 6 H hr (by omega) (by omega)) ?_
 rintro v H1 ⟨n,rfl,hn,hd,hr1,-⟩
 simp
 refine W_for (KyI o H N) n ?_ (tC_mono AC_mono) ?_
 ·exact⟨⟨#[]⟩,by omega,by simp,by simp,by simp,by show 0+n<=5; omega,Ltr.nil,hd,hr1.mono (by omega)⟩
 rintro m t H' ⟨k,hm5,h0,h3,h4,hk,hlk,hd,hr⟩
 simp [h0,h3,h4]
 refine c_split (fun hq=>?_) (fun hq=>?_)<;>simp at hq
 ·have hw:IntKind.i64.wrap ((m:Int)-1)=((m-1:Nat):Int):=by rw [wrap64 (by omega) (by omega)]; omega
  simp [h0,h3,h4]
  have hl:Strs (H'++[some ⟨[[.str ⟨#[97]⟩],[.str ⟨#[98]⟩],[.str ⟨#[97]⟩],[.str ⟨#[99]⟩],[.str ⟨#[100]⟩]],1,9,false⟩]) (.sl H'.length 0 5) [⟨#[97]⟩,⟨#[98]⟩,⟨#[97]⟩,⟨#[99]⟩,⟨#[100]⟩]:=Strs.at (e:=9) (ro:=false) (by simp [strRow]) rfl
  refine cg_ex (of_ok o (N+6-m) _ _ _ (hr.le (HLe.self _ _)) hl (by simp) (by simp) (by omega)) ?_
  rintro v H2 ⟨s,hs,rfl,hd2,hr2,-⟩
  have hs1:s.size=1/\Ltr s:=by
   simp at hs
   rcases hs with h | h | h | h | h<;>rw [h]<;>exact⟨rfl,Ltr.one (by decide)⟩
  have hsz:k.size+s.size<=9223372036854775807:=by omega
  simp [h0,h3,h4,hw,hsz]
  exact⟨m-1,by omega,k++s,by omega,by simp [h0],by simp,by simp,by rw [ByteArray.size_append]; omega,hlk.app hs1.2,(hd.app _).same hd2,hr2.mono (by omega)⟩
 ·have:m=0:=by omega
  subst this
  simp [h3]
  exact⟨keyOk_ltr.2 ⟨hlk,by omega⟩,hd,hr⟩
theorem near_ok' (o N:Nat) (l:AV) (xs:List ByteArray) (H:Hp) (hr:Rd H o N) (hl:Strs H l xs) (hx:xs.length<1099511627776) (hs:∀ s∈xs,keyOk s=true) (hN:N<274877906944) :
  AC Tryz.prog E 117 [.pt o 0 0,l] H (fun v H'=>∃ k,v=.str k/\keyOk k=true/\Dr o H H'/\Rd H' o (N+7)):=by
 refine AC_by fol (tC_le tab2_ok) h_spec_l71Near ?_
 have l1:=hl.len
 simp [c_spec_l71Near,l1,hl.slc]
 refine g_split (fun hq=>?_) (fun hq=>?_) (by simp)<;>simp at hq<;>simp [hq]
 ·refine cg_ex (key_ok' o N _ hr (by omega)) ?_
  rintro v H1 ⟨k,rfl,hk,hd,hr1⟩
  simp
  exact⟨hk,hd,hr1.mono (by omega)⟩
 ·have hpos:0<xs.length:=List.length_pos_iff.2 hq
  refine cg_ex (pick_ok o N 4 H hr (by omega) (by omega)) ?_
  rintro v H1 ⟨n,rfl,hn,hd1,hr1,-⟩
  simp
  have hl1:Strs H1 l xs:=Rows.dr hr hl (by decide) hd1
  refine c_split (fun hq2=>?_) (fun hq2=>?_)<;>simp at hq2<;>simp
  ·refine cg_ex (key_ok' o _ _ hr1 (by omega)) ?_
   rintro v H2 ⟨k,rfl,hk,hd,hr2⟩
   simp
   exact⟨hk,hd1.same hd,hr2.mono (by omega)⟩
  ·simp [l1,hl.slc]
   refine cg_ex (pick_ok o _ xs.length H1 hr1 (by omega) (by omega)) ?_
   rintro v H2 ⟨m,rfl,hm,hd2,hr2,-⟩
   have hm2:m<xs.length:=by omega
   obtain⟨o1,i1,ob1,rfl,a1,a2,a3⟩:=Strs.get (Rows.dr hr1 hl1 (by decide) hd2:Strs H2 l xs) hm2
   have hkx:=hs _ (List.getElem_mem hm2)
   obtain⟨hlx,hsz⟩:=keyOk_ltr.1 hkx
   simp [a1,a2,a3,hm2]
   refine cg_ex (pick_ok o _ 4 H2 hr2 (by omega) (by omega)) ?_
   rintro v H3 ⟨c,rfl,hc,hd3,hr3,-⟩
   have hd13:=(hd1.same hd2).same hd3
   simp
   refine c_split (fun hq3=>?_) (fun hq3=>?_)<;>simp at hq3<;>simp
   ·have hw:IntKind.i64.wrap ((xs[m].size:Int)+1)=((xs[m].size+1:Nat):Int):=wrapN (by omega)
    rw [hw]
    refine cg_ex (pick_ok o _ ((xs[m].size+1:Nat):Int) H3 hr3 (by omega) (by omega)) ?_
    rintro v H4 ⟨e,rfl,he,hd4,hr4,-⟩
    have he2:e<=xs[m].size:=by omega
    simp [he2]
    exact⟨keyOk_ltr.2 ⟨hlx.cut 0 e,by rw [ByteArray.size_extract]; omega⟩,hd13.same hd4,hr4.mono (by omega)⟩
   ·refine c_split (fun hq4=>?_) (fun hq4=>?_)<;>simp at hq4<;>simp
    ·refine c_split (fun hq5=>?_) (fun hq5=>?_)<;>simp at hq5<;>simp
     ·have hl3:Strs (H3++[some ⟨[[.str ⟨#[97]⟩],[.str ⟨#[98]⟩],[.str ⟨#[100]⟩]],1,9,false⟩]) (.sl H3.length 0 3) [⟨#[97]⟩,⟨#[98]⟩,⟨#[100]⟩]:=Strs.at (e:=9) (ro:=false) (by simp [strRow]) rfl
      refine cg_ex (of_ok o _ _ _ _ (hr3.le (HLe.self _ _)) hl3 (by simp) (by simp) (by omega)) ?_
      rintro v H4 ⟨s,hs4,rfl,hd4,hr4,-⟩
      have hs1:s.size=1/\Ltr s:=by
       simp at hs4
       rcases hs4 with h | h | h<;>rw [h]<;>exact⟨rfl,Ltr.one (by decide)⟩
      simp
      exact⟨by omega,keyOk_ltr.2 ⟨hlx.app hs1.2,by rw [ByteArray.size_append]; omega⟩,(hd13.app _).same hd4,hr4.mono (by omega)⟩
     ·exact⟨hkx,hd13,hr3.mono (by omega)⟩
    ·exact⟨hkx,hd13,hr3.mono (by omega)⟩
theorem keysR_keys {r:List Ent} (h:∀ e∈r,keyOk e.key=true):∀ k∈keysR r,keyOk k=true:=by
 intro k hk
 obtain⟨e,he,rfl⟩:=keys1_mem none r k hk
 exact h e he
set_option maxHeartbeats 1600000 in
theorem of_key (o N:Nat) (v:AV) (s:Sr) (H:Hp) (hr:Rd H o N) (hN:N<34359738368) (hs:St H v s) (hp:Spl s) (hok:∀ e∈s.top++s.lev.flatten,keyOk e.key=true) :
  AC Tryz.prog E 111 [.pt o 0 0,v] H (fun u H'=>∃ k,u=.str k/\keyOk k=true/\Dr o H H'/\Rd H' o (N+7)):=by
 obtain⟨a,b,c,d,lr,sr,rfl,f1,f2,f3,f4,f5,f6⟩:=hs
 refine AC_by fol (tC_le tab2_ok) h_spec_l71Of ?_
 obtain⟨H1,hH1⟩:∃ H1:Hp,H1=H++[some ⟨[[a,b,c,.int .i64 s.keep,.int .i64 s.time,d]],6,28,false⟩]:=⟨_,rfl⟩
 have hle1:HLe H H1:=by rw [hH1]; exact HLe.self _ _
 have b0:H1.at H.length=some ⟨[[a,b,c,.int .i64 s.keep,.int .i64 s.time,d]],6,28,false⟩:=by rw [hH1]; simp
 have ll:=f3.length
 have l1:=f2.len
 rw [ll] at l1
 obtain⟨z1,z2,z3⟩:=hp.sml
 simp [c_spec_l71Of,stAV,Rows.one f1,f2.one,f4.one,Rows.one f6,<- hH1,b0]
 refine cg_ex (l11Keys_ok a s.top H1 (f1.le hle1) (by omega)) ?_
 rintro v0 H2 ⟨hle2,hv0⟩
 simp
 refine W_for (fun m t H'=>∃ (i:Nat) (out:List ByteArray) (w:AV),i+m=s.lev.length/\t 0=.pt o 0 0/\t 3=.pt H.length 0 0/\t 5=w/\t 6=.int .i64 i/\HLe H1 H'/\OwnS H1 H' w out/\out.length<=2000+1000 * i/\∀ k∈out,keyOk k=true) s.lev.length ?_ (tC_mono AC_mono) ?_
 ·refine⟨0,keysR s.top,v0,by omega,by simp,by simp,by simp,by simp,hle2,hv0,?_,keysR_keys (fun e he=>hok e (List.mem_append_left _ he))⟩
  have:=keysR_len s.top
  omega
 rintro m t H' ⟨i,out,w,him,t0,t3,t5,t6,hle,hw,hol,hko⟩
 have c0:=hle.2 _ _ b0
 have hleH:=hle1.trans hle
 simp [t0,t3,t5,t6,c0,l1,f2.slc]
 refine c_split (fun hq=>?_) (fun hq=>?_)<;>simp at hq
 ·have hi:i<s.lev.length:=by omega
  have hw2:=wrapN (i:=i) (by omega)
  obtain⟨o1,i1,ob1,rfl,x1,x2,x3⟩:=f2.get (j:=i) (by omega)
  obtain⟨u,hu,hue⟩:=f3.get i (by omega) hi
  rw [hu] at x3
  have x1':=hleH.2 _ _ x1
  have q1:i<lr.length:=by omega
  have hlen:=z3 _ (List.getElem_mem hi)
  simp [t0,t3,t5,t6,c0,x1',x2,x3,q1]
  refine cg_ex (l11Keys_ok u s.lev[i] H' (hue.le hleH) (by omega)) ?_
  rintro v1 H3 ⟨hle3,hv1⟩
  have hk1:=keysR_len s.lev[i]
  have hw3:=hw.le hle3
  simp [t0,t3,t5,t6]
  refine appG_cat (bytes:=16) hw3 hv1.rows (hle.trans hle3) (by omega) (fun v2 H4 g1 g2 g3 g4=>?_)
  simp [t0,t3,t5,t6,hw2]
  refine⟨m-1,by omega,i+1,by omega,by omega,g1,out++keysR s.lev[i],g2,by rw [List.length_append]; omega,fun k hk=>?_⟩
  rcases List.mem_append.1 hk with h | h
  ·exact hko k h
  ·exact keysR_keys (fun e he=>hok e (List.mem_append_right _ (List.mem_flatten.2 ⟨_,List.getElem_mem hi,he⟩))) k h
 ·simp [t0,t5]
  refine cg_ex (near_ok' o N w out H' (hr.le hleH) hw.rows (by omega) hko (by omega)) ?_
  rintro v1 H3 ⟨k,rfl,hk,hd,hr3⟩
  simp
  exact⟨hk,(hleH.fr (S:=fun x=>x=o)).same hd,hr3⟩
theorem of_both (o N:Nat) (v:AV) (s:Sr) (H:Hp) (hr:Rd H o N) (hN:N<34359738368) (hs:St H v s) (hp:Spl s) :
  AC Tryz.prog E 111 [.pt o 0 0,v] H (fun u H'=>∃ k,u=.str k/\k.size<=5/\(storeOk s=true->keyOk k=true)/\Dr o H H'/\Rd H' o (N+7)):=by
 by_cases ho:storeOk s=true
 ·have hv:=hp.val ho
  refine (of_key o N v s H hr hN hs hp (fun e he=>?_)).mono (fun u H' q=>?_)
  ·have:=hv.ent e he
   simp only [entOk,Bool.and_eq_true] at this
   exact this.1.1.1
  ·obtain⟨k,h1,h2,h3,h4⟩:=q
   exact⟨k,h1,keyOk_size h2,fun _=>h2,h3,h4⟩
 ·refine (l71Of_ok o N v s H hr hN hs hp).mono (fun u H' q=>?_)
  obtain⟨k,h1,h2,h3,h4⟩:=q
  exact⟨k,h1,h2,fun h=>absurd h ho,h3,h4⟩
end Go.Proofs.YtgoeenodllmdpaaGreat.B

namespace Go.Proofs.YtgoeenodllmdpaaGreat.B
open Go.RowKit Go.Proofs
set_option linter.unusedVariables false
set_option linter.unusedSimpArgs false
variable {E:Env}
def DrawnL (H H':Hp) (v:AV):Prop:=∃ w s a b n,v=.tu [w,.str a,.str b,.int .i64 n]/\HLe H H'/\St H' w s/\StB s/\Spl s/\a.size<=5/\b.size<=5/\(storeOk s=true->keyOk a=true/\keyOk b=true)
set_option maxHeartbeats 1600000 in
theorem DrawStoreList_ok (c:AV) (bs:List Int) (H:Hp) (hc:Bytes H c bs) (hn:bs.length<4611686018427387904) :
  AC Tryz.prog E 104 [c] H (fun v H'=>DrawnL H H' v):=by
 refine AC_by fol (tC_le tab2_ok) h_spec_DrawStoreList ?_
 obtain⟨H1,hH1⟩:∃ H1:Hp,H1=H++[some ⟨[[.nils,.nils,.nils,.int .i64 0,.int .i64 0,.nils]],6,28,false⟩]:=⟨_,rfl⟩
 have hle1:HLe H H1:=by rw [hH1]; exact HLe.self _ _
 have b1:H1.at H.length=some ⟨[[.nils,.nils,.nils,.int .i64 0,.int .i64 0,.nils]],6,28,false⟩:=by rw [hH1]; simp
 simp [c_spec_DrawStoreList,<- hH1]
 refine cg_ex (l6Open_ok c bs H1 ⟨hc.1.le hle1,hc.2⟩ hn) ?_
 rintro v H2 ⟨r,rfl,ho,hle2,hr2⟩
 have hol:=hr2.lt
 have lH:H.length<H1.length:=Hp.at_lt b1
 have b2:=hle2.2 _ _ b1
 simp
 refine cg_ex (l71Spoilt_ok r 0 H2 hr2 (by omega)) ?_
 rintro w H3 ⟨s,hs,hsb,hsp,hd3,hr3⟩
 obtain⟨xa,xb,xc,xd,rfl,n1,n2,n3,n4,_⟩:=hs.shape
 have b3:=hd3.2 _ _ (show ¬H.length=r by omega) b2
 have hle3:HLe H H3:=(hle1.trans hle2).fr_le hd3 (fun x hx=>by omega)
 obtain⟨H4,hH4⟩:∃ H4:Hp,H4=H3++[some ⟨[[xa,xb,xc,.int .i64 s.keep,.int .i64 s.time,xd]],6,28,false⟩]:=⟨_,rfl⟩
 obtain⟨hle4,c4,hs4⟩:=hs.box hH4
 have b4:=hle4.2 _ _ b3
 have hr4:=hr3.le hle4
 have hle14:=hle3.trans hle4
 have l34:=Hp.at_lt c4
 have l3:=hd3.len
 simp [n1,n2,n3,n4,<- hH4,c4]
 refine cg_ex (of_both r _ _ s H4 hr4 (by omega) hs4 hsp) ?_
 rintro v H5 ⟨k,rfl,hk,hko,hd5,hr5⟩
 have b5:=hd5.2 _ _ (show ¬H.length=r by omega) b4
 have c5:=hd5.2 _ _ (show ¬H3.length=r by omega) c4
 have hs5:=hs4.frE hd5 (e:=2) (by simp) hr4.e2
 have hle15:=hle14.fr_le hd5 (fun x hx=>by omega)
 simp [c5]
 refine cg_ex (of_both r _ _ s H5 hr5 (by omega) hs5 hsp) ?_
 rintro v H6 ⟨k2,rfl,hk2,hko2,hd6,hr6⟩
 have b6:=hd6.2 _ _ (show ¬H.length=r by omega) b5
 have c6:=hd6.2 _ _ (show ¬H3.length=r by omega) c5
 have hs6:=hs5.frE hd6 (e:=2) (by simp) hr5.e2
 have hle16:=hle15.fr_le hd6 (fun x hx=>by omega)
 have fin:∀ {G:Hp} {x y:ByteArray} {M:Nat},HLe H G->St G (.ag [xa,xb,xc,.int .i64 s.keep,.int .i64 s.time,xd]) s->G.at H.length=some ⟨[[.nils,.nils,.nils,.int .i64 0,.int .i64 0,.nils]],6,28,false⟩->x.size<=5->y.size<=5->(storeOk s=true->keyOk x=true/\keyOk y=true)->∀ n,DrawnL H (List.set G H.length (some ⟨[[xa,xb,xc,.int .i64 s.keep,.int .i64 s.time,xd]],6,28,false⟩)) (.tu [.ag [xa,xb,xc,.int .i64 s.keep,.int .i64 s.time,xd],.str x,.str y,.int .i64 n]):=by
  intro G x y M h1 h2 h3 h4 h5 h6 n
  obtain⟨z1,z2⟩:=h2.put6 h1 (Nat.le_refl _) h3 (some ⟨[[xa,xb,xc,.int .i64 s.keep,.int .i64 s.time,xd]],6,28,false⟩)
  exact⟨_,s,x,y,n,rfl,z1,z2,hsb,hsp,h4,h5,h6⟩
 have last:∀ (K:Hp) (M:Nat),M<=100000->Rd K r M->St K (.ag [xa,xb,xc,.int .i64 s.keep,.int .i64 s.time,xd]) s->AC Tryz.prog E 112 [.pt r 0 0,.ag [xa,xb,xc,.int .i64 s.keep,.int .i64 s.time,xd]] K (fun u H'=>∃ n,u=.int .i64 n/\Dr r K H'/\Rd H' r (M+2)):=fun K M hM h1 h2=>l71Time_ok r M _ s K h1 (by omega) h2 hsb
 have nrH:¬H.length=r:=by omega
 have nr3:¬H3.length=r:=by omega
 by_cases hlt:sless k2 k=true
 ·simp [hlt]
  refine cg_ex (pick_ok r _ 6 H6 hr6 (by omega) (by omega)) ?_
  rintro v H7 ⟨z,rfl,hz,hd7,hr7,_⟩
  have b7:=hd7.2 _ _ nrH b6
  have c7:=hd7.2 _ _ nr3 c6
  have hs7:=hs6.frE hd7 (e:=2) (by simp) hr6.e2
  have hle17:=hle16.fr_le hd7 (fun x hx=>by omega)
  simp
  refine c_split (fun hq=>?_) (fun hq=>?_)<;>simp at hq<;>simp [c7]
  all_goals
   refine cg_ex (last H7 _ (by omega) hr7 hs7) ?_
   rintro v H8 ⟨n,rfl,hd8,hr8⟩
   have b8:=hd8.2 _ _ nrH b7
   have c8:=hd8.2 _ _ nr3 c7
   have hs8:=hs7.frE hd8 (e:=2) (by simp) hr7.e2
   have hle18:=hle17.fr_le hd8 (fun x hx=>by omega)
   have u8:=Hp.at_lt b8
   simp [c8,b8,u8,n1,n2,n3,n4,Hp.at_set]
   first
    | exact fin (M:=0) hle18 hs8 b8 hk2 hk (fun h=>⟨hko2 h,hko h⟩) n
    | exact fin (M:=0) hle18 hs8 b8 hk hk2 (fun h=>⟨hko h,hko2 h⟩) n
 ·simp [hlt,c6]
  refine cg_ex (last H6 _ (by omega) hr6 hs6) ?_
  rintro v H8 ⟨n,rfl,hd8,hr8⟩
  have b8:=hd8.2 _ _ nrH b6
  have c8:=hd8.2 _ _ nr3 c6
  have hs8:=hs6.frE hd8 (e:=2) (by simp) hr6.e2
  have hle18:=hle16.fr_le hd8 (fun x hx=>by omega)
  have u8:=Hp.at_lt b8
  simp [c8,b8,u8,n1,n2,n3,n4,Hp.at_set]
  exact fin (M:=0) hle18 hs8 b8 hk hk2 (fun h=>⟨hko h,hko2 h⟩) n
end Go.Proofs.YtgoeenodllmdpaaGreat.B

namespace Go.Proofs.YtgoeenodllmdpaaGreat.B
open Go.RowKit Go.Proofs
set_option linter.unusedVariables false
set_option linter.unusedSimpArgs false
variable {E:Env}
def spansP (s:Sr) (fr to:ByteArray) (i:Nat):Bool:=meetsR (keysR (s.lev.getD i [])) s.keep fr to
def spansN (s:Sr) (fr to:ByteArray):Int:=if storeOk s=true/\keyOk fr=true/\keyOk to=true then ((List.range 3).countP (spansP s fr to):Nat) else -1
theorem spans1_ok (ks:List ByteArray) (keep:Int) (r:AV) (fr to:ByteArray) (o1 o2:Nat) (b1 b2:Ob) (H:Hp) (hk:keysOk ks=true) (hkp:0<=keep/\keep<=5) (hr:Strs H r (sieveR ks keep).r) (hf:fr.size<4611686018427387904) (ht:to.size<4611686018427387904) (h1:H.at o1=some b1) (hb1:b1.rows[0]?=some [.str fr]) (h2:H.at o2=some b2) (hb2:b2.rows[0]?=some [.str to]) :
  AC Tryz.prog E 106 [svAV (sieveR ks keep) r,.pt o1 0 0,.pt o2 0 0] H (fun v H'=>v=.bool (meetsR ks keep fr to)/\H'=H):=by
 refine AC_byp (tC_le tabJ_ok) h_impl_StoreSpans_1 (by simp) ?_
 obtain⟨H1,hH1,hle1,b0⟩:=svBox (sieveR ks keep) r H
 have hr1:=Rows.one hr
 have h11:=hle1.2 _ _ h1
 have h21:=hle1.2 _ _ h2
 have cM:=SieveMeets_ok (E:=E) ks keep r fr to H1 hk hkp (hr.le hle1) hf ht
 simp only [svAV] at cM
 simp [c_impl_StoreSpans_1,svAV,hr1,<- hH1,b0,h11,hb1,h21,hb2]
 refine cg_use cM ?_
 simp [hle1]
theorem two_fn1 (f o p:Nat):one (.fn f [.pt o 0 0,.pt p 0 0])=true:=by simp [one]
set_option maxHeartbeats 1600000 in
theorem implSpans_ok (v:AV) (s:Sr) (fr to:ByteArray) (H:Hp) (hs:St H v s) (hb:StB s) (hf:fr.size<4611686018427387904) (ht:to.size<4611686018427387904) :
  AC Tryz.prog E 34 [v,.str fr,.str to] H (fun u H'=>u=.int .i64 (spansN s fr to)/\H'=H):=by
 have hs0:=hs
 obtain⟨a,b,c,d,rfl,n1,n2,n3,n4,_,_⟩:=hs.shape
 refine AC_byp (tC_le tabJ_ok) h_impl_StoreSpans (by simp) ?_
 obtain⟨H1,hH1⟩:∃ H1:Hp,H1=H++[some ⟨[[a,b,c,.int .i64 s.keep,.int .i64 s.time,d]],6,28,false⟩,some ⟨[[.str fr]],1,9,false⟩,some ⟨[[.str to]],1,9,false⟩]:=⟨_,rfl⟩
 have hle1:HLe H H1:=by rw [hH1]; exact HLe.self _ _
 have b0:H1.at H.length=some ⟨[[a,b,c,.int .i64 s.keep,.int .i64 s.time,d]],6,28,false⟩:=by rw [hH1]; simp
 have b1:H1.at (H.length+1)=some ⟨[[.str fr]],1,9,false⟩:=by rw [hH1]; simp
 have b2:H1.at (H.length+2)=some ⟨[[.str to]],1,9,false⟩:=by rw [hH1]; simp
 have hkf:∀ {C:CallP} {d:Option Nat} {ag} {p:Plan} {t:Tm} {H:Hp} {K:Tm->Hp->Prop},_:=@fun C d ag p t H K=>tabJ_key C d ag p t H K fr hf
 have hkt:∀ {C:CallP} {d:Option Nat} {ag} {p:Plan} {t:Tm} {H:Hp} {K:Tm->Hp->Prop},_:=@fun C d ag p t H K=>tabJ_key C d ag p t H K to ht
 simp [c_impl_StoreSpans,stAV,n1,n2,n3,n4,<- hH1,b0]
 have cO:=implStoreOk_ok (E:=E) _ s H1 (hs0.le hle1) hb
 try simp only [stAV] at cO
 refine cg_use cO ?_
 cases ho:storeOk s with
 | false =>
  have e:spansN s fr to=-1:=by unfold spansN; rw [if_neg (fun h=>by rw [ho] at h; cases h.1)]
  simp [e,hle1]
 | true =>
  cases hfk:keyOk fr with
  | false =>
   have e:spansN s fr to=-1:=by unfold spansN; rw [if_neg (fun h=>by rw [hfk] at h; cases h.2.1)]
   simp [e,hkf,hfk,b1,hle1]
  | true =>
   cases htk:keyOk to with
   | false =>
    have e:spansN s fr to=-1:=by unfold spansN; rw [if_neg (fun h=>by rw [htk] at h; cases h.2.2)]
    simp [e,hkf,hkt,hfk,htk,b1,b2,hle1]
   | true =>
    have e:spansN s fr to=((List.range 3).countP (spansP s fr to):Nat):=by unfold spansN; rw [if_pos ⟨ho,hfk,htk⟩]
    have hsm:=storeOk_small ho
    have e3:s.lev.length=3:=hsm.2.2.2.2.2.2.2.1
    have s3:s.sv.length=3:=hsm.2.2.2.2.2.2.2.2
    have cC:=count_ok (E:=E) _ s 106 [.pt (H.length+1) 0 0,.pt (H.length+2) 0 0] (spansP s fr to) H1 (hs0.le hle1) hb s3 (two_fn1 _ _ _) (fun i hi r H' hle hr=>by
     have hi3:i<3:=by omega
     have hil:i<s.lev.length:=by omega
     have hso:=storeOk_level ho hi3 hil hi
     obtain⟨v1,v2,v3,v4⟩:=sieveO_some hso
     have hlp:spansP s fr to i=meetsR (keysR s.lev[i]) s.keep fr to:=by
      unfold spansP
      rw [List.getD_eq_getElem?_getD,List.getElem?_eq_getElem hil]
      rfl
     have hr':Strs H' r (sieveR (keysR s.lev[i]) s.keep).r:=by rw [<- v4]; exact hr
     rw [hlp,v4]
     exact spans1_ok (keysR s.lev[i]) s.keep r fr to (H.length+1) (H.length+2) _ _ H' v1 ⟨v2,v3⟩ hr' hf ht (hle.2 _ _ b1) rfl (hle.2 _ _ b2) rfl) (fun a=>rfl)
    try simp only [stAV] at cC
    simp [hkf,hkt,hfk,htk,b0,b1,b2]
    refine cg_use cC ?_
    simp [hle1,e]
def SsI (s:Sr) (fr to:ByteArray) (S:Nat) (H:Hp) (m:Nat) (t:Tm) (K:Hp):Prop:=∃ i:Nat,i+m=3/\t 1=.str fr/\t 2=.str to/\t 3=.pt S 0 0/\t 7=.int .i64 ((List.range i).countP (spansP s fr to))/\t 8=.int .i64 i/\K=H
set_option maxHeartbeats 1600000 in
theorem specSpans_ok (v:AV) (s:Sr) (fr to:ByteArray) (H:Hp) (hs:St H v s) (hb:StB s) (hf:fr.size<4611686018427387904) (ht:to.size<4611686018427387904) :
  AC Tryz.prog E 35 [v,.str fr,.str to] H (fun u H'=>u=.int .i64 (spansN s fr to)/\H'=H):=by
 have hs0:=hs
 obtain⟨a,b,c,d,lr,sr,rfl,ha,hb1,hlr,hc,hsr,hd⟩:=hs
 refine AC_byp (tC_le tab2_ok) h_spec_StoreSpans (by simp) ?_
 obtain⟨H1,hH1⟩:∃ H1:Hp,H1=H++[some ⟨[[a,b,c,.int .i64 s.keep,.int .i64 s.time,d]],6,28,false⟩]:=⟨_,rfl⟩
 have hle1:HLe H H1:=by rw [hH1]; exact HLe.self _ _
 have b0:H1.at H.length=some ⟨[[a,b,c,.int .i64 s.keep,.int .i64 s.time,d]],6,28,false⟩:=by rw [hH1]; simp
 have hkf:∀ {C:CallP} {d:Option Nat} {ag} {p:Plan} {t:Tm} {H:Hp} {K:Tm->Hp->Prop},_:=@fun C d ag p t H K=>tab2_key C d ag p t H K fr hf
 have hkt:∀ {C:CallP} {d:Option Nat} {ag} {p:Plan} {t:Tm} {H:Hp} {K:Tm->Hp->Prop},_:=@fun C d ag p t H K=>tab2_key C d ag p t H K to ht
 simp [c_spec_StoreSpans,stAV,Rows.one ha,hb1.one,hc.one,Rows.one hd,<- hH1,b0]
 have cO:=StoreOk_ok (E:=E) _ s H1 (hs0.le hle1) hb
 try simp only [stAV] at cO
 refine cg_use cO ?_
 cases ho:storeOk s with
 | false =>
  have e:spansN s fr to=-1:=by unfold spansN; rw [if_neg (fun h=>by rw [ho] at h; cases h.1)]
  simp [e,hle1]
 | true =>
  cases hfk:keyOk fr with
  | false =>
   have e:spansN s fr to=-1:=by unfold spansN; rw [if_neg (fun h=>by rw [hfk] at h; cases h.2.1)]
   simp [e,hkf,hfk,hle1]
  | true =>
   cases htk:keyOk to with
   | false =>
    have e:spansN s fr to=-1:=by unfold spansN; rw [if_neg (fun h=>by rw [htk] at h; cases h.2.2)]
    simp [e,hkf,hkt,hfk,htk,hle1]
   | true =>
    have e:spansN s fr to=((List.range 3).countP (spansP s fr to):Nat):=by unfold spansN; rw [if_pos ⟨ho,hfk,htk⟩]
    have hsm:=storeOk_small ho
    have e3:s.lev.length=3:=hsm.2.2.2.2.2.2.2.1
    have s3:s.sv.length=3:=hsm.2.2.2.2.2.2.2.2
    have ls:=hsr.length
    have lc:=hc.len
    rw [ls,s3] at lc
    simp [hkf,hkt,hfk,htk]
    refine W_for (SsI s fr to H.length H1) 3 ?_ (tC_mono AC_mono) ?_
    ·exact⟨0,by omega,by simp,by simp,by simp,by simp,by simp,rfl⟩
    rintro m t K ⟨i,him,t1,t2,t3,t7,t8,rfl⟩
    simp [t1,t2,t3,t7,t8,b0,lc,hc.slc]
    refine c_split (fun hq=>?_) (fun hq=>?_)<;>simp at hq
    ·have hi3:i<3:=by omega
     have hil:i<s.lev.length:=by omega
     have his:i<s.sv.length:=by omega
     have hw:=wrapN (i:=i) (by omega)
     obtain⟨o2,i2,ob2,rfl,y1,y2,y3⟩:=hc.get (j:=i) (by omega)
     obtain⟨r,hr,hrs,_⟩:=hsr.get i (by omega) his
     rw [hr] at y3
     have y1':=hle1.2 _ _ y1
     have q2:i<sr.length:=by omega
     have hso:=storeOk_level ho hi3 hil his
     obtain⟨v1,v2,v3,v4⟩:=sieveO_some hso
     have hlp:spansP s fr to i=meetsR (keysR s.lev[i]) s.keep fr to:=by
      unfold spansP
      rw [List.getD_eq_getElem?_getD,List.getElem?_eq_getElem hil]
      rfl
     have cM:=sMeets_ok (E:=E) (keysR s.lev[i]) s.keep r fr to K v1 ⟨v2,v3⟩ (by rw [<- v4]; exact hrs.le hle1) hf ht
     rw [<- v4,<- hlp] at cM
     simp only [svAV] at cM
     have hcn:=List.countP_le_length (p:=spansP s fr to) (l:=List.range i)
     rw [List.length_range] at hcn
     have hst:(List.range (i+1)).countP (spansP s fr to)=(List.range i).countP (spansP s fr to)+(if spansP s fr to i=true then 1 else 0):=by
      rw [List.range_succ,List.countP_append,List.countP_singleton]
     simp [t1,t2,t3,t7,t8,b0,y1',y2,y3,q2]
     refine cg_use cM ?_
     cases hp:spansP s fr to i with
     | true =>
      rw [hp,if_pos rfl] at hst
      have hw2:IntKind.i64.wrap (((List.range i).countP (spansP s fr to):Nat)+1:Int)=(((List.range i).countP (spansP s fr to)+1:Nat):Int):=wrapN (by omega)
      simp [t1,t2,t3,t7,t8,hw,hw2]
      exact⟨m-1,by omega,i+1,by omega,by simp [t1],by simp [t2],by simp [t3],by rw [hst]; simp,by simp,rfl⟩
     | false =>
      rw [hp] at hst
      simp only [Bool.false_eq_true,if_false,Nat.add_zero] at hst
      simp [t1,t2,t3,t7,t8,hw]
      exact⟨m-1,by omega,i+1,by omega,by simp [t1],by simp [t2],by simp [t3],by rw [hst]; simp [t7],by simp,rfl⟩
    ·have:i=3:=by omega
     subst this
     simp [t7,hle1,e]
def KfI (fr:ByteArray) (ks:List ByteArray) (a:AV) (H:Hp) (m:Nat) (t:Tm) (K:Hp):Prop:=∃ i:Nat,i+m=ks.length/\t 1=.str fr/\t 11=a/\t 12=.int .i64 ks.length/\t 13=.int .i64 i/\(ks.drop i).find? (fun k=>!sless k fr)=ks.find? (fun k=>!sless k fr)/\K=H
theorem KeyFirst_ok (a:AV) (ks:List ByteArray) (fr:ByteArray) (H:Hp) (ha:Strs H a ks) (hk:keysOk ks=true) :
  AC Tryz.prog E 36 [a,.str fr] H (fun v H'=>v=.tu [.str ((ks.find? (fun k=>!sless k fr)).getD ⟨#[]⟩),.bool (ks.find? (fun k=>!sless k fr)).isSome]/\H'=H):=by
 refine AC_byp (tC_le tabJ_ok) h_impl_KeyFirst (by simp) ?_
 have l1:=ha.len
 have hl24:=(keysOk_good hk).2
 have hok:=(SP.of_keys hk).ok
 simp [c_impl_KeyFirst]
 refine cg_use (implKeysOk_ok a ks H ha (fun k hk=>by have:=keyOk_size (hok k hk); omega) (by omega)) ?_
 simp [hk,l1,ha.slc]
 refine W_for (KfI fr ks a H) ks.length ?_ (tC_mono AC_mono) ?_
 ·exact⟨0,by omega,by simp,by simp,by simp,by simp,by simp,rfl⟩
 rintro m t K ⟨i,him,t1,t11,t12,t13,hP,rfl⟩
 simp [t1,t11,t12,t13]
 refine c_split (fun hq=>?_) (fun hq=>?_)<;>simp at hq
 ·have hi:i<ks.length:=by omega
  have hw:=wrapN (i:=i) (by omega)
  rw [find_drop hi] at hP
  obtain⟨o1,i1,ob1,e1,x1,x2,x3⟩:=Strs.get ha hi
  subst e1
  cases hl:sless ks[i] fr with
  | false =>
   rw [hl] at hP
   simp at hP
   rw [<- hP]
   simp [t1,t11,t12,t13,hi,x1,x2,x3,hl]
  | true =>
   rw [hl] at hP
   simp at hP
   simp [t1,t11,t12,t13,hi,x1,x2,x3,hl,hw]
   exact⟨m-1,by omega,i+1,by omega,by simp [t1],by simp [t11],by simp [t12],by simp,by simpa using hP,rfl⟩
 ·have:i=ks.length:=by omega
  subst this
  rw [List.drop_length] at hP
  rw [<- hP]
  simp
def DrawnW (H H':Hp) (v:AV):Prop:=∃ w s a b,v=.tu [w,.str a,.str b]/\HLe H H'/\St H' w s/\StB s/\Spl s/\a.size<=5/\b.size<=5
set_option maxHeartbeats 1600000 in
theorem DrawStoreSpans_ok (c:AV) (bs:List Int) (H:Hp) (hc:Bytes H c bs) (hn:bs.length<4611686018427387904) :
  AC Tryz.prog E 33 [c] H (fun v H'=>DrawnW H H' v):=by
 refine AC_by fol (tC_le tab2_ok) h_spec_DrawStoreSpans ?_
 obtain⟨H1,hH1⟩:∃ H1:Hp,H1=H++[some ⟨[[.nils,.nils,.nils,.int .i64 0,.int .i64 0,.nils]],6,28,false⟩]:=⟨_,rfl⟩
 have hle1:HLe H H1:=by rw [hH1]; exact HLe.self _ _
 have b1:H1.at H.length=some ⟨[[.nils,.nils,.nils,.int .i64 0,.int .i64 0,.nils]],6,28,false⟩:=by rw [hH1]; simp
 simp [c_spec_DrawStoreSpans,<- hH1]
 refine cg_ex (DrawStoreList_ok c bs H1 ⟨hc.1.le hle1,hc.2⟩ hn) ?_
 rintro v H2 ⟨w,s,fr,to,n,rfl,hle2,hs,hsb,hsp,hf5,ht5,_⟩
 obtain⟨xa,xb,xc,xd,rfl,n1,n2,n3,n4,_⟩:=hs.shape
 obtain⟨H3,hH3⟩:∃ H3:Hp,H3=H2++[some ⟨[[xa,xb,xc,.int .i64 s.keep,.int .i64 s.time,xd]],6,28,false⟩]:=⟨_,rfl⟩
 obtain⟨hle3,c3,hs3⟩:=hs.box hH3
 have b3:=hle3.2 _ _ (hle2.2 _ _ b1)
 have u3:=Hp.at_lt b3
 have hleA:=(hle1.trans hle2).trans hle3
 simp [n1,n2,n3,n4,<- hH3,c3,b3,u3,Hp.at_set]
 obtain⟨z1,z2⟩:=hs3.put6 hleA (Nat.le_refl _) b3 (some ⟨[[xa,xb,xc,.int .i64 s.keep,.int .i64 s.time,xd]],6,28,false⟩)
 exact⟨_,s,fr,to,rfl,z1,z2,hsb,hsp,hf5,ht5⟩
def YfI (S:Nat) (s:Sr) (fr to:ByteArray) (n:Nat) (H:Hp) (m:Nat) (t:Tm) (K:Hp):Prop:=∃ (i l:Nat),i+m=3/\t 3=.pt S 0 0/\t 4=.str fr/\t 5=.str to/\t 6=.int .i64 n/\t 7=.int .i64 l/\t 8=.int .i64 i/\l<=(List.range i).countP (spansP s fr to)/\HLe H K
set_option maxHeartbeats 3200000 in
theorem lawStoreSpans_ok (c:AV) (bs:List Int) (H:Hp) (hc:Bytes H c bs) (hn:bs.length<4611686018427387904) :
  AC Tryz.prog E 7 [c] H (fun v H'=>v=.bool true):=by
 refine AC_by fol (tC_le tabJ_ok) h_laws_FnStoreSpans ?_
 have l1:=hc.len
 simp [c_laws_FnStoreSpans,l1,hc.1.slc]
 by_cases q1:1048576<bs.length
 ·have q1I:(1048576:Int)<bs.length:=by omega
  simp [q1,q1I]
 have q1I:¬(1048576:Int)<bs.length:=by omega
 simp [q1,q1I]
 refine cg_ex (DrawStoreSpans_ok c bs H hc hn) ?_
 rintro v H1 ⟨w,s,fr,to,rfl,hle1,hs,hsb,hsp,hf5,ht5⟩
 have hs00:=hs
 obtain⟨xa,xb,xc,xd,lr,sr,hw,hA,hBl,hlr,hCs,hsr,hDt⟩:=hs00
 have n1:=Rows.one hA
 have n2:=hBl.one
 have n3:=hCs.one
 have n4:=Rows.one hDt
 simp only [stAV] at hw
 subst hw
 obtain⟨H2,hH2⟩:∃ H2:Hp,H2=H1++[some ⟨[[xa,xb,xc,.int .i64 s.keep,.int .i64 s.time,xd]],6,28,false⟩]:=⟨_,rfl⟩
 obtain⟨hle2,b2,hs2⟩:=St.box hs hH2
 simp [n1,n2,n3,n4,<- hH2,b2]
 refine cg_use (implSpans_ok _ s fr to H2 hs2 hsb (by omega) (by omega)) ?_
 simp [b2]
 refine cg_use (specSpans_ok _ s fr to H2 hs2 hsb (by omega) (by omega)) ?_
 by_cases hall:storeOk s=true/\keyOk fr=true/\keyOk to=true
 ·obtain⟨ho,hfk,htk⟩:=hall
  have e:spansN s fr to=((List.range 3).countP (spansP s fr to):Nat):=by unfold spansN; rw [if_pos ⟨ho,hfk,htk⟩]
  have hc3:=List.countP_le_length (p:=spansP s fr to) (l:=List.range 3)
  rw [List.length_range] at hc3
  obtain⟨n,hnn⟩:∃ n,n=(List.range 3).countP (spansP s fr to):=⟨_,rfl⟩
  rw [e,<- hnn]
  rw [<- hnn] at hc3
  have hneg:¬(n:Int)<0:=by omega
  have hval:=hsp.val ho
  have hsm:=storeOk_small ho
  have e3:s.lev.length=3:=hsm.2.2.2.2.2.2.2.1
  have s3:s.sv.length=3:=hsm.2.2.2.2.2.2.2.2
  have lL:=hlr.length
  have lb:=hBl.len
  rw [lL,e3] at lb
  have hrun:∀ r∈s.lev,runOk r=true:=by
   obtain⟨a,b,c,u,v,w,hV⟩:=hval
   rw [hV.lev]
   intro r hr
   simp only [List.mem_cons,List.not_mem_nil,or_false] at hr
   rcases hr with rfl | rfl | rfl
   ·exact hV.la.run
   ·exact hV.lb.run
   ·exact hV.lc.run
  have hB2:∀ es∈s.lev,EsB es:=hsb.2.1
  simp [hneg]
  refine W_for (YfI H1.length s fr to n H2) 3 ?_ (tC_mono AC_mono) ?_
  ·exact⟨0,0,by omega,by simp,by simp,by simp,by simp,by simp,by simp,Nat.zero_le _,HLe.refl _⟩
  rintro m t K ⟨i,l,him,t3,t4,t5,t6,t7,t8,hlc,hle⟩
  have bK:=hle.2 _ _ b2
  have hleA:=hle2.trans hle
  simp [t3,t4,t5,t6,t7,t8,bK,lb,hBl.slc]
  refine c_split (fun hq=>?_) (fun hq=>?_)<;>simp at hq
  ·have hi3:i<3:=by omega
   have hil:i<s.lev.length:=by omega
   have his:i<s.sv.length:=by omega
   have hw2:=wrapN (i:=i) (by omega)
   obtain⟨o1,i1,ob1,e1,x1,x2,x3⟩:=hBl.get (j:=i) (by omega)
   obtain⟨y,hy,hye⟩:=hlr.get i (by omega) hil
   rw [hy] at x3
   have q1:i<lr.length:=by omega
   have hso:=storeOk_level ho hi3 hil his
   obtain⟨v1,v2,v3,v4⟩:=sieveO_some hso
   have x1K:=hleA.2 _ _ x1
   have hlp:spansP s fr to i=meetsR (keysR s.lev[i]) s.keep fr to:=by
    unfold spansP
    rw [List.getD_eq_getElem?_getD,List.getElem?_eq_getElem hil]
    rfl
   have hst:(List.range (i+1)).countP (spansP s fr to)=(List.range i).countP (spansP s fr to)+(if spansP s fr to i=true then 1 else 0):=by
    rw [List.range_succ,List.countP_append,List.countP_singleton]
   have hcl:=List.countP_le_length (p:=spansP s fr to) (l:=List.range i)
   rw [List.length_range] at hcl
   rw [e1] at bK
   simp [t3,t4,t5,t6,t7,t8,bK,x1K,x2,x3,q1]
   refine cg_ex (RunKeys_ok y s.lev[i] K (hye.le hleA) (hB2 _ (List.getElem_mem hil))) ?_
   rintro u K2 ⟨hleK,hu⟩
   rw [if_pos (hrun _ (List.getElem_mem hil))] at hu
   simp [t3,t4,t5,t6,t7,t8]
   refine cg_use (KeyFirst_ok u (keysR s.lev[i]) fr K2 hu.strs v1) ?_
   cases hfd:(keysR s.lev[i]).find? (fun k=>!sless k fr) with
   | none =>
    simp [t3,t4,t5,t6,t7,t8,hw2]
    exact⟨m-1,by omega,i+1,l,by omega,by simp [t3],by simp [t4],by simp [t5],by simp [t6],by simp [t7],by simp,by rw [hst]; omega,hle.trans hleK⟩
   | some x =>
    have hxm:=List.mem_of_find?_eq_some hfd
    have hxf:sless x fr=false:=by simpa using List.find?_some hfd
    cases hxt:sless to x with
    | true =>
     simp [t3,t4,t5,t6,t7,t8,hw2,hxt]
     exact⟨m-1,by omega,i+1,l,by omega,by simp [t3],by simp [t4],by simp [t5],by simp [t6],by simp [t7],by simp,by rw [hst]; omega,hle.trans hleK⟩
    | false =>
     have hmt:=meets_sound v1 v2 hfk htk hxm hxf hxt
     rw [hlp,hmt,if_pos rfl] at hst
     have hw3:IntKind.i64.wrap ((l:Int)+1)=((l+1:Nat):Int):=wrapN (by omega)
     simp [t3,t4,t5,t6,t7,t8,hw2,hw3,hxt]
     exact⟨m-1,by omega,i+1,l+1,by omega,by simp [t3],by simp [t4],by simp [t5],by simp [t6],by simp,by simp,by rw [hst]; omega,hle.trans hleK⟩
  ·have:i=3:=by omega
   subst this
   rw [<- hnn] at hlc
   have hlI:(l:Int)<=n:=by omega
   have hn3:(n:Int)<=3:=by omega
   cases hlt:sless to fr with
   | true=>simp [t3,t4,t5,t6,t7,t8,hlI,hn3,hlt,hlc,hc3]
   | false =>
    have hmono:(List.range 3).countP (looksP s fr)<=n:=by
     rw [hnn]
     refine List.countP_mono_left (fun j hj hh=>?_)
     have hj3:j<3:=List.mem_range.1 hj
     have hjl:j<s.lev.length:=by omega
     have hso:=storeOk_level ho hj3 hjl (by omega)
     obtain⟨v1,v2,v3,v4⟩:=sieveO_some hso
     unfold looksP at hh
     unfold spansP
     rw [List.getD_eq_getElem?_getD,List.getElem?_eq_getElem hjl] at hh ⊢
     exact has_meets v1 v2 hfk htk hlt hh
    obtain⟨cn,hcn⟩:∃ cn,cn=(List.range 3).countP (looksP s fr):=⟨_,rfl⟩
    have cL:=StoreLooks_ok (E:=E) _ s fr K (hs2.le hle) hsb ho hfk
    rw [<- hcn] at hmono cL
    have hmI:(cn:Int)<=n:=by omega
    simp [t3,t4,t5,t6,t7,t8,hlI,hn3,hlt,hlc,hc3,bK]
    refine cg_use cL ?_
    simp [hmI,hmono]
 ·have e:spansN s fr to=-1:=by unfold spansN; rw [if_neg hall]
  rw [e]
  simp [b2]
  refine cg_use (specSpans_ok _ s fr to H2 hs2 hsb (by omega) (by omega)) ?_
  rw [e]
  simp
end Go.Proofs.YtgoeenodllmdpaaGreat.B

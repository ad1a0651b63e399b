/- A part of the proof: What deeds leave of what is found and listed: in plain Lean. How runs are let down does not depend on how much sieves keep; and with few entries there is always room: in plain Lean. Stores are compared, whole. What changes nothing may be left out, in plain Lean. Deeds that change something. A store and deeds are drawn. Stores, keys and values that are drawn. The law FnStorePutOther. Stores that are drawn, and times of theirs. The law FnStoreHold. The law FnStoreFree. To let down twice; to keep nothing: in plain Lean. A store's parts. Stores and keys, stores and levels that are drawn. The law FnStorePut. The law FnStoreTake. The law FnStoreDown. The law FnStoreDownTwice. The program finds what was put last. The law FnPastIdle. The reference's past with what is written. Pasts that are drawn. The law FnPastGetTop. The law FnStoreJoin. The law FnStoreTakeList. The law FnStoreTwice. The law FnStoreFreeAll. How many entries there are; with few of them there is always room: in plain Lean. It does not matter when runs are let down, and joined: in plain Lean. The law FnPastDown. All laws of a seat. There is no condition. -/
import Derived.Test.YtepeokaplbbpoaaGreatM0
import Derived.Test.YtepeokaplbbpoaaGreatM1
import Derived.Test.YtepeokaplbbpoaaGreatM2
import Derived.Test.YtepeokaplbbpoaaGreatM3
import Derived.Test.YtepeokaplbbpoaaGreatM4
import Derived.Test.YtepeokaplbbpoaaGreatM5
namespace Go.Proofs.YtepeokaplbbpoaaGreat.B
open Go.RowKit Go.Proofs
set_option linter.unusedVariables false
set_option linter.unusedSimpArgs false
theorem addR_ok {s x:Sr} {e:Ent} (hx:addR s e=some x):storeOk s=true/\entOk e=true:=by
 unfold addR at hx
 split at hx
 ·rename_i h
  simp only [Bool.and_eq_true] at h
  exact h
 ·cases hx
theorem Kept.self {s:Sr} {t:Int} (h:Val s) (hm:t∈s.tms):Kept s t s:=⟨h,hm,fun k f _=>Iff.rfl⟩
theorem Kept.at {s x:Sr} {t:Int} (h:Kept s t x) (hs:Val s) (hm:t∈s.tms):SameAt x s t t :=
 SameAt.of h.val hs (by rw [known_iff.2 (.inl h.mem),known_iff.2 (.inl hm)]) (fun _ k f hf=>(h.seen k f hf).symm)
theorem add_past {s x:Sr} {e:Ent} (hs:Val s) (he:e.time=s.time+1) (hx:addR s e=some x):Val x/\x.time=s.time+1/\∀ t∈s.tms,SameAt x s t t:=by
 have hs0:=hs
 obtain⟨a,b,c,u,v,w,hv⟩:=hs0
 obtain⟨hxv,ht,_⟩:=add_V hv he hx
 exact⟨hxv,ht,fun t hm=>((Kept.self hs hm).add he hx).at hs hm⟩
theorem add_found {s x:Sr} {e:Ent} (hs:Val s) (he:e.time=s.time+1) (hx:addR s e=some x) (k:ByteArray) (f:Ent) (hf:f.gone=false):Best (entsR x) k x.time f↔(e.key=k/\f=e)\/(e.key≠k/\Best (entsR s) k s.time f):=by
 have hs0:=hs
 obtain⟨a,b,c,u,v,w,hv⟩:=hs0
 obtain⟨hxv,ht,hkp,htm,hek,y,hfd,hsub,hmem⟩:=add_V hv he hx
 have hy:∀ z∈entsR y,z.time<=s.time:=fun z hz=>hs.late z (hsub z hz)
 rw [best_snoc (l:=entsR y) (fun z hz=>by have:=hy z hz; omega) hmem,best_late (t:=s.time) hy (by omega),<- hfd s.time (.inr rfl) k f hf]
 constructor
 ·rintro (⟨h1,_,h3⟩ | ⟨h1,h2⟩)
  ·exact .inl ⟨h1,h3⟩
  ·exact .inr ⟨fun h=>h1 ⟨h,by omega⟩,h2⟩
 ·rintro (⟨h1,h2⟩ | ⟨h1,h2⟩)
  ·exact .inl ⟨h1,by omega,h2⟩
  ·exact .inr ⟨fun h=>h1 h.1,h2⟩
theorem add_best {s x:Sr} {e:Ent} (hs:Val s) (he:e.time=s.time+1) (hx:addR s e=some x):Best (entsR x) e.key x.time e:=by
 have hs0:=hs
 obtain⟨a,b,c,u,v,w,hv⟩:=hs0
 obtain⟨hxv,ht,hkp,htm,hek,y,hfd,hsub,hmem⟩:=add_V hv he hx
 exact⟨(hmem e).2 (.inl rfl),rfl,by omega,fun z hz _ _=>by have:=hxv.late z hz; omega⟩
theorem add_got {s x:Sr} {e:Ent} (hs:Val s) (he:e.time=s.time+1) (hx:addR s e=some x):gotR x e.key x.time=(e.val,!e.gone):=by
 obtain⟨hv,_,_⟩:=add_past hs he hx
 have hb:=add_best hs he hx
 obtain⟨_,hek⟩:=addR_ok hx
 have hk:keyOk e.key=true:=by
  simp only [entOk,Bool.and_eq_true] at hek
  exact hek.1.1.1
 unfold gotR
 rw [if_pos ⟨hv.ok,hk,known_now x⟩,hv.best.2 hb]
theorem list_now {s:Sr} {out:List Ent} (hs:Val s) {fr to:ByteArray} (h:ListOf s fr to s.time out) (h1:keyOk fr=true) (h2:keyOk to=true):Listed (entsR s) fr to s.time out:=by
 unfold ListOf at h
 rw [if_pos ⟨hs.ok,h1,h2,known_now s⟩] at h
 exact h
theorem take_list {s x:Sr} {k fr to:ByteArray} {out out2:List Ent} (hs:Val s) (hx:takeR s k=some x) (h:Listed (entsR s) fr to s.time out) (h2:Listed (entsR x) fr to x.time out2):out2=out.filter (fun e=>!decide (e.key=k)):=by
 have hF:=fun (k2:ByteArray) (f:Ent) (hf:f.gone=false)=>add_found (e:=⟨k,0,true,s.time+1⟩) hs rfl hx k2 f hf
 refine asc_ext h2.asc (h.asc.sublist List.filter_sublist) (fun e=>?_)
 rw [h2.mem,List.mem_filter,h.mem]
 constructor
 ·rintro ⟨h3,h4,h5⟩
  rcases (hF e.key e h4).1 h3 with ⟨h6,h7⟩ | ⟨h6,h7⟩
  ·rw [h7] at h4
   cases h4
  ·refine⟨⟨h7,h4,h5⟩,?_⟩
   have:e.key≠k:=fun h=>h6 h.symm
   simp [this]
 ·rintro ⟨⟨h3,h4,h5⟩,h6⟩
  have h7:e.key≠k:=by simpa using h6
  exact⟨(hF e.key e h4).2 (.inr ⟨fun h=>h7 h.symm,h3⟩),h4,h5⟩
theorem put_twice {s x y:Sr} {k fr to:ByteArray} {n:Int} {out out2:List Ent} (hs:Val s) (hx:putR s k n=some x) (hy:putR x k n=some y) (h:Listed (entsR x) fr to x.time out) (h2:Listed (entsR y) fr to y.time out2):out2=out.map (fun e=>if e.key=k then ⟨k,n,false,x.time+1⟩ else e)/\∀ e∈out,e.key=k->e.val=n:=by
 obtain⟨hxv,hxt,_⟩:=add_past (e:=⟨k,n,false,s.time+1⟩) hs rfl hx
 have hF:=fun (k2:ByteArray) (f:Ent) (hf:f.gone=false)=>add_found (e:=⟨k,n,false,s.time+1⟩) hs rfl hx k2 f hf
 have hG:=fun (k2:ByteArray) (f:Ent) (hf:f.gone=false)=>add_found (e:=⟨k,n,false,x.time+1⟩) hxv rfl hy k2 f hf
 have hkey:∀ e:Ent,(if e.key=k then (⟨k,n,false,x.time+1⟩:Ent) else e).key=e.key:=fun e=>by
  by_cases he:e.key=k
  ·rw [if_pos he,he]
  ·rw [if_neg he]
 refine⟨asc_ext h2.asc ?_ (fun e=>?_),fun e he hek=>?_⟩
 ·rw [List.pairwise_map]
  refine h.asc.imp (fun {a b} hab=>?_)
  rw [hkey,hkey]
  exact hab
 ·rw [h2.mem,List.mem_map]
  constructor
  ·rintro ⟨h3,h4,h5⟩
   rcases (hG e.key e h4).1 h3 with ⟨h6,h7⟩ | ⟨h6,h7⟩
   ·refine⟨⟨k,n,false,s.time+1⟩,(h.mem _).2 ⟨(hF k _ rfl).2 (.inl ⟨rfl,rfl⟩),rfl,?_⟩,?_⟩
    ·have:k=e.key:=h6
     rw [<- this] at h5
     exact h5
    ·rw [if_pos rfl,h7]
   ·have h8:e.key≠k:=fun h=>h6 h.symm
    exact⟨e,(h.mem e).2 ⟨h7,h4,h5⟩,if_neg h8⟩
  ·rintro ⟨f,hf,rfl⟩
   obtain⟨h3,h4,h5⟩:=(h.mem f).1 hf
   by_cases he:f.key=k
   ·rw [if_pos he]
    exact⟨(hG k _ rfl).2 (.inl ⟨rfl,rfl⟩),rfl,by rw [<- he]; exact h5⟩
   ·rw [if_neg he]
    exact⟨(hG f.key f h4).2 (.inr ⟨fun h=>he h.symm,h3⟩),h4,h5⟩
 ·obtain⟨h3,h4,h5⟩:=(h.mem e).1 he
  rcases (hF e.key e h4).1 h3 with ⟨h6,h7⟩ | ⟨h6,h7⟩
  ·rw [h7]
  ·exact absurd hek.symm h6
theorem found_same {s x:Sr} {t:Int} (hs:Val s) (hx:Val x) (ht:x.time=s.time) (htm:x.tms=s.tms) (hf:Found s x) (h:t∈s.tms\/t=s.time):SameAt x s t t :=
 SameAt.of hx hs (by rw [known_iff.2 h,known_iff.2 (by rw [htm,ht]; exact h)]) (fun _ k f hg=>(hf t h k f hg).symm)
theorem down_past {s x:Sr} (hs:Val s) (hx:letR s=some x):Val x/\x.top=[]/\x.time=s.time/\x.tms=s.tms/\∀ t,(t∈s.tms\/t=s.time)->SameAt x s t t:=by
 have hs0:=hs
 obtain⟨a,b,c,u,v,w,hv⟩:=hs0
 unfold letR at hx
 rw [if_pos hs.ok] at hx
 obtain⟨h1,h2,h3,h4,h5,h6,h7⟩:=down_V hv hx
 exact⟨h1,h2,h3,h5,fun t ht=>found_same hs h1 h3 h5 h7 ht⟩
theorem join_past {s x:Sr} {l:Int} (hs:Val s) (hx:joinR s l=some x):Val x/\x.top=s.top/\x.time=s.time/\x.tms=s.tms/\∀ t,(t∈s.tms\/t=s.time)->SameAt x s t t:=by
 have hs0:=hs
 obtain⟨a,b,c,u,v,w,hv⟩:=hs0
 obtain⟨h1,h2,h3,h4,h5,h6,h7⟩:=join_V hv hx
 exact⟨h1,h2,h3,h5,fun t ht=>found_same hs h1 h3 h5 h7 ht⟩
theorem intoR_keep:∀ (n:Nat) {s x:Sr} {r:List Ent},intoR n s r=some x->∀ j,j+n<2->x.lev.getD j []=s.lev.getD j []
 | 0,s,x,r,h,j,hj=>by
  rw [intoR] at h
  obtain⟨v,hx,_,_⟩:=setR_some h
  rw [hx]
  simp only [List.getD_eq_getElem?_getD]
  rw [List.getElem?_set_ne (by omega)]
 | n+1,s,x,r,h,j,hj=>by
  have hne:∀ {y z:Sr} {q:List Ent},setR y (1-n) q=some z->z.lev.getD j []=y.lev.getD j []:=by
   intro y z q hz
   obtain⟨v,hx,_,_⟩:=setR_some hz
   rw [hx]
   simp only [List.getD_eq_getElem?_getD]
   rw [List.getElem?_set_ne (by omega)]
  rw [intoR] at h
  split at h
  ·rename_i z hz
   obtain rfl:=Option.some.inj h
   exact hne hz
  ·split at h
   ·cases h
   ·rename_i z hz
    rw [hne h]
    exact intoR_keep n hz j (by omega)
theorem join_empty {s x:Sr} {l:Int} (hs:Val s) (hx:joinR s l=some x):0<=l/\l<=1/\x.lev.getD l.toNat []=[]:=by
 obtain⟨a,b,c,u,v,w,hv⟩:=hs
 unfold joinR at hx
 split at hx
 case isFalse=>cases hx
 rename_i hl
 refine⟨hl.2.1,hl.2.2,?_⟩
 split at hx
 ·cases hx
 ·rename_i x0 h0
  rw [intoR_keep _ hx l.toNat (by omega)]
  obtain⟨z,h1,_,_⟩:=setR_some h0
  rw [h1]
  simp only [List.getD_eq_getElem?_getD]
  rw [List.getElem?_set_self (by rw [hv.lev]; simp; omega)]
  rfl
end Go.Proofs.YtepeokaplbbpoaaGreat.B

namespace Go.Proofs.YtepeokaplbbpoaaGreat.B
open Go.RowKit Go.Proofs
set_option linter.unusedVariables false
set_option linter.unusedSimpArgs false
theorem keys1_asc:∀ (r:List Ent) (p:Option Ent),r.Pairwise (fun a b=>ahead a b=true)->(∀ q,p=some q->∀ x∈r,ahead q x=true)->(keys1 p r).Pairwise (fun a b=>sless a b=true)/\∀ q,p=some q->∀ k∈keys1 p r,sless q.key k=true
 | [],p,_,_=>⟨List.Pairwise.nil,fun q _ k hk=>by cases hk⟩
 | e :: r,p,h,hp=>by
  obtain⟨h1,h2⟩:=List.pairwise_cons.1 h
  obtain⟨i1,i2⟩:=keys1_asc r (some e) h2 (fun q hq x hx=>by
   obtain rfl:=Option.some.inj hq
   exact h1 x hx)
  have ie:=i2 e rfl
  rw [keys1]
  by_cases hn:newK p e=true
  ·rw [if_pos hn]
   refine⟨List.pairwise_cons.2 ⟨ie,i1⟩,fun q hq k hk=>?_⟩
   have hqe:sless q.key e.key=true:=by
    rcases (ahead_iff _ _).1 (hp q hq e (by simp)) with h3 | h3
    ·exact h3
    ·rw [hq] at hn
     simp [newK,h3.1] at hn
   rcases List.mem_cons.1 hk with rfl | hk
   ·exact hqe
   ·exact sless_trans hqe (ie k hk)
  ·rw [if_neg hn]
   refine⟨i1,fun q hq k hk=>?_⟩
   rw [hq] at hn
   have:q.key=e.key:=by simpa [newK] using hn
   rw [this]
   exact ie k hk
theorem run_keys {r:List Ent} (h:runOk r=true) (hl:r.length<=24):keysOk (keysR r)=true:=by
 obtain⟨h1,h2,h3⟩:=runOk_pair h
 obtain⟨ks,hks⟩:∃ ks,ks=keysR r:=⟨_,rfl⟩
 have ha:ks.Pairwise (fun a b=>sless a b=true):=by
  rw [hks]
  exact (keys1_asc r none h1 (fun q hq=>by cases hq)).1
 have hm:∀ k∈ks,keyOk k=true:=by
  rw [hks]
  intro k hk
  obtain⟨e,he,rfl⟩:=keys1_mem none r k hk
  have:=h2 e he
  simp only [entOk,Bool.and_eq_true] at this
  exact this.1.1.1
 have hl2:ks.length<=24:=by
  rw [hks]
  have:=keysR_len r
  omega
 rw [<- hks]
 simp only [keysOk,decide_eq_true_eq]
 exact⟨fun i hi=>⟨hm _ (List.getElem_mem hi),fun h0=>List.pairwise_iff_getElem.1 ha (i-1) i (by omega) hi (by omega)⟩,hl2⟩
theorem setR_run {s:Sr} {i:Nat} {r:List Ent} (hk:0<=s.keep/\s.keep<=5) (hr:runOk r=true) (hi:i<=2):setR s i r=if r.length<=sizeL i then some { s with lev:=s.lev.set i r,sv:=s.sv.set i (sieveR (keysR r) s.keep) } else none:=by
 by_cases hl:r.length<=sizeL i
 ·have h24:r.length<=24:=by unfold sizeL at hl; omega
  unfold setR sieveO
  rw [if_pos ⟨run_keys hr h24,hk⟩]
 ·rw [if_neg hl]
  cases h:setR s i r with
  | none=>rfl
  | some x =>
   obtain⟨v,_,_,h3⟩:=setR_some h
   exact absurd h3 hl
end Go.Proofs.YtepeokaplbbpoaaGreat.B

namespace Go.Proofs.YtepeokaplbbpoaaGreat.B
open Go.RowKit Go.Proofs
set_option linter.unusedVariables false
set_option linter.unusedSimpArgs false
variable {E:Env}
theorem ltSieve_ok (r r':AV) (s s':Sv) (H:Hp) (hr:Strs H r s.r) (hr':Strs H r' s'.r) (hx:s.r.length<4611686018427387904) :
  AC Tryz.prog E 52 [svAV s r,svAV s' r'] H (fun v H'=>v=.bool (decide (s=s'))/\H'=H):=by
 refine AC_byp (tC_le tabJ_ok) h_laws_ltSieve (by simp) ?_
 have ed:decide (s=s')=(decide (s.l=s'.l)&&(decide (s.m=s'.m)&&(decide (s.f=s'.f)&&(decide (s.k=s'.k)&&decide (s.r=s'.r))))):=by
  obtain⟨x1,x2,x3,x4,x5⟩:=s
  obtain⟨y1,y2,y3,y4,y5⟩:=s'
  simp only [Sv.mk.injEq,Bool.decide_and]
  cases decide (x1=y1)<;>cases decide (x2=y2)<;>cases decide (x3=y3)<;>cases decide (x4=y4)<;>cases decide (x5=y5)<;>rfl
 rw [ed]
 obtain⟨H1,hH1⟩:∃ H1:Hp,H1=H++[some ⟨[[.str s.l,.str s.m,.str s.f,r,.int .i64 s.k]],5,76,false⟩,some ⟨[[.str s'.l,.str s'.m,.str s'.f,r',.int .i64 s'.k]],5,76,false⟩]:=⟨_,rfl⟩
 have hle1:HLe H H1:=by rw [hH1]; exact HLe.self _ _
 have b0:H1.at H.length=some ⟨[[.str s.l,.str s.m,.str s.f,r,.int .i64 s.k]],5,76,false⟩:=by rw [hH1]; simp
 have b1:H1.at (H.length+1)=some ⟨[[.str s'.l,.str s'.m,.str s'.f,r',.int .i64 s'.k]],5,76,false⟩:=by rw [hH1]; simp
 simp [c_laws_ltSieve,svAV,Rows.one hr,Rows.one hr',<- hH1,b0,b1]
 by_cases e1:s.l=s'.l
 ·by_cases e2:s.m=s'.m
  ·by_cases e3:s.f=s'.f
   ·by_cases e4:s.k=s'.k
    ·simp [e1,e2,e3,e4,b0,b1]
     refine cg_use (ltSames_ok r r' s.r s'.r H1 (hr.le hle1) (hr'.le hle1) hx) ?_
     simp [hle1]
    ·simp [e1,e2,e3,e4,b0,b1,hle1]
   ·simp [e1,e2,e3,b0,b1,hle1]
  ·simp [e1,e2,b0,b1,hle1]
 ·simp [e1,hle1]
theorem pre_add {α:Type} {xs ys:List α} {i:Nat} (h:∀ j,j<i->xs[j]?=ys[j]?) (hx:i<xs.length) (hy:i<ys.length) (he:xs[i]=ys[i]):∀ j,j<i+1->xs[j]?=ys[j]?:=by
 intro j hj
 rcases Nat.lt_or_ge j i with h2 | h2
 ·exact h j h2
 ·have:j=i:=by omega
  subst this
  rw [List.getElem?_eq_getElem hx,List.getElem?_eq_getElem hy,he]
theorem pre_all {α:Type} {xs ys:List α} {i:Nat} (h:∀ j,j<i->xs[j]?=ys[j]?) (hx:xs.length<=i) (hl:xs.length=ys.length):xs=ys:=by
 apply List.ext_getElem?
 intro j
 rcases Nat.lt_or_ge j i with h2 | h2
 ·exact h j h2
 ·rw [List.getElem?_eq_none (by omega),List.getElem?_eq_none (by omega)]
set_option maxHeartbeats 1600000 in
theorem ltStore_ok (v v':AV) (s s':Sr) (H:Hp) (hs:St H v s) (hs':St H v' s') (hb:StB s) (hb':StB s') :
  AC Tryz.prog E 18 [v,v'] H (fun u H'=>u=.bool (decide (s=s'))/\H'=H):=by
 obtain⟨a,b,c,d,lr,sr,rfl,f1,f2,f3,f4,f5,f6⟩:=hs
 obtain⟨a',b',c',d',lr',sr',rfl,g1,g2,g3,g4,g5,g6⟩:=hs'
 refine AC_byp (tC_le tabJ_ok) h_laws_ltStore (by simp) ?_
 obtain⟨H1,hH1⟩:∃ H1:Hp,H1=H++[some ⟨[[a,b,c,.int .i64 s.keep,.int .i64 s.time,d]],6,28,false⟩,some ⟨[[a',b',c',.int .i64 s'.keep,.int .i64 s'.time,d']],6,28,false⟩]:=⟨_,rfl⟩
 have hle1:HLe H H1:=by rw [hH1]; exact HLe.self _ _
 have b0:H1.at H.length=some ⟨[[a,b,c,.int .i64 s.keep,.int .i64 s.time,d]],6,28,false⟩:=by rw [hH1]; simp
 have b1:H1.at (H.length+1)=some ⟨[[a',b',c',.int .i64 s'.keep,.int .i64 s'.time,d']],6,28,false⟩:=by rw [hH1]; simp
 have ll:=f3.length
 have ll':=g3.length
 have ls:=f5.length
 have ls':=g5.length
 have k1:=f2.len
 have k2:=g2.len
 have k3:=f4.len
 have k4:=g4.len
 rw [ll] at k1
 rw [ll'] at k2
 rw [ls] at k3
 rw [ls'] at k4
 have hB:=hb.2.2.1
 have hB':=hb'.2.2.1
 have hC:=hb.2.2.2.1
 have no:∀ {p:Prop},(s=s'->p)->¬p->decide (s=s')=false:=fun h hp=>decide_eq_false (fun e=>hp (h e))
 simp [c_laws_ltStore,stAV,Rows.one f1,f2.one,f4.one,Rows.one f6,Rows.one g1,g2.one,g4.one,Rows.one g6,<- hH1,b0,b1]
 refine cg_use (ltRuns_ok a a' s.top s'.top H1 (f1.le hle1) (g1.le hle1) (by have:=hb.1.1; omega)) ?_
 by_cases e1:s.top=s'.top
 ·simp [e1,b0,b1,k1,k2,f2.slc,g2.slc]
  by_cases e2:s.lev.length=s'.lev.length
  ·simp [e2,b0,b1,k3,k4,f4.slc,g4.slc]
   by_cases e3:s.sv.length=s'.sv.length
   ·simp [e3,b0,b1]
    by_cases e4:s.keep=s'.keep
    ·simp [e4,b0,b1]
     by_cases e5:s.time=s'.time
     ·simp [e5,b0,b1]
      refine cg_use (ltInts_ok d d' s.tms s'.tms H1 (f6.le hle1) (g6.le hle1) (by have:=hb.2.2.2.2.1; omega)) ?_
      by_cases e6:s.tms=s'.tms
      ·simp [e6]
       refine W_for (fun m t H'=>∃ i:Nat,i+m=s.lev.length/\t 2=.pt H.length 0 0/\t 3=.pt (H.length+1) 0 0/\t 5=.int .i64 i/\H'=H1/\(∀ j,j<i->s.lev[j]?=s'.lev[j]?)) s.lev.length ?_ (tC_mono AC_mono) ?_
       ·exact⟨0,by simp⟩
       rintro m t H' ⟨i,him,t2,t3,t5,rfl,hI⟩
       simp [t2,t3,t5,b0,b1,k1,k2,f2.slc,g2.slc]
       refine c_split (fun hq=>?_) (fun hq=>?_)<;>simp at hq
       ·have hw:=wrapN (i:=i) (by omega)
        have hil:i<s.lev.length:=by omega
        have hil':i<s'.lev.length:=by omega
        obtain⟨o1,i1,ob1,rfl,x1,x2,x3⟩:=f2.get (j:=i) (by omega)
        obtain⟨u,hu,hue⟩:=f3.get i (by omega) hil
        obtain⟨o2,i2,ob2,rfl,y1,y2,y3⟩:=g2.get (j:=i) (by omega)
        obtain⟨u',hu',hue'⟩:=g3.get i (by omega) hil'
        rw [hu] at x3
        rw [hu'] at y3
        have x1':=hle1.2 _ _ x1
        have y1':=hle1.2 _ _ y1
        have q1:i<lr.length:=by omega
        have q2:i<lr'.length:=by omega
        simp [t2,t3,t5,b0,b1,x1',x2,x3,y1',y2,y3,q1,q2]
        refine cg_use (ltRuns_ok u u' s.lev[i] s'.lev[i] H' (hue.le hle1) (hue'.le hle1) (by have:=(hb.2.1 _ (List.getElem_mem hil)).1; omega)) ?_
        by_cases ez:s.lev[i]=s'.lev[i]
        ·simp [ez,t2,t3,t5,hw]
         exact⟨m-1,by omega,i+1,by omega,by omega,pre_add hI hil hil' ez⟩
        ·have hn:=no (p:=s.lev[i]=s'.lev[i]) (fun h=>by simp [h]) ez
         simp [ez,hn,hle1]
       have elev:s.lev=s'.lev:=pre_all hI (by omega) e2
       simp
       refine W_for (fun m t H2=>∃ i:Nat,i+m=s.sv.length/\t 2=.pt H.length 0 0/\t 3=.pt (H.length+1) 0 0/\t 6=.int .i64 i/\H2=H'/\(∀ j,j<i->s.sv[j]?=s'.sv[j]?)) s.sv.length ?_ (tC_mono AC_mono) ?_
       ·exact⟨0,by simp [t2,t3]⟩
       clear t2 t3 t5 him hq hI
       rintro m t H2 ⟨i,him,t2,t3,t6,rfl,hI⟩
       simp [t2,t3,t6,b0,b1,k3,k4,f4.slc,g4.slc]
       refine c_split (fun hq=>?_) (fun hq=>?_)<;>simp at hq
       ·have hw:=wrapN (i:=i) (by omega)
        have hil:i<s.sv.length:=by omega
        have hil':i<s'.sv.length:=by omega
        obtain⟨o1,i1,ob1,rfl,x1,x2,x3⟩:=f4.get (j:=i) (by omega)
        obtain⟨u,hu,hue,_⟩:=f5.get i (by omega) hil
        obtain⟨o2,i2,ob2,rfl,y1,y2,y3⟩:=g4.get (j:=i) (by omega)
        obtain⟨u',hu',hue',_⟩:=g5.get i (by omega) hil'
        rw [hu] at x3
        rw [hu'] at y3
        have x1':=hle1.2 _ _ x1
        have y1':=hle1.2 _ _ y1
        have q1:i<sr.length:=by omega
        have q2:i<sr'.length:=by omega
        simp [t2,t3,t6,b0,b1,x1',x2,x3,y1',y2,y3,q1,q2]
        have hsk:=ltSieve_ok (E:=E) u u' s.sv[i] s'.sv[i] H2 (hue.le hle1) (hue'.le hle1) (by have:=hb.2.2.2.2.2.1 _ (List.getElem_mem hil); omega)
        simp only [svAV] at hsk
        refine cg_use hsk ?_
        by_cases ez:s.sv[i]=s'.sv[i]
        ·simp [ez,t2,t3,t6,hw]
         exact⟨m-1,by omega,i+1,by omega,by omega,pre_add hI hil hil' ez⟩
        ·have hn:=no (p:=s.sv[i]=s'.sv[i]) (fun h=>by simp [h]) ez
         simp [ez,hn,hle1]
       have esv:s.sv=s'.sv:=pre_all hI (by omega) e3
       have es:s=s':=by
        obtain⟨z1,z2,z3,z4,z5,z6⟩:=s
        obtain⟨w1,w2,w3,w4,w5,w6⟩:=s'
        simp only at e1 elev esv e4 e5 e6
        rw [e1,elev,esv,e4,e5,e6]
       simp [es,hle1]
      ·simp [e6,no (fun h=>by rw [h]) e6,hle1]
     ·simp [e5,no (fun h=>by rw [h]) e5,hle1]
    ·simp [e4,no (fun h=>by rw [h]) e4,hle1]
   ·have e3I:¬(s.sv.length:Int)=(s'.sv.length:Int):=by omega
    simp [e3,e3I,no (fun h=>by rw [h]) e3,hle1]
  ·have e2I:¬(s.lev.length:Int)=(s'.lev.length:Int):=by omega
   simp [e2,e2I,no (fun h=>by rw [h]) e2,hle1]
 ·simp [e1,no (fun h=>by rw [h]) e1,hle1]
end Go.Proofs.YtepeokaplbbpoaaGreat.B

namespace Go.Proofs.YtepeokaplbbpoaaGreat.B
open Go.RowKit
set_option linter.unusedVariables false
set_option linter.unusedSimpArgs false
end Go.Proofs.YtepeokaplbbpoaaGreat.B

namespace Go.Proofs.YtepeokaplbbpoaaGreat.B
open Go.RowKit Go.Proofs
set_option linter.unusedVariables false
set_option linter.unusedSimpArgs false
variable {E:Env}
theorem St.frE {S:Nat->Prop} {e:Nat} {H H':Hp} {v:AV} {s:Sr} (h:St H v s) (hf:Fr S H H') (he:e≠1/\e≠4/\e≠5) (hS:∀ y ob,S y->H.at y=some ob->ob.esz=e):St H' v s:=by
 obtain⟨a,b,c,d,lr,sr,e0,h1,h2,h3,h4,h5,h6⟩:=h
 have n:∀ {k:Nat},e≠k->∀ y ob,S y->H.at y=some ob->ob.esz≠k:=fun hk y ob hy ho=>by rw [hS y ob hy ho]; exact hk
 exact⟨a,b,c,d,lr,sr,e0,Rows.frz h1 hf (n he.2.1),Rows.frz h2 hf (n he.1),All2.mono (fun _ _ ⟨u,k1,k2⟩=>⟨u,k1,Rows.frz k2 hf (n he.2.1)⟩) h3,Rows.frz h4 hf (n he.2.2),All2.mono (fun _ _ ⟨u,k1,k2,k3⟩=>⟨u,k1,Rows.frz k2 hf (n he.1),k3⟩) h5,Rows.frz h6 hf (n he.1)⟩
end Go.Proofs.YtepeokaplbbpoaaGreat.B

namespace Go.Proofs.YtepeokaplbbpoaaGreat.B
open Go.RowKit Go.Proofs
set_option linter.unusedVariables false
set_option linter.unusedSimpArgs false
variable {E:Env}
end Go.Proofs.YtepeokaplbbpoaaGreat.B

namespace Go.Proofs.YtepeokaplbbpoaaGreat.B
open Go.RowKit Go.Proofs
set_option linter.unusedVariables false
set_option linter.unusedSimpArgs false
variable {E:Env}
theorem Rd.e2 {K:Hp} {r M:Nat} (hr:Rd K r M):∀ x ob,x=r->K.at x=some ob->ob.esz=2:=by
 intro x ob hx ho
 obtain⟨b,bs,p,h1,_⟩:=hr
 rw [hx,h1] at ho
 cases ho
 rfl
theorem keysR_size {r:List Ent} {B:Nat} (h:∀ e∈r,e.key.size<=B):∀ k∈keysR r,k.size<=B:=by
 intro k hk
 obtain⟨e,he,rfl⟩:=keys1_mem none r k hk
 exact h e he
set_option maxHeartbeats 1600000 in
theorem l71Of_ok (o N:Nat) (v:AV) (s:Sr) (H:Hp) (hr:Rd H o N) (hN:N<34359738368) (hs:St H v s) (hp:Spl s) :
  AC Tryz.prog E 77 [.pt o 0 0,v] H (fun u H'=>∃ k,u=.str k/\k.size<=5/\Dr o H H'/\Rd H' o (N+7)):=by
 obtain⟨a,b,c,d,lr,sr,rfl,f1,f2,f3,f4,f5,f6⟩:=hs
 refine AC_by fol (tC_le tab2_ok) h_spec_l71Of ?_
 obtain⟨H1,hH1⟩:∃ H1:Hp,H1=H++[some ⟨[[a,b,c,.int .i64 s.keep,.int .i64 s.time,d]],6,28,false⟩]:=⟨_,rfl⟩
 have hle1:HLe H H1:=by rw [hH1]; exact HLe.self _ _
 have b0:H1.at H.length=some ⟨[[a,b,c,.int .i64 s.keep,.int .i64 s.time,d]],6,28,false⟩:=by rw [hH1]; simp
 have ll:=f3.length
 have l1:=f2.len
 rw [ll] at l1
 obtain⟨z1,z2,z3⟩:=hp.sml
 simp [c_spec_l71Of,stAV,Rows.one f1,f2.one,f4.one,Rows.one f6,<- hH1,b0]
 refine cg_ex (l11Keys_ok a s.top H1 (f1.le hle1) (by omega)) ?_
 rintro v0 H2 ⟨hle2,hv0⟩
 simp
 refine W_for (fun m t H'=>∃ (i:Nat) (out:List ByteArray) (w:AV),i+m=s.lev.length/\t 0=.pt o 0 0/\t 3=.pt H.length 0 0/\t 5=w/\t 6=.int .i64 i/\HLe H1 H'/\OwnS H1 H' w out/\out.length<=2000+1000 * i/\∀ k∈out,k.size<=5) s.lev.length ?_ (tC_mono AC_mono) ?_
 ·refine⟨0,keysR s.top,v0,by omega,by simp,by simp,by simp,by simp,hle2,hv0,?_,keysR_size (fun e he=>hp.key e (List.mem_append_left _ he))⟩
  have:=keysR_len s.top
  omega
 rintro m t H' ⟨i,out,w,him,t0,t3,t5,t6,hle,hw,hol,hok⟩
 have c0:=hle.2 _ _ b0
 have hleH:=hle1.trans hle
 simp [t0,t3,t5,t6,c0,l1,f2.slc]
 refine c_split (fun hq=>?_) (fun hq=>?_)<;>simp at hq
 ·have hi:i<s.lev.length:=by omega
  have hw2:=wrapN (i:=i) (by omega)
  obtain⟨o1,i1,ob1,rfl,x1,x2,x3⟩:=f2.get (j:=i) (by omega)
  obtain⟨u,hu,hue⟩:=f3.get i (by omega) hi
  rw [hu] at x3
  have x1':=hleH.2 _ _ x1
  have q1:i<lr.length:=by omega
  have hlen:=z3 _ (List.getElem_mem hi)
  simp [t0,t3,t5,t6,c0,x1',x2,x3,q1]
  refine cg_ex (l11Keys_ok u s.lev[i] H' (hue.le hleH) (by omega)) ?_
  rintro v1 H3 ⟨hle3,hv1⟩
  have hk1:=keysR_len s.lev[i]
  have hw3:=hw.le hle3
  simp [t0,t3,t5,t6]
  refine appG_cat (bytes:=16) hw3 hv1.rows (hle.trans hle3) (by omega) (fun v2 H4 g1 g2 g3 g4=>?_)
  simp [t0,t3,t5,t6,hw2]
  refine⟨m-1,by omega,i+1,by omega,by omega,g1,out++keysR s.lev[i],g2,by rw [List.length_append]; omega,fun k hk=>?_⟩
  rcases List.mem_append.1 hk with h | h
  ·exact hok k h
  ·exact keysR_size (fun e he=>hp.key e (List.mem_append_right _ (List.mem_flatten.2 ⟨_,List.getElem_mem hi,he⟩))) k h
 ·simp [t0,t5]
  refine cg_ex (l71Near_ok o N w out H' (hr.le hleH) hw.rows (by omega) hok (by omega)) ?_
  rintro v1 H3 ⟨k,rfl,hk,hd,hr3⟩
  simp
  exact⟨hk,(hleH.fr (S:=fun x=>x=o)).same hd,hr3⟩
def DrawnK (H H':Hp) (v:AV):Prop:=∃ w s k n,v=.tu [w,.str k,.int .i64 n]/\HLe H H'/\St H' w s/\StB s/\Spl s/\k.size<=5
set_option maxHeartbeats 1600000 in
theorem DrawStorePut_ok (c:AV) (bs:List Int) (H:Hp) (hc:Bytes H c bs) (hn:bs.length<4611686018427387904) :
  AC Tryz.prog E 29 [c] H (fun v H'=>DrawnK H H' v):=by
 refine AC_by fol (tC_le tab2_ok) h_spec_DrawStorePut ?_
 obtain⟨H1,hH1⟩:∃ H1:Hp,H1=H++[some ⟨[[.nils,.nils,.nils,.int .i64 0,.int .i64 0,.nils]],6,28,false⟩]:=⟨_,rfl⟩
 have hle1:HLe H H1:=by rw [hH1]; exact HLe.self _ _
 have b1:H1.at H.length=some ⟨[[.nils,.nils,.nils,.int .i64 0,.int .i64 0,.nils]],6,28,false⟩:=by rw [hH1]; simp
 simp [c_spec_DrawStorePut,<- hH1]
 refine cg_ex (l6Open_ok c bs H1 ⟨hc.1.le hle1,hc.2⟩ hn) ?_
 rintro v H2 ⟨r,rfl,ho,hle2,hr2⟩
 have hol:=hr2.lt
 have lH:H.length<H1.length:=Hp.at_lt b1
 have b2:=hle2.2 _ _ b1
 simp
 refine cg_ex (l71Spoilt_ok r 0 H2 hr2 (by omega)) ?_
 rintro w H3 ⟨s,hs,hsb,hsp,hd3,hr3⟩
 obtain⟨xa,xb,xc,xd,hw,n1,n2,n3,n4,_⟩:=hs.shape
 have hw':=hw
 subst hw'
 have b3:=hd3.2 _ _ (show ¬H.length=r by omega) b2
 obtain⟨H4,hH4⟩:∃ H4:Hp,H4=H3++[some ⟨[[xa,xb,xc,.int .i64 s.keep,.int .i64 s.time,xd]],6,28,false⟩]:=⟨_,rfl⟩
 have hle4:HLe H3 H4:=by rw [hH4]; exact HLe.self _ _
 have c4:H4.at H3.length=some ⟨[[xa,xb,xc,.int .i64 s.keep,.int .i64 s.time,xd]],6,28,false⟩:=by rw [hH4]; simp
 have b4:=hle4.2 _ _ b3
 have hr4:=hr3.le hle4
 have hle14:HLe H H4:=((hle1.trans hle2).fr_le hd3 (fun x hx=>by omega)).trans hle4
 have l34:=Hp.at_lt c4
 have l3:=hd3.len
 have hs4:=hs.le hle4
 simp [n1,n2,n3,n4,<- hH4,c4]
 refine cg_ex (l71Of_ok r _ _ s H4 hr4 (by omega) hs4 hsp) ?_
 rintro v H5 ⟨k,rfl,hk,hd5,hr5⟩
 have b5:=hd5.2 _ _ (show ¬H.length=r by omega) b4
 have c5:=hd5.2 _ _ (show ¬H3.length=r by omega) c4
 have hs5:=hs4.frE hd5 (e:=2) (by simp) hr4.e2
 have hle15:=hle14.fr_le hd5 (fun x hx=>by omega)
 simp
 refine cg_ex (pick_ok r _ 24 H5 hr5 (by omega) (by omega)) ?_
 rintro v H6 ⟨z,rfl,hz,hd6,hr6,hlen6⟩
 have b6:=hd6.2 _ _ (show ¬H.length=r by omega) b5
 have c6:=hd6.2 _ _ (show ¬H3.length=r by omega) c5
 have hs6:=hs5.frE hd6 (e:=2) (by simp) hr5.e2
 have hle16:=hle15.fr_le hd6 (fun x hx=>by omega)
 have hk2:(⟨#[120]⟩:ByteArray).size<=5:=by decide
 simp
 refine c_split (fun hq=>?_) (fun hq=>?_)<;>simp at hq<;>simp [c6]
 all_goals
  refine cg_ex (pick_ok r _ 100 H6 hr6 (by omega) (by omega)) ?_
  rintro v H7 ⟨y,rfl,hy,hd7,hr7,hlen7⟩
  have b7:=hd7.2 _ _ (show ¬H.length=r by omega) b6
  have c7:=hd7.2 _ _ (show ¬H3.length=r by omega) c6
  have hs7:=hs6.frE hd7 (e:=2) (by simp) hr6.e2
  have hle17:=hle16.fr_le hd7 (fun x hx=>by omega)
  simp [c7]
  refine cg_ex (pick_ok r _ 24 H7 hr7 (by omega) (by omega)) ?_
  rintro v H8 ⟨x,rfl,hx,hd8,hr8,hlen8⟩
  have b8:=hd8.2 _ _ (show ¬H.length=r by omega) b7
  have c8:=hd8.2 _ _ (show ¬H3.length=r by omega) c7
  have hs8:=hs7.frE hd8 (e:=2) (by simp) hr7.e2
  have hle18:=hle17.fr_le hd8 (fun x hx=>by omega)
  have u8:=Hp.at_lt b8
  simp [c8,b8,u8,n1,n2,n3,n4,Hp.at_set]
  have F:=Fr.one H8 H.length (some ⟨[[xa,xb,xc,.int .i64 s.keep,.int .i64 s.time,xd]],6,28,false⟩)
  have hS:∀ y ob,y=H.length->H8.at y=some ob->ob.esz=6:=fun y ob hy ho=>by
   rw [hy,b8] at ho
   cases ho
   rfl
  exact⟨_,s,_,_,rfl,hle18.fr_le F (fun x hx=>by omega),hs8.frE F (e:=6) (by simp) hS,hsb,hsp,by first | exact hk | exact hk2⟩
end Go.Proofs.YtepeokaplbbpoaaGreat.B

namespace Go.Proofs.YtepeokaplbbpoaaGreat.B
open Go.RowKit Go.Proofs
set_option linter.unusedVariables false
set_option linter.unusedSimpArgs false
variable {E:Env}
def sNil:Sr:=⟨[],[],[],0,0,[]⟩
theorem sNil_B:StB sNil:=⟨⟨by simp [sNil],by simp [sNil,Fits]⟩,by simp [sNil],by simp [sNil],by simp [sNil],by simp [sNil],by simp [sNil],by simp [sNil,I64],by simp [sNil,I64],by simp [sNil]⟩
theorem RetS.vl {H0 H:Hp} {u:AV} {o:Option Sr} (h:RetS H0 H u o) (hb:∀ x,o=some x->Small x):HLe H0 H/\StB (o.getD sNil)/\∃ a b c d,u=.tu [.ag [a,b,c,.int .i64 (o.getD sNil).keep,.int .i64 (o.getD sNil).time,d],.bool o.isSome]/\one a=true/\one b=true/\one c=true/\one d=true/\St H (.ag [a,b,c,.int .i64 (o.getD sNil).keep,.int .i64 (o.getD sNil).time,d]) (o.getD sNil):=by
 obtain⟨h1,h2⟩:=h
 cases o with
 | none=>exact⟨h1,sNil_B,.nils,.nils,.nils,.nils,h2,rfl,rfl,rfl,rfl,.nils,.nils,.nils,.nils,[],[],rfl,Rows.nil,Rows.nil,trivial,Rows.nil,trivial,Rows.nil⟩
 | some x =>
  obtain⟨w,e,hm⟩:=h2
  obtain⟨a,b,c,d,rfl,n1,n2,n3,n4,_⟩:=hm.st.shape
  exact⟨h1,(hb x rfl).stB,a,b,c,d,e,n1,n2,n3,n4,hm.st⟩
theorem St.box {H K:Hp} {a b c d:AV} {s:Sr} (h:St H (.ag [a,b,c,.int .i64 s.keep,.int .i64 s.time,d]) s) (hK:K=H++[some ⟨[[a,b,c,.int .i64 s.keep,.int .i64 s.time,d]],6,28,false⟩]) :
  HLe H K/\K.at H.length=some ⟨[[a,b,c,.int .i64 s.keep,.int .i64 s.time,d]],6,28,false⟩/\St K (.ag [a,b,c,.int .i64 s.keep,.int .i64 s.time,d]) s:=by
 have hle:HLe H K:=by rw [hK]; exact HLe.self _ _
 exact⟨hle,by rw [hK]; simp,h.le hle⟩
theorem ltStore_same {v v':AV} {s:Sr} {H:Hp} (hs:St H v s) (hs':St H v' s) (hb:StB s):AC Tryz.prog E 18 [v,v'] H (fun u H'=>u=.bool true/\H'=H) :=
 (ltStore_ok v v' s s H hs hs' hb hb).mono (fun u H' h=>⟨by rw [h.1]; simp,h.2⟩)
end Go.Proofs.YtepeokaplbbpoaaGreat.B

namespace Go.Proofs.YtepeokaplbbpoaaGreat.B
open Go.RowKit Go.Proofs
set_option linter.unusedVariables false
set_option linter.unusedSimpArgs false
variable {E:Env}
theorem St.ints {H:Hp} {a b c d:AV} {k t:Int} {s:Sr} (h:St H (.ag [a,b,c,.int .i64 k,.int .i64 t,d]) s):Ints H d s.tms:=by
 obtain⟨a1,b1,c1,d1,lr,sr,e,_,_,_,_,_,hd⟩:=h
 simp only [stAV,AV.ag.injEq,List.cons.injEq,and_true,true_and] at e
 obtain⟨rfl,rfl,rfl,_,_,rfl⟩:=e
 exact hd
theorem St.put6 {H K:Hp} {o:Nat} {a b c d:AV} {s:Sr} {R:List (List AV)} (hle:HLe H K) (ho:H.length<=o) (hb:K.at o=some ⟨R,6,28,false⟩) (hs:St K (.ag [a,b,c,.int .i64 s.keep,.int .i64 s.time,d]) s) (X:Option Ob) :
  HLe H (List.set K o X)/\St (List.set K o X) (.ag [a,b,c,.int .i64 s.keep,.int .i64 s.time,d]) s:=by
 have F:=Fr.one K o X
 refine⟨hle.fr_le F (fun x hx=>by omega),hs.frE F (e:=6) (by simp) (fun y ob hy hob=>?_)⟩
 rw [hy,hb] at hob
 cases hob
 rfl
def DrawnS (H H':Hp) (v:AV):Prop:=∃ s,HLe H H'/\St H' v s/\StB s/\Spl s
def DrawnT (H H':Hp) (v:AV):Prop:=∃ w s n,v=.tu [w,.int .i64 n]/\HLe H H'/\St H' w s/\StB s/\Spl s
end Go.Proofs.YtepeokaplbbpoaaGreat.B

namespace Go.Proofs.YtepeokaplbbpoaaGreat.B
open Go.RowKit Go.Proofs
set_option linter.unusedVariables false
set_option linter.unusedSimpArgs false
variable {E:Env}
end Go.Proofs.YtepeokaplbbpoaaGreat.B

namespace Go.Proofs.YtepeokaplbbpoaaGreat.B
open Go.RowKit Go.Proofs
set_option linter.unusedVariables false
set_option linter.unusedSimpArgs false
variable {E:Env}
theorem Val.tml {s:Sr} (h:Val s):s.tms.length<=3:=by
 obtain⟨a,b,c,u,v,w,hv⟩:=h
 have:=hv.tms
 simp only [timesR,Bool.and_eq_true,decide_eq_true_eq] at this
 exact this.2
end Go.Proofs.YtepeokaplbbpoaaGreat.B

namespace Go.Proofs.YtepeokaplbbpoaaGreat.B
open Go.RowKit Go.Proofs
set_option linter.unusedVariables false
set_option linter.unusedSimpArgs false
theorem joinL_nil:∀ (a:List Ent),joinL [] a=a
 | []=>rfl
 | x :: a=>by
  rw [joinL]
  simp [joinL_nil a]
theorem down_top {s:Sr} (hs:Val s) (ht:s.top=[]):∃ y,letR s=some y:=by
 have ho:=hs.ok
 obtain⟨a,b,c,u,v,w,hv⟩:=hs
 obtain⟨f0,f1,f2⟩:=hv.fine
 unfold letR
 rw [if_pos ho]
 unfold downR
 rw [ht,intoR]
 have hj:joinL [] (({ s with top:=[] }:Sr).lev.getD (1-1) [])=a:=by
  show joinL [] (s.lev.getD 0 [])=a
  rw [hv.lev]
  exact joinL_nil a
 rw [hj]
 have hrun:runOk (trimR a s.tms false)=true:=runOk_sub hv.la.run (trimR_sub a s.tms false)
 have hlen:(trimR a s.tms false).length<=sizeL 0:=Nat.le_trans (trimR_sub a s.tms false).length_le hv.la.len
 have h:=setR_run (s:={ s with top:=[] }) (i:=1-1) hv.keep hrun (by omega)
 rw [if_pos hlen] at h
 show ∃ y,(match setR { s with top:=[] } (1-1) (trimR a s.tms false) with
  | some x=>some x
  | none=>_)=some y
 rw [h]
 exact⟨_,rfl⟩
theorem down_found {s x:Sr} (hs:Val s) (hx:letR s=some x):Found s x:=by
 have hs0:=hs
 obtain⟨a,b,c,u,v,w,hv⟩:=hs0
 unfold letR at hx
 rw [if_pos hs.ok] at hx
 exact (down_V hv hx).2.2.2.2.2.2
theorem Found.next {s x y:Sr} (h1:Found s x) (h2:Found x y) (ht:x.time=s.time) (htm:x.tms=s.tms):Found s y:=fun t h=>(h1 t h).trans (h2 t (by rw [ht,htm]; exact h))
theorem down_twice {s x:Sr} (hs:Val s) (hx:letR s=some x):∃ y,letR x=some y/\Val y/\y.top=[]/\y.time=s.time/\SameAt y s s.time s.time:=by
 obtain⟨h1,h2,h3,h4,h5⟩:=down_past hs hx
 obtain⟨y,hy⟩:=down_top h1 h2
 obtain⟨k1,k2,k3,k4,k5⟩:=down_past h1 hy
 exact⟨y,hy,k1,k2,by rw [k3,h3],found_same hs k1 (by rw [k3,h3]) (by rw [k4,h4]) ((down_found hs hx).next (down_found h1 hy) h3 h4) (.inr rfl)⟩
end Go.Proofs.YtepeokaplbbpoaaGreat.B

namespace Go.Proofs.YtepeokaplbbpoaaGreat.B
open Go.RowKit Go.Proofs
set_option linter.unusedVariables false
set_option linter.unusedSimpArgs false
variable {E:Env}
theorem St.parts {H:Hp} {a b c d:AV} {k t:Int} {s:Sr} (h:St H (.ag [a,b,c,.int .i64 k,.int .i64 t,d]) s):Ents H a s.top/\∃ lr,Rows 1 H b lr/\All2 (LvRow H) lr s.lev:=by
 obtain⟨a1,b1,c1,d1,lr,sr,e,h1,h2,h3,h4,h5,h6⟩:=h
 simp only [stAV,AV.ag.injEq,List.cons.injEq,and_true,true_and] at e
 obtain⟨rfl,rfl,rfl,_,_,rfl⟩:=e
 exact⟨h1,lr,h2,h3⟩
theorem Val.tm {s:Sr} (h:Val s):0<=s.time/\s.time<=999:=by
 obtain⟨a,b,c,u,v,w,hv⟩:=h
 exact hv.time
end Go.Proofs.YtepeokaplbbpoaaGreat.B

namespace Go.Proofs.YtepeokaplbbpoaaGreat.B
open Go.RowKit Go.Proofs
set_option linter.unusedVariables false
set_option linter.unusedSimpArgs false
variable {E:Env}
set_option maxHeartbeats 1600000 in
theorem DrawStoreDown_ok (c:AV) (bs:List Int) (H:Hp) (hc:Bytes H c bs) (hn:bs.length<4611686018427387904) :
  AC Tryz.prog E 15 [c] H (fun v H'=>DrawnS H H' v):=by
 refine AC_by fol (tC_le tab2_ok) h_spec_DrawStoreDown ?_
 obtain⟨H1,hH1⟩:∃ H1:Hp,H1=H++[some ⟨[[.nils,.nils,.nils,.int .i64 0,.int .i64 0,.nils]],6,28,false⟩]:=⟨_,rfl⟩
 have hle1:HLe H H1:=by rw [hH1]; exact HLe.self _ _
 have b1:H1.at H.length=some ⟨[[.nils,.nils,.nils,.int .i64 0,.int .i64 0,.nils]],6,28,false⟩:=by rw [hH1]; simp
 simp [c_spec_DrawStoreDown,<- hH1]
 refine cg_ex (l6Open_ok c bs H1 ⟨hc.1.le hle1,hc.2⟩ hn) ?_
 rintro v H2 ⟨r,rfl,ho,hle2,hr2⟩
 have lH:H.length<H1.length:=Hp.at_lt b1
 have b2:=hle2.2 _ _ b1
 simp
 refine cg_ex (l71Spoilt_ok r 0 H2 hr2 (by omega)) ?_
 rintro w H3 ⟨s,hs,hsb,hsp,hd3,hr3⟩
 obtain⟨xa,xb,xc,xd,rfl,n1,n2,n3,n4,_⟩:=hs.shape
 have b3:=hd3.2 _ _ (show ¬H.length=r by omega) b2
 have u3:=Hp.at_lt b3
 have hle3:HLe H H3:=(hle1.trans hle2).fr_le hd3 (fun x hx=>by omega)
 simp [n1,n2,n3,n4,b3,u3,Hp.at_set]
 obtain⟨z1,z2⟩:=hs.put6 hle3 (Nat.le_refl _) b3 (some ⟨[[xa,xb,xc,.int .i64 s.keep,.int .i64 s.time,xd]],6,28,false⟩)
 exact⟨s,z1,z2,hsb,hsp⟩
def DrawnQ (H H':Hp) (v:AV):Prop:=∃ w s k,v=.tu [w,.str k]/\HLe H H'/\St H' w s/\StB s/\Spl s/\k.size<=5
set_option maxHeartbeats 1600000 in
theorem DrawStoreTake_ok (c:AV) (bs:List Int) (H:Hp) (hc:Bytes H c bs) (hn:bs.length<4611686018427387904) :
  AC Tryz.prog E 26 [c] H (fun v H'=>DrawnQ H H' v):=by
 refine AC_by fol (tC_le tab2_ok) h_spec_DrawStoreTake ?_
 obtain⟨H1,hH1⟩:∃ H1:Hp,H1=H++[some ⟨[[.nils,.nils,.nils,.int .i64 0,.int .i64 0,.nils]],6,28,false⟩]:=⟨_,rfl⟩
 have hle1:HLe H H1:=by rw [hH1]; exact HLe.self _ _
 have b1:H1.at H.length=some ⟨[[.nils,.nils,.nils,.int .i64 0,.int .i64 0,.nils]],6,28,false⟩:=by rw [hH1]; simp
 simp [c_spec_DrawStoreTake,<- hH1]
 refine cg_ex (l6Open_ok c bs H1 ⟨hc.1.le hle1,hc.2⟩ hn) ?_
 rintro v H2 ⟨r,rfl,ho,hle2,hr2⟩
 have hol:=hr2.lt
 have lH:H.length<H1.length:=Hp.at_lt b1
 have b2:=hle2.2 _ _ b1
 simp
 refine cg_ex (l71Spoilt_ok r 0 H2 hr2 (by omega)) ?_
 rintro w H3 ⟨s,hs,hsb,hsp,hd3,hr3⟩
 obtain⟨xa,xb,xc,xd,rfl,n1,n2,n3,n4,_⟩:=hs.shape
 have b3:=hd3.2 _ _ (show ¬H.length=r by omega) b2
 have hle3:HLe H H3:=(hle1.trans hle2).fr_le hd3 (fun x hx=>by omega)
 obtain⟨H4,hH4⟩:∃ H4:Hp,H4=H3++[some ⟨[[xa,xb,xc,.int .i64 s.keep,.int .i64 s.time,xd]],6,28,false⟩]:=⟨_,rfl⟩
 obtain⟨hle4,c4,hs4⟩:=hs.box hH4
 have b4:=hle4.2 _ _ b3
 have hr4:=hr3.le hle4
 have hle14:=hle3.trans hle4
 have l34:=Hp.at_lt c4
 have l3:=hd3.len
 simp [n1,n2,n3,n4,<- hH4]
 refine cg_ex (pick_ok r _ 24 H4 hr4 (by omega) (by omega)) ?_
 rintro v H6 ⟨z,rfl,hz,hd6,hr6,hlen6⟩
 have b6:=hd6.2 _ _ (show ¬H.length=r by omega) b4
 have c6:=hd6.2 _ _ (show ¬H3.length=r by omega) c4
 have hs6:=hs4.frE hd6 (e:=2) (by simp) hr4.e2
 have hle16:=hle14.fr_le hd6 (fun x hx=>by omega)
 have hk2:(⟨#[120]⟩:ByteArray).size<=5:=by decide
 simp
 refine c_split (fun hq=>?_) (fun hq=>?_)<;>simp at hq<;>simp [c6]
 ·have u6:=Hp.at_lt b6
  simp [c6,b6,u6,n1,n2,n3,n4,Hp.at_set]
  obtain⟨z1,z2⟩:=hs6.put6 hle16 (Nat.le_refl _) b6 (some ⟨[[xa,xb,xc,.int .i64 s.keep,.int .i64 s.time,xd]],6,28,false⟩)
  exact⟨_,s,_,rfl,z1,z2,hsb,hsp,hk2⟩
 ·refine cg_ex (l71Of_ok r _ _ s H6 hr6 (by omega) hs6 hsp) ?_
  rintro v H7 ⟨k,rfl,hk,hd7,hr7⟩
  have b7:=hd7.2 _ _ (show ¬H.length=r by omega) b6
  have c7:=hd7.2 _ _ (show ¬H3.length=r by omega) c6
  have hs7:=hs6.frE hd7 (e:=2) (by simp) hr6.e2
  have hle17:=hle16.fr_le hd7 (fun x hx=>by omega)
  have u7:=Hp.at_lt b7
  simp [c7,b7,u7,n1,n2,n3,n4,Hp.at_set]
  obtain⟨z1,z2⟩:=hs7.put6 hle17 (Nat.le_refl _) b7 (some ⟨[[xa,xb,xc,.int .i64 s.keep,.int .i64 s.time,xd]],6,28,false⟩)
  exact⟨_,s,_,rfl,z1,z2,hsb,hsp,hk⟩
set_option maxHeartbeats 1600000 in
theorem DrawStoreJoin_ok (c:AV) (bs:List Int) (H:Hp) (hc:Bytes H c bs) (hn:bs.length<4611686018427387904) :
  AC Tryz.prog E 21 [c] H (fun v H'=>DrawnT H H' v):=by
 refine AC_by fol (tC_le tab2_ok) h_spec_DrawStoreJoin ?_
 obtain⟨H1,hH1⟩:∃ H1:Hp,H1=H++[some ⟨[[.nils,.nils,.nils,.int .i64 0,.int .i64 0,.nils]],6,28,false⟩]:=⟨_,rfl⟩
 have hle1:HLe H H1:=by rw [hH1]; exact HLe.self _ _
 have b1:H1.at H.length=some ⟨[[.nils,.nils,.nils,.int .i64 0,.int .i64 0,.nils]],6,28,false⟩:=by rw [hH1]; simp
 simp [c_spec_DrawStoreJoin,<- hH1]
 refine cg_ex (l6Open_ok c bs H1 ⟨hc.1.le hle1,hc.2⟩ hn) ?_
 rintro v H2 ⟨r,rfl,ho,hle2,hr2⟩
 have hol:=hr2.lt
 have lH:H.length<H1.length:=Hp.at_lt b1
 have b2:=hle2.2 _ _ b1
 simp
 refine cg_ex (l71Spoilt_ok r 0 H2 hr2 (by omega)) ?_
 rintro w H3 ⟨s,hs,hsb,hsp,hd3,hr3⟩
 obtain⟨xa,xb,xc,xd,rfl,n1,n2,n3,n4,_⟩:=hs.shape
 have b3:=hd3.2 _ _ (show ¬H.length=r by omega) b2
 have hle3:HLe H H3:=(hle1.trans hle2).fr_le hd3 (fun x hx=>by omega)
 have l3:=hd3.len
 simp [n1,n2,n3,n4]
 refine cg_ex (pick_ok r _ 2 H3 hr3 (by omega) (by omega)) ?_
 rintro v H4 ⟨i,rfl,hi,hd4,hr4,hlen4⟩
 have b4:=hd4.2 _ _ (show ¬H.length=r by omega) b3
 have hs4:=hs.frE hd4 (e:=2) (by simp) hr3.e2
 have hle4:=hle3.fr_le hd4 (fun x hx=>by omega)
 simp
 refine cg_ex (pick_ok r _ 10 H4 hr4 (by omega) (by omega)) ?_
 rintro v H5 ⟨j,rfl,hj,hd5,hr5,hlen5⟩
 have b5:=hd5.2 _ _ (show ¬H.length=r by omega) b4
 have hs5:=hs4.frE hd5 (e:=2) (by simp) hr4.e2
 have hle5:=hle4.fr_le hd5 (fun x hx=>by omega)
 simp
 refine cg_ex (pick_ok r _ 10 H5 hr5 (by omega) (by omega)) ?_
 rintro v H6 ⟨k,rfl,hk,hd6,hr6,hlen6⟩
 have b6:=hd6.2 _ _ (show ¬H.length=r by omega) b5
 have hs6:=hs5.frE hd6 (e:=2) (by simp) hr5.e2
 have hle6:=hle5.fr_le hd6 (fun x hx=>by omega)
 have u6:=Hp.at_lt b6
 simp [b6,u6,n1,n2,n3,n4,Hp.at_set]
 obtain⟨z1,z2⟩:=hs6.put6 hle6 (Nat.le_refl _) b6 (some ⟨[[xa,xb,xc,.int .i64 s.keep,.int .i64 s.time,xd]],6,28,false⟩)
 exact⟨_,s,_,rfl,z1,z2,hsb,hsp⟩
end Go.Proofs.YtepeokaplbbpoaaGreat.B

namespace Go.Proofs.YtepeokaplbbpoaaGreat.B
open Go.RowKit Go.Proofs
set_option linter.unusedVariables false
set_option linter.unusedSimpArgs false
variable {E:Env}
set_option maxHeartbeats 3200000 in
theorem lawStorePut_ok (c:AV) (bs:List Int) (H:Hp) (hc:Bytes H c bs) (hn:bs.length<4611686018427387904) :
  AC Tryz.prog E 10 [c] H (fun v H'=>v=.bool true):=by
 refine AC_by fol (tC_le tabJ_ok) h_laws_FnStorePut ?_
 have l1:=hc.len
 simp [c_laws_FnStorePut,l1,hc.1.slc]
 by_cases q1:1048576<bs.length
 ·have q1I:(1048576:Int)<bs.length:=by omega
  simp [q1,q1I]
 have q1I:¬(1048576:Int)<bs.length:=by omega
 simp [q1,q1I]
 refine cg_ex (DrawStorePut_ok c bs H hc hn) ?_
 rintro v H1 ⟨w,s,k,n,rfl,hle1,hs,hsb,hsp,hk⟩
 obtain⟨xa,xb,xc,xd,rfl,n1,n2,n3,n4,_⟩:=hs.shape
 obtain⟨H2,hH2⟩:∃ H2:Hp,H2=H1++[some ⟨[[xa,xb,xc,.int .i64 s.keep,.int .i64 s.time,xd]],6,28,false⟩]:=⟨_,rfl⟩
 obtain⟨hle2,b2,hs2⟩:=St.box hs hH2
 simp [n1,n2,n3,n4,<- hH2,b2]
 have hsm:∀ x,putR s k n=some x->Small x:=fun x hx=>addR_small hx
 refine cg_ex (StorePut_ok _ s k n H2 hs2 hsb (by omega)) ?_
 intro v H4 hret
 obtain⟨hle4,hob,ya,yb,yc,yd,rfl,m1,m2,m3,m4,hy⟩:=hret.vl hsm
 obtain⟨x,hx⟩:∃ x,x=(putR s k n).getD sNil:=⟨_,rfl⟩
 rw [<- hx] at hob hy ⊢
 obtain⟨H5,hH5⟩:∃ H5:Hp,H5=H4++[some ⟨[[ya,yb,yc,.int .i64 x.keep,.int .i64 x.time,yd]],6,28,false⟩]:=⟨_,rfl⟩
 obtain⟨hle5,c5,hy5⟩:=St.box hy hH5
 have b5:=hle5.2 _ _ (hle4.2 _ _ b2)
 have hs5:=hs2.le (hle4.trans hle5)
 simp [m1,m2,m3,m4,<- hH5,b5]
 refine cg_ex (implPut_ok _ s k n H5 hs5 hsb (by omega)) ?_
 intro v H6 hret6
 obtain⟨hle6,_,za,zb,zc,zd,rfl,p1,p2,p3,p4,hz⟩:=hret6.ret.vl hsm
 rw [<- hx] at hz ⊢
 obtain⟨H7,hH7⟩:∃ H7:Hp,H7=H6++[some ⟨[[za,zb,zc,.int .i64 x.keep,.int .i64 x.time,zd]],6,28,false⟩]:=⟨_,rfl⟩
 obtain⟨hle7,d7,hz7⟩:=St.box hz hH7
 have h57:=hle6.trans hle7
 have b7:=h57.2 _ _ b5
 have c7:=h57.2 _ _ c5
 have hy7:=hy5.le h57
 have hs7:=hs5.le h57
 simp [p1,p2,p3,p4,<- hH7,d7,c7]
 refine cg_use (ltStore_same hz7 hy7 hob) ?_
 cases ho:putR s k n with
 | none =>
  simp [d7,c7]
  refine cg_use (ltStore_same hz7 hy7 hob) ?_
  simp
 | some x' =>
  have hxx:x=x':=by rw [hx,ho]; rfl
  rw [<- hxx] at ho
  have hval:=hsp.val (by
   unfold putR addR at ho
   split at ho
   ·rename_i h; simp only [Bool.and_eq_true] at h; exact h.1
   ·cases ho)
  obtain⟨hv,ht,hpast⟩:=add_past (e:=⟨k,n,false,s.time+1⟩) hval rfl ho
  have hgot:gotR x k x.time=(n,true):=add_got (e:=⟨k,n,false,s.time+1⟩) hval rfl ho
  have htm:=hval.tm
  have htl:=hval.tml
  have hw1:IntKind.i64.wrap (s.time+1)=s.time+1:=wrap64 (by omega) (by omega)
  simp [d7]
  refine cg_use (implStoreGet_ok _ x k x.time H7 hz7 hob (by omega)) ?_
  simp [hgot,d7]
  refine cg_use (implStoreOk_ok _ x H7 hz7 hob) ?_
  simp [hv.ok,d7,b7,hw1,ht]
  have hpast2:=ltPast_ok (E:=E) _ _ _ x s s.tms H7 hz7 hs7 hob hsb (fun _=>hv) (fun _=>hval) hs7.ints (by omega) hpast
  rw [ht] at hpast2
  refine cg_ex hpast2 ?_
  rintro v H10 ⟨rfl,hle10⟩
  simp
end Go.Proofs.YtepeokaplbbpoaaGreat.B

namespace Go.Proofs.YtepeokaplbbpoaaGreat.B
open Go.RowKit Go.Proofs
set_option linter.unusedVariables false
set_option linter.unusedSimpArgs false
variable {E:Env}
set_option maxHeartbeats 3200000 in
theorem lawStoreTake_ok (c:AV) (bs:List Int) (H:Hp) (hc:Bytes H c bs) (hn:bs.length<4611686018427387904) :
  AC Tryz.prog E 9 [c] H (fun v H'=>v=.bool true):=by
 refine AC_by fol (tC_le tabJ_ok) h_laws_FnStoreTake ?_
 have l1:=hc.len
 simp [c_laws_FnStoreTake,l1,hc.1.slc]
 by_cases q1:1048576<bs.length
 ·have q1I:(1048576:Int)<bs.length:=by omega
  simp [q1,q1I]
 have q1I:¬(1048576:Int)<bs.length:=by omega
 simp [q1,q1I]
 refine cg_ex (DrawStoreTake_ok c bs H hc hn) ?_
 rintro v H1 ⟨w,s,k,rfl,hle1,hs,hsb,hsp,hk⟩
 obtain⟨xa,xb,xc,xd,rfl,n1,n2,n3,n4,_⟩:=hs.shape
 obtain⟨H2,hH2⟩:∃ H2:Hp,H2=H1++[some ⟨[[xa,xb,xc,.int .i64 s.keep,.int .i64 s.time,xd]],6,28,false⟩]:=⟨_,rfl⟩
 obtain⟨hle2,b2,hs2⟩:=St.box hs hH2
 simp [n1,n2,n3,n4,<- hH2,b2]
 have hsm:∀ x,takeR s k=some x->Small x:=fun x hx=>addR_small hx
 refine cg_ex (StoreTake_ok _ s k H2 hs2 hsb (by omega)) ?_
 intro v H4 hret
 obtain⟨hle4,hob,ya,yb,yc,yd,rfl,m1,m2,m3,m4,hy⟩:=hret.vl hsm
 obtain⟨x,hx⟩:∃ x,x=(takeR s k).getD sNil:=⟨_,rfl⟩
 rw [<- hx] at hob hy ⊢
 obtain⟨H5,hH5⟩:∃ H5:Hp,H5=H4++[some ⟨[[ya,yb,yc,.int .i64 x.keep,.int .i64 x.time,yd]],6,28,false⟩]:=⟨_,rfl⟩
 obtain⟨hle5,c5,hy5⟩:=St.box hy hH5
 have b5:=hle5.2 _ _ (hle4.2 _ _ b2)
 have hs5:=hs2.le (hle4.trans hle5)
 simp [m1,m2,m3,m4,<- hH5,b5]
 refine cg_ex (implTake_ok _ s k H5 hs5 hsb (by omega)) ?_
 intro v H6 hret6
 obtain⟨hle6,_,za,zb,zc,zd,rfl,p1,p2,p3,p4,hz⟩:=hret6.ret.vl hsm
 rw [<- hx] at hz ⊢
 obtain⟨H7,hH7⟩:∃ H7:Hp,H7=H6++[some ⟨[[za,zb,zc,.int .i64 x.keep,.int .i64 x.time,zd]],6,28,false⟩]:=⟨_,rfl⟩
 obtain⟨hle7,d7,hz7⟩:=St.box hz hH7
 have h57:=hle6.trans hle7
 have b7:=h57.2 _ _ b5
 have c7:=h57.2 _ _ c5
 have hy7:=hy5.le h57
 have hs7:=hs5.le h57
 simp [p1,p2,p3,p4,<- hH7,d7,c7]
 refine cg_use (ltStore_same hz7 hy7 hob) ?_
 cases ho:takeR s k with
 | none =>
  simp [d7,c7]
  refine cg_use (ltStore_same hz7 hy7 hob) ?_
  simp
 | some x' =>
  have hxx:x=x':=by rw [hx,ho]; rfl
  rw [<- hxx] at ho
  have hval:=hsp.val (by
   unfold takeR addR at ho
   split at ho
   ·rename_i h; simp only [Bool.and_eq_true] at h; exact h.1
   ·cases ho)
  obtain⟨hv,ht,hpast⟩:=add_past (e:=⟨k,0,true,s.time+1⟩) hval rfl ho
  have hgot:gotR x k x.time=(0,false):=add_got (e:=⟨k,0,true,s.time+1⟩) hval rfl ho
  have htm:=hval.tm
  have htl:=hval.tml
  have hw1:IntKind.i64.wrap (s.time+1)=s.time+1:=wrap64 (by omega) (by omega)
  simp [d7]
  refine cg_use (implStoreGet_ok _ x k x.time H7 hz7 hob (by omega)) ?_
  simp [hgot,d7]
  refine cg_use (implStoreOk_ok _ x H7 hz7 hob) ?_
  simp [hv.ok,d7,b7,hw1,ht]
  have hpast2:=ltPast_ok (E:=E) _ _ _ x s s.tms H7 hz7 hs7 hob hsb (fun _=>hv) (fun _=>hval) hs7.ints (by omega) hpast
  rw [ht] at hpast2
  refine cg_ex hpast2 ?_
  rintro v H10 ⟨rfl,hle10⟩
  simp
end Go.Proofs.YtepeokaplbbpoaaGreat.B

namespace Go.Proofs.YtepeokaplbbpoaaGreat.B
open Go.RowKit Go.Proofs
set_option linter.unusedVariables false
set_option linter.unusedSimpArgs false
variable {E:Env}
set_option maxHeartbeats 3200000 in
theorem lawStoreDown_ok (c:AV) (bs:List Int) (H:Hp) (hc:Bytes H c bs) (hn:bs.length<4611686018427387904) :
  AC Tryz.prog E 5 [c] H (fun v H'=>v=.bool true):=by
 refine AC_by fol (tC_le tabJ_ok) h_laws_FnStoreDown ?_
 have l1:=hc.len
 simp [c_laws_FnStoreDown,l1,hc.1.slc]
 by_cases q1:1048576<bs.length
 ·have q1I:(1048576:Int)<bs.length:=by omega
  simp [q1,q1I]
 have q1I:¬(1048576:Int)<bs.length:=by omega
 simp [q1,q1I]
 refine cg_ex (DrawStoreDown_ok c bs H hc hn) ?_
 rintro v H1 ⟨s,hle1,hs,hsb,hsp⟩
 obtain⟨xa,xb,xc,xd,rfl,n1,n2,n3,n4,_⟩:=hs.shape
 obtain⟨H2,hH2⟩:∃ H2:Hp,H2=H1++[some ⟨[[xa,xb,xc,.int .i64 s.keep,.int .i64 s.time,xd]],6,28,false⟩]:=⟨_,rfl⟩
 obtain⟨hle2,b2,hs2⟩:=St.box hs hH2
 simp [n1,n2,n3,n4,<- hH2,b2]
 have hsm:∀ x,letR s=some x->Small x:=fun x hx=>let_small hx
 refine cg_ex (StoreDown_ok _ s H2 hs2 hsb) ?_
 intro v H4 hret
 obtain⟨hle4,hob,ya,yb,yc,yd,rfl,m1,m2,m3,m4,hy⟩:=hret.vl hsm
 obtain⟨x,hx⟩:∃ x,x=(letR s).getD sNil:=⟨_,rfl⟩
 rw [<- hx] at hob hy ⊢
 obtain⟨H5,hH5⟩:∃ H5:Hp,H5=H4++[some ⟨[[ya,yb,yc,.int .i64 x.keep,.int .i64 x.time,yd]],6,28,false⟩]:=⟨_,rfl⟩
 obtain⟨hle5,c5,hy5⟩:=St.box hy hH5
 have b5:=hle5.2 _ _ (hle4.2 _ _ b2)
 have hs5:=hs2.le (hle4.trans hle5)
 simp [m1,m2,m3,m4,<- hH5,b5]
 refine cg_ex (implDown_ok _ s H5 hs5 hsb) ?_
 intro v H6 hret6
 obtain⟨hle6,_,za,zb,zc,zd,rfl,p1,p2,p3,p4,hz⟩:=hret6.ret.vl hsm
 rw [<- hx] at hz ⊢
 obtain⟨H7,hH7⟩:∃ H7:Hp,H7=H6++[some ⟨[[za,zb,zc,.int .i64 x.keep,.int .i64 x.time,zd]],6,28,false⟩]:=⟨_,rfl⟩
 obtain⟨hle7,d7,hz7⟩:=St.box hz hH7
 have h57:=hle6.trans hle7
 have b7:=h57.2 _ _ b5
 have c7:=h57.2 _ _ c5
 have hy7:=hy5.le h57
 have hs7:=hs5.le h57
 simp [p1,p2,p3,p4,<- hH7,d7,c7]
 refine cg_use (ltStore_same hz7 hy7 hob) ?_
 cases ho:letR s with
 | none =>
  simp [d7,c7]
  refine cg_use (ltStore_same hz7 hy7 hob) ?_
  simp
 | some x' =>
  have hxx:x=x':=by rw [hx,ho]; rfl
  rw [<- hxx] at ho
  have hval:=hsp.val (by
   unfold letR at ho
   split at ho
   ·assumption
   ·cases ho)
  obtain⟨hv,htop,ht,htm,hsame⟩:=down_past hval ho
  have htl:=hval.tml
  have ez:=hz7.parts.1
  rw [htop] at ez
  have lz:=ez.len
  simp [d7]
  refine cg_use (implStoreOk_ok _ x H7 hz7 hob) ?_
  simp [hv.ok,d7,b7,lz,ez.slc,ht]
  have hpast2:=ltPast_ok (E:=E) _ _ _ x s s.tms H7 hz7 hs7 hob hsb (fun _=>hv) (fun _=>hval) hs7.ints (by omega) (fun t h=>hsame t (.inl h))
  rw [ht] at hpast2
  refine cg_ex hpast2 ?_
  rintro v H10 ⟨rfl,hle10⟩
  have d10:=hle10.2 _ _ d7
  have b10:=hle10.2 _ _ b7
  rw [ht] at d10 hz7
  obtain⟨G,hG⟩:∃ G:Hp,G=H10++[some ⟨[[.int .i64 s.time]],1,3,false⟩]:=⟨_,rfl⟩
  have hleG:HLe H10 G:=by rw [hG]; exact HLe.self _ _
  have tG:G.at H10.length=some ⟨[[.int .i64 s.time]],1,3,false⟩:=by rw [hG]; simp
  have hyt:Ints G (.sl H10.length 0 1) [s.time]:=Rows.whole tG
  simp [d10,b10,<- hG]
  refine cg_ex (ltPast_ok _ _ _ x s [s.time] G (hz7.le (hle10.trans hleG)) (hs7.le (hle10.trans hleG)) hob hsb (fun _=>hv) (fun _=>hval) hyt (by simp) (fun t ht=>by rw [List.mem_singleton.1 ht]; exact hsame s.time (.inr rfl))) ?_
  rintro v H11 ⟨rfl,hle11⟩
  simp
end Go.Proofs.YtepeokaplbbpoaaGreat.B

namespace Go.Proofs.YtepeokaplbbpoaaGreat.B
open Go.RowKit Go.Proofs
set_option linter.unusedVariables false
set_option linter.unusedSimpArgs false
variable {E:Env}
set_option maxHeartbeats 3200000 in
theorem lawStoreDownTwice_ok (c:AV) (bs:List Int) (H:Hp) (hc:Bytes H c bs) (hn:bs.length<4611686018427387904) :
  AC Tryz.prog E 3 [c] H (fun v H'=>v=.bool true):=by
 refine AC_by fol (tC_le tabJ_ok) h_laws_FnStoreDownTwice ?_
 have l1:=hc.len
 simp [c_laws_FnStoreDownTwice,l1,hc.1.slc]
 by_cases q1:1048576<bs.length
 ·have q1I:(1048576:Int)<bs.length:=by omega
  simp [q1,q1I]
 have q1I:¬(1048576:Int)<bs.length:=by omega
 simp [q1,q1I]
 refine cg_ex (DrawStoreDown_ok c bs H hc hn) ?_
 rintro v H1 ⟨s,hle1,hs,hsb,hsp⟩
 obtain⟨xa,xb,xc,xd,rfl,n1,n2,n3,n4,_⟩:=hs.shape
 obtain⟨H2,hH2⟩:∃ H2:Hp,H2=H1++[some ⟨[[xa,xb,xc,.int .i64 s.keep,.int .i64 s.time,xd]],6,28,false⟩]:=⟨_,rfl⟩
 obtain⟨hle2,b2,hs2⟩:=St.box hs hH2
 simp [n1,n2,n3,n4,<- hH2,b2]
 have hsm:∀ x,letR s=some x->Small x:=fun x hx=>let_small hx
 refine cg_ex (StoreDown_ok _ s H2 hs2 hsb) ?_
 intro v H4 hret
 obtain⟨hle4,hob,ya,yb,yc,yd,rfl,m1,m2,m3,m4,hy⟩:=hret.vl hsm
 obtain⟨x,hx⟩:∃ x,x=(letR s).getD sNil:=⟨_,rfl⟩
 rw [<- hx] at hob hy ⊢
 obtain⟨H5,hH5⟩:∃ H5:Hp,H5=H4++[some ⟨[[ya,yb,yc,.int .i64 x.keep,.int .i64 x.time,yd]],6,28,false⟩]:=⟨_,rfl⟩
 obtain⟨hle5,c5,hy5⟩:=St.box hy hH5
 have b5:=hle5.2 _ _ (hle4.2 _ _ b2)
 have hs5:=hs2.le (hle4.trans hle5)
 simp [m1,m2,m3,m4,<- hH5,b5]
 refine cg_ex (implDown_ok _ s H5 hs5 hsb) ?_
 intro v H6 hret6
 obtain⟨hle6,_,za,zb,zc,zd,rfl,p1,p2,p3,p4,hz⟩:=hret6.ret.vl hsm
 rw [<- hx] at hz ⊢
 obtain⟨H7,hH7⟩:∃ H7:Hp,H7=H6++[some ⟨[[za,zb,zc,.int .i64 x.keep,.int .i64 x.time,zd]],6,28,false⟩]:=⟨_,rfl⟩
 obtain⟨hle7,d7,hz7⟩:=St.box hz hH7
 have h57:=hle6.trans hle7
 have b7:=h57.2 _ _ b5
 have c7:=h57.2 _ _ c5
 have hy7:=hy5.le h57
 have hs7:=hs5.le h57
 simp [p1,p2,p3,p4,<- hH7,d7,c7]
 refine cg_use (ltStore_same hz7 hy7 hob) ?_
 cases ho:letR s with
 | none =>
  simp [d7,c7]
  refine cg_use (ltStore_same hz7 hy7 hob) ?_
  simp
 | some x' =>
  have hxx:x=x':=by rw [hx,ho]; rfl
  rw [<- hxx] at ho
  have hval:=hsp.val (by
   unfold letR at ho
   split at ho
   ·assumption
   ·cases ho)
  obtain⟨y,hy,hv,htop,ht,hsame⟩:=down_twice hval ho
  have hxv:=(down_past hval ho).1
  simp [d7]
  refine cg_ex (implDown_ok _ x H7 hz7 hob) ?_
  intro v H8 hret8
  rw [hy] at hret8
  obtain⟨hle8,hyb,wa,wb,wc,wd,rfl,r1,r2,r3,r4,hw⟩:=hret8.ret.vl (fun q hq=>let_small (s:=x) (by rw [hy]; exact hq))
  simp only [Option.getD_some,Option.isSome_some] at hw hyb ⊢
  obtain⟨H9,hH9⟩:∃ H9:Hp,H9=H8++[some ⟨[[wa,wb,wc,.int .i64 y.keep,.int .i64 y.time,wd]],6,28,false⟩]:=⟨_,rfl⟩
  obtain⟨hle9,e9,hw9⟩:=St.box hw hH9
  have h79:=hle8.trans hle9
  have b9:=h79.2 _ _ b7
  have hs9:=hs7.le h79
  have e0:(⟨#[]⟩:ByteArray).size<4611686018427387904:=by decide
  have e5:(⟨#[100,100,100,100,100]⟩:ByteArray).size<4611686018427387904:=by decide
  simp [r1,r2,r3,r4,<- hH9,e9,b9]
  refine cg_ex (StoreList_ok _ y _ _ y.time H9 hw9 hyb (fun _=>hv) e0 e5) ?_
  rintro u K2 ⟨hle2',out,hu,hL,hl⟩
  have b2':=hle2'.2 _ _ b9
  have e2':=hle2'.2 _ _ e9
  simp [b2',e2']
  refine cg_ex (StoreList_ok _ s _ _ s.time K2 (hs9.le hle2') hsb (fun _=>hval) e0 e5) ?_
  rintro u2 K3 ⟨hle3',out2,hu2,hL2,hl2⟩
  rw [ht] at hL
  have heq:=hsame _ _ _ _ hL hL2
  subst heq
  have e3':=hle3'.2 _ _ e2'
  have ez:=(hw9.le (hle2'.trans hle3')).parts.1
  rw [htop] at ez
  have lz:=ez.len
  simp
  refine cg_use (ltRuns_ok _ _ out out K3 (Rows.le hu.rows hle3') hu2.rows (by omega)) ?_
  simp [e3',lz,ez.slc]
end Go.Proofs.YtepeokaplbbpoaaGreat.B

namespace Go.Proofs.YtepeokaplbbpoaaGreat.B
open Go.RowKit Go.Proofs
set_option linter.unusedVariables false
set_option linter.unusedSimpArgs false
variable {E:Env}
end Go.Proofs.YtepeokaplbbpoaaGreat.B

namespace Go.Proofs.YtepeokaplbbpoaaGreat.B
open Go.RowKit Go.Proofs
set_option linter.unusedVariables false
set_option linter.unusedSimpArgs false
variable {E:Env}
end Go.Proofs.YtepeokaplbbpoaaGreat.B

namespace Go.Proofs.YtepeokaplbbpoaaGreat.B
open Go.RowKit Go.Proofs
set_option linter.unusedVariables false
set_option linter.unusedSimpArgs false
variable {E:Env}
end Go.Proofs.YtepeokaplbbpoaaGreat.B

namespace Go.Proofs.YtepeokaplbbpoaaGreat.B
open Go.RowKit Go.Proofs
set_option linter.unusedVariables false
set_option linter.unusedSimpArgs false
variable {E:Env}
end Go.Proofs.YtepeokaplbbpoaaGreat.B

namespace Go.Proofs.YtepeokaplbbpoaaGreat.B
open Go.RowKit Go.Proofs
set_option linter.unusedVariables false
set_option linter.unusedSimpArgs false
variable {E:Env}
theorem ltRuns_same {v v':AV} {es:List Ent} {H:Hp} (hs:Ents H v es) (hs':Ents H v' es) (hb:es.length<4611686018427387904):AC Tryz.prog E 19 [v,v'] H (fun u H'=>u=.bool true/\H'=H) :=
 (ltRuns_ok v v' es es H hs hs' (by omega)).mono (fun u H' h=>⟨by rw [h.1]; simp,h.2⟩)
end Go.Proofs.YtepeokaplbbpoaaGreat.B

namespace Go.Proofs.YtepeokaplbbpoaaGreat.B
open Go.RowKit Go.Proofs
set_option linter.unusedVariables false
set_option linter.unusedSimpArgs false
variable {E:Env}
set_option maxHeartbeats 3200000 in
theorem lawStoreJoin_ok (c:AV) (bs:List Int) (H:Hp) (hc:Bytes H c bs) (hn:bs.length<4611686018427387904) :
  AC Tryz.prog E 4 [c] H (fun v H'=>v=.bool true):=by
 refine AC_by fol (tC_le tabJ_ok) h_laws_FnStoreJoin ?_
 have l1:=hc.len
 simp [c_laws_FnStoreJoin,l1,hc.1.slc]
 by_cases q1:1048576<bs.length
 ·have q1I:(1048576:Int)<bs.length:=by omega
  simp [q1,q1I]
 have q1I:¬(1048576:Int)<bs.length:=by omega
 simp [q1,q1I]
 refine cg_ex (DrawStoreJoin_ok c bs H hc hn) ?_
 rintro v H1 ⟨w,s,n,rfl,hle1,hs,hsb,hsp⟩
 obtain⟨xa,xb,xc,xd,rfl,n1,n2,n3,n4,_⟩:=hs.shape
 obtain⟨H2,hH2⟩:∃ H2:Hp,H2=H1++[some ⟨[[xa,xb,xc,.int .i64 s.keep,.int .i64 s.time,xd]],6,28,false⟩]:=⟨_,rfl⟩
 obtain⟨hle2,b2,hs2⟩:=St.box hs hH2
 simp [n1,n2,n3,n4,<- hH2,b2]
 have hsm:∀ x,joinR s n=some x->Small x:=fun x hx=>join_small hx
 refine cg_ex (StoreJoin_ok _ s n H2 hs2 hsb) ?_
 intro v H4 hret
 obtain⟨hle4,hob,ya,yb,yc,yd,rfl,m1,m2,m3,m4,hy⟩:=hret.vl hsm
 obtain⟨x,hx⟩:∃ x,x=(joinR s n).getD sNil:=⟨_,rfl⟩
 rw [<- hx] at hob hy ⊢
 obtain⟨H5,hH5⟩:∃ H5:Hp,H5=H4++[some ⟨[[ya,yb,yc,.int .i64 x.keep,.int .i64 x.time,yd]],6,28,false⟩]:=⟨_,rfl⟩
 obtain⟨hle5,c5,hy5⟩:=St.box hy hH5
 have b5:=hle5.2 _ _ (hle4.2 _ _ b2)
 have hs5:=hs2.le (hle4.trans hle5)
 simp [m1,m2,m3,m4,<- hH5,b5]
 refine cg_ex (implJoin_ok _ s n H5 hs5 hsb) ?_
 intro v H6 hret6
 obtain⟨hle6,_,za,zb,zc,zd,rfl,p1,p2,p3,p4,hz⟩:=hret6.ret.vl hsm
 rw [<- hx] at hz ⊢
 obtain⟨H7,hH7⟩:∃ H7:Hp,H7=H6++[some ⟨[[za,zb,zc,.int .i64 x.keep,.int .i64 x.time,zd]],6,28,false⟩]:=⟨_,rfl⟩
 obtain⟨hle7,d7,hz7⟩:=St.box hz hH7
 have h57:=hle6.trans hle7
 have b7:=h57.2 _ _ b5
 have c7:=h57.2 _ _ c5
 have hy7:=hy5.le h57
 have hs7:=hs5.le h57
 simp [p1,p2,p3,p4,<- hH7,d7,c7]
 refine cg_use (ltStore_same hz7 hy7 hob) ?_
 cases ho:joinR s n with
 | none =>
  simp [d7,c7]
  refine cg_use (ltStore_same hz7 hy7 hob) ?_
  simp
 | some x' =>
  have hxx:x=x':=by rw [hx,ho]; rfl
  rw [<- hxx] at ho
  have hval:=hsp.val (by
   unfold joinR at ho
   split at ho
   ·rename_i h; exact h.1
   ·cases ho)
  obtain⟨hv,htop,ht,htm,hsame⟩:=join_past hval ho
  obtain⟨j1,j2,j3⟩:=join_empty hval ho
  have htl:=hval.tml
  obtain⟨ez,lr,hlr,hal⟩:=hz7.parts
  obtain⟨es,_⟩:=hs7.parts
  obtain⟨va,vb,vc,vu,vv,vw,hV⟩:=hv
  have hv:Val x:=⟨va,vb,vc,vu,vv,vw,hV⟩
  have x3:x.lev.length=3:=by rw [hV.lev]; rfl
  obtain⟨i,hi,rfl⟩:∃ i:Nat,i<=1/\n=i:=⟨n.toNat,by omega,by omega⟩
  rw [show ((i:Nat):Int).toNat=i by omega] at j3
  have ll:=hal.length
  obtain⟨o1,i1,ob1,rfl,y1,y2,y3⟩:=hlr.get (j:=i) (by omega)
  obtain⟨y,hy',hye⟩:=hal.get i (by omega) (by omega)
  rw [hy'] at y3
  have hxl:x.lev[i]=[]:=by
   simpa [List.getD_eq_getElem?_getD,show i<x.lev.length by omega] using j3
  rw [hxl] at hye
  have lz:=hye.len
  have q1:i<lr.length:=by omega
  have rl:s.top.length<=4:=by rw [<- htop]; exact hV.top4
  simp [d7]
  refine cg_use (implStoreOk_ok _ x H7 hz7 hob) ?_
  simp [hv.ok,d7,b7,y1,y2,y3,lz,hye.slc,q1]
  rw [htop] at ez
  refine cg_use (ltRuns_same ez es (by omega)) ?_
  simp [d7,b7]
  refine cg_ex (ltPast_ok _ _ _ x s s.tms H7 hz7 hs7 hob hsb (fun _=>hv) (fun _=>hval) hs7.ints (by omega) (fun t h=>hsame t (.inl h))) ?_
  rintro v H10 ⟨rfl,hle10⟩
  have d10:=hle10.2 _ _ d7
  have b10:=hle10.2 _ _ b7
  obtain⟨G,hG⟩:∃ G:Hp,G=H10++[some ⟨[[.int .i64 s.time]],1,3,false⟩]:=⟨_,rfl⟩
  have hleG:HLe H10 G:=by rw [hG]; exact HLe.self _ _
  have tG:G.at H10.length=some ⟨[[.int .i64 s.time]],1,3,false⟩:=by rw [hG]; simp
  have hyt:Ints G (.sl H10.length 0 1) [s.time]:=Rows.whole tG
  simp [d10,b10,<- hG]
  refine cg_ex (ltPast_ok _ _ _ x s [s.time] G (hz7.le (hle10.trans hleG)) (hs7.le (hle10.trans hleG)) hob hsb (fun _=>hv) (fun _=>hval) hyt (by simp) (fun t ht=>by rw [List.mem_singleton.1 ht]; exact hsame s.time (.inr rfl))) ?_
  rintro v H11 ⟨rfl,hle11⟩
  simp
end Go.Proofs.YtepeokaplbbpoaaGreat.B

namespace Go.Proofs.YtepeokaplbbpoaaGreat.B
open Go.RowKit Go.Proofs
set_option linter.unusedVariables false
set_option linter.unusedSimpArgs false
variable {E:Env}
def TlI (k:ByteArray) (L:Nat) (u:AV) (out:List Ent) (H:Hp) (m:Nat) (t:Tm) (K:Hp):Prop:=∃ (i:Nat) (w:AV),i+m=out.length/\t 4=.str k/\t 7=.pt L 0 0/\t 9=u/\t 10=w/\t 11=.int .i64 i/\HLe H K/\OwnE H K w ((out.take i).filter (fun e=>!decide (e.key=k)))
set_option maxHeartbeats 3200000 in
theorem lawStoreTakeList_ok (c:AV) (bs:List Int) (H:Hp) (hc:Bytes H c bs) (hn:bs.length<4611686018427387904) :
  AC Tryz.prog E 6 [c] H (fun v H'=>v=.bool true):=by
 refine AC_by fol (tC_le tabJ_ok) h_laws_FnStoreTakeList ?_
 have l1:=hc.len
 simp [c_laws_FnStoreTakeList,l1,hc.1.slc]
 by_cases q1:1048576<bs.length
 ·have q1I:(1048576:Int)<bs.length:=by omega
  simp [q1,q1I]
 have q1I:¬(1048576:Int)<bs.length:=by omega
 simp [q1,q1I]
 refine cg_ex (DrawStoreTake_ok c bs H hc hn) ?_
 rintro v H1 ⟨w,s,k,rfl,hle1,hs,hsb,hsp,hk⟩
 obtain⟨xa,xb,xc,xd,rfl,n1,n2,n3,n4,_⟩:=hs.shape
 obtain⟨H2,hH2⟩:∃ H2:Hp,H2=H1++[some ⟨[[xa,xb,xc,.int .i64 s.keep,.int .i64 s.time,xd]],6,28,false⟩]:=⟨_,rfl⟩
 obtain⟨hle2,b2,hs2⟩:=St.box hs hH2
 simp [n1,n2,n3,n4,<- hH2,b2]
 have hsm:∀ x,takeR s k=some x->Small x:=fun x hx=>addR_small hx
 refine cg_ex (StoreTake_ok _ s k H2 hs2 hsb (by omega)) ?_
 intro v H4 hret
 obtain⟨hle4,hob,ya,yb,yc,yd,rfl,m1,m2,m3,m4,hy⟩:=hret.vl hsm
 obtain⟨x,hx⟩:∃ x,x=(takeR s k).getD sNil:=⟨_,rfl⟩
 rw [<- hx] at hob hy ⊢
 obtain⟨H5,hH5⟩:∃ H5:Hp,H5=H4++[some ⟨[[ya,yb,yc,.int .i64 x.keep,.int .i64 x.time,yd]],6,28,false⟩]:=⟨_,rfl⟩
 obtain⟨hle5,c5,hy5⟩:=St.box hy hH5
 have b5:=hle5.2 _ _ (hle4.2 _ _ b2)
 have hs5:=hs2.le (hle4.trans hle5)
 simp [m1,m2,m3,m4,<- hH5,b5]
 refine cg_ex (implTake_ok _ s k H5 hs5 hsb (by omega)) ?_
 intro v H6 hret6
 obtain⟨hle6,_,za,zb,zc,zd,rfl,p1,p2,p3,p4,hz⟩:=hret6.ret.vl hsm
 rw [<- hx] at hz ⊢
 obtain⟨H7,hH7⟩:∃ H7:Hp,H7=H6++[some ⟨[[za,zb,zc,.int .i64 x.keep,.int .i64 x.time,zd]],6,28,false⟩]:=⟨_,rfl⟩
 obtain⟨hle7,d7,hz7⟩:=St.box hz hH7
 have h57:=hle6.trans hle7
 have b7:=h57.2 _ _ b5
 have c7:=h57.2 _ _ c5
 have hy7:=hy5.le h57
 have hs7:=hs5.le h57
 simp [p1,p2,p3,p4,<- hH7,d7,c7]
 refine cg_use (ltStore_same hz7 hy7 hob) ?_
 cases ho:takeR s k with
 | none =>
  simp [d7,c7]
  refine cg_use (ltStore_same hz7 hy7 hob) ?_
  simp
 | some x' =>
  have hxx:x=x':=by rw [hx,ho]; rfl
  rw [<- hxx] at ho
  have hval:=hsp.val (by
   unfold takeR addR at ho
   split at ho
   ·rename_i h; simp only [Bool.and_eq_true] at h; exact h.1
   ·cases ho)
  obtain⟨hv,ht,hpast⟩:=add_past (e:=⟨k,0,true,s.time+1⟩) hval rfl ho
  have e0:(⟨#[]⟩:ByteArray).size<4611686018427387904:=by decide
  have e5:(⟨#[100,100,100,100,100]⟩:ByteArray).size<4611686018427387904:=by decide
  have k0:keyOk ⟨#[]⟩=true:=by decide
  have k5:keyOk ⟨#[100,100,100,100,100]⟩=true:=by decide
  simp [b7]
  refine cg_ex (StoreList_ok _ s _ _ s.time H7 hs7 hsb (fun _=>hval) e0 e5) ?_
  rintro u K ⟨hleK,out,hu,hL,hl⟩
  have dK:=hleK.2 _ _ d7
  have lu:=hu.len
  obtain⟨G,hG⟩:∃ G:Hp,G=K++[some ⟨[],4,45,false⟩]:=⟨_,rfl⟩
  have hleG:HLe K G:=by rw [hG]; exact HLe.self _ _
  have hlit:OwnE K G (.sl K.length 0 0) []:=by rw [hG]; exact OwnM.lit0 (HLe.refl _)
  simp
  simp only [<- hG]
  refine W_for (TlI k H6.length u out K) out.length ?_ (tC_mono AC_mono) ?_
  ·exact⟨0,_,by omega,by simp,by simp,by simp,by simp,by simp,hleG,hlit⟩
  rintro m t K' ⟨i,w,him,t4,t7,t9,t10,t11,hle',hw⟩
  simp [t4,t7,t9,t10,t11,lu,hu.slc]
  have hfl:=List.length_filter_le (fun e:Ent=>!decide (e.key=k)) (out.take i)
  rw [List.length_take] at hfl
  refine c_split (fun hq=>?_) (fun hq=>?_)<;>simp at hq
  ·have hi:i<out.length:=by omega
   have hw2:=wrapN (i:=i) (by omega)
   obtain⟨o1,i1,ob1,rfl,x1,x2,x3⟩:=(hu.le hle').ents.get hi
   obtain⟨e,he⟩:∃ e,e=out[i]:=⟨_,rfl⟩
   have hst:(out.take (i+1)).filter (fun e=>!decide (e.key=k))=(out.take i).filter (fun e=>!decide (e.key=k))++[e].filter (fun e=>!decide (e.key=k)):=by
    rw [List.take_succ_eq_append_getElem hi,List.filter_append,he]
   rw [<- he] at x3
   by_cases hek:e.key=k
   ·simp [t4,t7,t9,t10,t11,x1,x2,x3,hi,hek,hw2]
    exact⟨m-1,by omega,i+1,w,by omega,by simp [t4],by simp [t7],by simp [t9],by simp [t10],by simp,hle',by rw [hst]; simpa [hek] using hw⟩
   ·simp [t4,t7,t9,t10,t11,x1,x2,x3,hi,hek]
    refine appG_add (y:=e) (row:=entRow) (bytes:=40) (H0:=K) hw hle' (by omega) rfl (fun v2 K4 g1 g2 g3 g4=>?_)
    simp [t4,t7,t9,t11,hw2]
    exact⟨m-1,by omega,i+1,v2,by omega,by simp [t4],by simp [t7],by simp [t9],by simp,by simp,g1,by rw [hst]; simpa [hek] using g2⟩
  ·have:i=out.length:=by omega
   subst this
   rw [List.take_length] at hw
   have dK':=hle'.2 _ _ dK
   simp [t7,t10,dK']
   refine cg_ex (StoreList_ok _ x _ _ x.time K' ((hz7.le hleK).le hle') hob (fun _=>hv) e0 e5) ?_
   rintro u2 K3 ⟨hle3,out2,hu2,hL2,hl2⟩
   have heq:=take_list hval ho (list_now hval hL k0 k5) (list_now hv hL2 k0 k5)
   subst heq
   simp [t10]
   refine cg_use (ltRuns_same hu2.ents (hw.le hle3).ents (by omega)) ?_
   simp
end Go.Proofs.YtepeokaplbbpoaaGreat.B

namespace Go.Proofs.YtepeokaplbbpoaaGreat.B
open Go.RowKit Go.Proofs
set_option linter.unusedVariables false
set_option linter.unusedSimpArgs false
variable {E:Env}
def TwI (u v:AV) (n:Nat) (H:Hp) (m:Nat) (t:Tm) (K:Hp):Prop:=∃ i:Nat,i+m=n/\t 12=u/\t 13=v/\t 14=.int .i64 i/\K=H
set_option maxHeartbeats 3200000 in
theorem lawStoreTwice_ok (c:AV) (bs:List Int) (H:Hp) (hc:Bytes H c bs) (hn:bs.length<4611686018427387904) :
  AC Tryz.prog E 7 [c] H (fun v H'=>v=.bool true):=by
 refine AC_by fol (tC_le tabJ_ok) h_laws_FnStoreTwice ?_
 have l1:=hc.len
 simp [c_laws_FnStoreTwice,l1,hc.1.slc]
 by_cases q1:1048576<bs.length
 ·have q1I:(1048576:Int)<bs.length:=by omega
  simp [q1,q1I]
 have q1I:¬(1048576:Int)<bs.length:=by omega
 simp [q1,q1I]
 refine cg_ex (DrawStorePut_ok c bs H hc hn) ?_
 rintro v H1 ⟨w,s,k,n,rfl,hle1,hs,hsb,hsp,hk⟩
 obtain⟨xa,xb,xc,xd,rfl,n1,n2,n3,n4,_⟩:=hs.shape
 obtain⟨H2,hH2⟩:∃ H2:Hp,H2=H1++[some ⟨[[xa,xb,xc,.int .i64 s.keep,.int .i64 s.time,xd]],6,28,false⟩]:=⟨_,rfl⟩
 obtain⟨hle2,b2,hs2⟩:=St.box hs hH2
 simp [n1,n2,n3,n4,<- hH2,b2]
 have hsm:∀ x,putR s k n=some x->Small x:=fun x hx=>addR_small hx
 refine cg_ex (StorePut_ok _ s k n H2 hs2 hsb (by omega)) ?_
 intro v H4 hret
 obtain⟨hle4,hob,ya,yb,yc,yd,rfl,m1,m2,m3,m4,hy⟩:=hret.vl hsm
 obtain⟨x,hx⟩:∃ x,x=(putR s k n).getD sNil:=⟨_,rfl⟩
 rw [<- hx] at hob hy ⊢
 obtain⟨H5,hH5⟩:∃ H5:Hp,H5=H4++[some ⟨[[ya,yb,yc,.int .i64 x.keep,.int .i64 x.time,yd]],6,28,false⟩]:=⟨_,rfl⟩
 obtain⟨hle5,c5,hy5⟩:=St.box hy hH5
 have b5:=hle5.2 _ _ (hle4.2 _ _ b2)
 have hs5:=hs2.le (hle4.trans hle5)
 simp [m1,m2,m3,m4,<- hH5,b5]
 refine cg_ex (implPut_ok _ s k n H5 hs5 hsb (by omega)) ?_
 intro v H6 hret6
 obtain⟨hle6,_,za,zb,zc,zd,rfl,p1,p2,p3,p4,hz⟩:=hret6.ret.vl hsm
 rw [<- hx] at hz ⊢
 obtain⟨H7,hH7⟩:∃ H7:Hp,H7=H6++[some ⟨[[za,zb,zc,.int .i64 x.keep,.int .i64 x.time,zd]],6,28,false⟩]:=⟨_,rfl⟩
 obtain⟨hle7,d7,hz7⟩:=St.box hz hH7
 have h57:=hle6.trans hle7
 have b7:=h57.2 _ _ b5
 have c7:=h57.2 _ _ c5
 have hy7:=hy5.le h57
 have hs7:=hs5.le h57
 simp [p1,p2,p3,p4,<- hH7,d7,c7]
 refine cg_use (ltStore_same hz7 hy7 hob) ?_
 cases ho:putR s k n with
 | none =>
  simp [d7,c7]
  refine cg_use (ltStore_same hz7 hy7 hob) ?_
  simp
 | some x' =>
  have hxx:x=x':=by rw [hx,ho]; rfl
  rw [<- hxx] at ho
  have hval:=hsp.val (by
   unfold putR addR at ho
   split at ho
   ·rename_i h; simp only [Bool.and_eq_true] at h; exact h.1
   ·cases ho)
  obtain⟨hv,ht,hpast⟩:=add_past (e:=⟨k,n,false,s.time+1⟩) hval rfl ho
  have e0:(⟨#[]⟩:ByteArray).size<4611686018427387904:=by decide
  have e5:(⟨#[100,100,100,100,100]⟩:ByteArray).size<4611686018427387904:=by decide
  have k0:keyOk ⟨#[]⟩=true:=by decide
  have k5:keyOk ⟨#[100,100,100,100,100]⟩=true:=by decide
  simp [d7]
  refine cg_ex (implPut_ok _ x k n H7 hz7 hob (by omega)) ?_
  intro v H8 hret8
  obtain⟨hle8,hyb,wa,wb,wc,wd,rfl,r1,r2,r3,r4,hw⟩:=hret8.ret.vl (fun q hq=>addR_small hq)
  obtain⟨y,hyd⟩:∃ y,y=(putR x k n).getD sNil:=⟨_,rfl⟩
  rw [<- hyd] at hyb hw ⊢
  obtain⟨H9,hH9⟩:∃ H9:Hp,H9=H8++[some ⟨[[wa,wb,wc,.int .i64 y.keep,.int .i64 y.time,wd]],6,28,false⟩]:=⟨_,rfl⟩
  obtain⟨hle9,e9,hw9⟩:=St.box hw hH9
  have h79:=hle8.trans hle9
  have d9:=h79.2 _ _ d7
  have hz9:=hz7.le h79
  simp [r1,r2,r3,r4,<- hH9]
  cases hp:putR x k n with
  | none=>simp
  | some y' =>
   have hyy:y=y':=by rw [hyd,hp]; rfl
   rw [<- hyy] at hp
   obtain⟨hvy,hty,_⟩:=add_past (e:=⟨k,n,false,x.time+1⟩) hv rfl hp
   simp [d9,e9]
   refine cg_ex (StoreList_ok _ x _ _ x.time H9 hz9 hob (fun _=>hv) e0 e5) ?_
   rintro u K ⟨hleK,out,hu,hL,hl⟩
   have eK:=hleK.2 _ _ e9
   simp [eK]
   refine cg_ex (StoreList_ok _ y _ _ y.time K (hw9.le hleK) hyb (fun _=>hvy) e0 e5) ?_
   rintro u2 K2 ⟨hleK2,out2,hu2,hL2,hl2⟩
   obtain⟨heq,hval2⟩:=put_twice hval ho hp (list_now hv hL k0 k5) (list_now hvy hL2 k0 k5)
   have lu:=hu.len
   have lu2:=hu2.len
   have hlen:out2.length=out.length:=by rw [heq,List.length_map]
   have huK:=hu.le hleK2
   simp [lu,lu2,hu.slc,hu2.slc,hlen]
   refine W_for (TwI u u2 out.length K2) out.length ?_ (tC_mono AC_mono) ?_
   ·exact⟨0,by omega,by simp,by simp,by simp,rfl⟩
   rintro m t K' ⟨i,him,t12,t13,t14,rfl⟩
   simp [t12,t13,t14,lu,hu.slc]
   refine c_split (fun hq=>?_) (fun hq=>?_)<;>simp at hq
   ·have hi:i<out.length:=by omega
    have hi2:i<out2.length:=by omega
    have hw2:=wrapN (i:=i) (by omega)
    obtain⟨o1,i1,ob1,e1,x1,x2,x3⟩:=huK.ents.get hi
    obtain⟨o2,i2,ob2,e2,y1,y2,y3⟩:=hu2.ents.get hi2
    subst e1
    subst e2
    have hk:out2[i].key=out[i].key/\out2[i].val=out[i].val:=by
     have h2:out2[i]=(if out[i].key=k then ⟨k,n,false,x.time+1⟩ else out[i]):=by
      have:=congrArg (fun l=>l[i]?) heq
      simp only [List.getElem?_map,List.getElem?_eq_getElem hi2,List.getElem?_eq_getElem hi,Option.map_some] at this
      exact Option.some.inj this
     rw [h2]
     by_cases hc:out[i].key=k
     ·rw [if_pos hc]
      exact⟨hc.symm,(hval2 _ (List.getElem_mem hi) hc).symm⟩
     ·rw [if_neg hc]
      exact⟨rfl,rfl⟩
    rw [hk.1,hk.2] at y3
    simp [t12,t13,t14,x1,x2,x3,y1,y2,y3,hi,hi2,hw2]
    exact⟨m-1,by omega,i+1,by omega,by simp [t12],by simp [t13],by simp,rfl⟩
   ·simp
end Go.Proofs.YtepeokaplbbpoaaGreat.B

namespace Go.Proofs.YtepeokaplbbpoaaGreat.B
open Go.RowKit Go.Proofs
set_option linter.unusedVariables false
set_option linter.unusedSimpArgs false
variable {E:Env}
end Go.Proofs.YtepeokaplbbpoaaGreat.B

namespace Go.Proofs.YtepeokaplbbpoaaGreat.B
open Go.RowKit Go.Proofs
set_option linter.unusedVariables false
set_option linter.unusedSimpArgs false
end Go.Proofs.YtepeokaplbbpoaaGreat.B

namespace Go.Proofs.YtepeokaplbbpoaaGreat.B
open Go.RowKit Go.Proofs
set_option linter.unusedVariables false
set_option linter.unusedSimpArgs false
end Go.Proofs.YtepeokaplbbpoaaGreat.B

namespace Go.Proofs.YtepeokaplbbpoaaGreat.B
open Go.RowKit Go.Proofs
set_option linter.unusedVariables false
set_option linter.unusedSimpArgs false
variable {E:Env}
end Go.Proofs.YtepeokaplbbpoaaGreat.B



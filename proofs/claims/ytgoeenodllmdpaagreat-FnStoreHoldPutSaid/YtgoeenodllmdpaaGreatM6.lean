/- A part of the proof: Stores are compared. The laws' ltPast: two stores, listed at some times. What is kept stays, whatever is done: in plain Lean. Stores are compared, whole. What changes nothing may be left out, in plain Lean. Deeds that change something. A store and deeds are drawn. Stores, keys and values that are drawn. The law FnStorePutOther. Stores that are drawn, and times of theirs. The law FnStoreHold. The program finds what was put last. The law FnPastIdle. The reference's past with what is written. Pasts that are drawn. The law FnPastGetTop. The law FnStoreHoldPut. There is no condition. -/
import Derived.Test.YtgoeenodllmdpaaGreatM0
import Derived.Test.YtgoeenodllmdpaaGreatM1
import Derived.Test.YtgoeenodllmdpaaGreatM2
import Derived.Test.YtgoeenodllmdpaaGreatM3
import Derived.Test.YtgoeenodllmdpaaGreatM4
import Derived.Test.YtgoeenodllmdpaaGreatM5
namespace Go.Proofs.YtgoeenodllmdpaaGreat.B
open Go.RowKit Go.Proofs
set_option linter.unusedVariables false
set_option linter.unusedSimpArgs false
variable {E:Env}
theorem toList_inj' {x y:ByteArray} (h:x.toList=y.toList):x=y:=by
 have:=toList_beq x y
 rw [h] at this
 simpa using this.symm
theorem ltRuns_ok (a b:AV) (xs ys:List Ent) (H:Hp) (ha:Ents H a xs) (hb:Ents H b ys) (hx:xs.length<9223372036854775807):AC Tryz.prog E 17 [a,b] H (fun v H'=>v=.bool (decide (xs=ys))/\H'=H):=by
 refine AC_byp (CLe.refl _) h_laws_ltRuns (by simp) ?_
 have l1:=ha.len
 have l2:=hb.len
 simp [c_laws_ltRuns,l1,l2,ha.slc,hb.slc]
 refine c_split (fun hq=>?_) (fun hq=>?_)<;>simp at hq<;>simp
 ·intro h
  subst h
  exact hq rfl
 ·refine W_for (fun k t H'=>∃ i:Nat,i+k=xs.length/\t 0=a/\t 1=b/\t 5=.int .i64 i/\(∀ j:Nat,j<i->xs[j]?=ys[j]?)/\HLe H H') xs.length ?_ AC_mono ?_
  ·exact⟨0,by simp⟩
  rintro k t H' ⟨i,hik,h0,h1,h5,hI,hle⟩
  simp [h0,h1,h5,l1,ha.slc]
  refine c_split (fun hq2=>?_) (fun hq2=>?_)<;>simp at hq2
  ·have hw:=wrapN (i:=i) (by omega)
   obtain⟨o1,i1,ob1,rfl,a1,a2,a3⟩:=(ha.le hle).get hq2
   obtain⟨o2,i2,ob2,rfl,b1,b2,b3⟩:=(hb.le hle).get (j:=i) (by omega)
   obtain⟨m,hm⟩:∃ m,m=xs[i]:=⟨_,rfl⟩
   obtain⟨n,hn⟩:∃ n,n=ys[i]'(by omega):=⟨_,rfl⟩
   rw [<- hm] at a3
   rw [<- hn] at b3
   simp [h0,h1,h5,a1,a2,a3,b1,b2,b3,hq2,<- hq,entRow]
   refine c_split (fun hq3=>?_) (fun hq3=>?_)<;>simp at hq3<;>simp [h0,h1,h5,hw,hle]
   ·intro h
    subst h
    rw [<- hn] at hm
    subst hm
    simp at hq3
   ·refine⟨k-1,by omega,i+1,by omega,by omega,fun j hj=>?_⟩
    rcases Nat.lt_or_ge j i with h | h
    ·exact hI j h
    ·have:j=i:=by omega
     subst this
     rw [List.getElem?_eq_getElem hq2,List.getElem?_eq_getElem (by omega),<- hm,<- hn]
     obtain⟨m1,m2,m3,m4⟩:=m
     obtain⟨n1,n2,n3,n4⟩:=n
     simp at hq3 ⊢
     exact⟨toList_inj' hq3.1,hq3.2.1,hq3.2.2.1,hq3.2.2.2⟩
  ·simp [hle]
   apply List.ext_getElem?
   intro j
   rcases Nat.lt_or_ge j i with h | h
   ·exact hI j h
   ·rw [List.getElem?_eq_none (by omega),List.getElem?_eq_none (by omega)]
theorem ltSames_ok (a b:AV) (xs ys:List ByteArray) (H:Hp) (ha:Strs H a xs) (hb:Strs H b ys) (hx:xs.length<4611686018427387904):AC Tryz.prog E 175 [a,b] H (fun v H'=>v=.bool (decide (xs=ys))/\H'=H):=by
 refine AC_byp (tC_le tab2_ok) h_laws_ltSames (by simp) ?_
 have l1:=ha.len
 have l2:=hb.len
 simp [c_laws_ltSames,l1,l2,ha.slc,hb.slc]
 refine c_split (fun hq=>?_) (fun hq=>?_)<;>simp at hq<;>simp
 ·intro h
  subst h
  exact hq rfl
 ·refine W_for (fun k t H'=>∃ i:Nat,i+k=xs.length/\t 0=a/\t 1=b/\t 5=.int .i64 i/\(∀ j:Nat,j<i->xs[j]?=ys[j]?)/\HLe H H') xs.length ?_ (tC_mono AC_mono) ?_
  ·exact⟨0,by simp⟩
  rintro k t H' ⟨i,hik,h0,h1,h5,hI,hle⟩
  simp [h0,h1,h5,l1,ha.slc]
  refine c_split (fun hq2=>?_) (fun hq2=>?_)<;>simp at hq2
  ·have hw:=wrapN (i:=i) (by omega)
   obtain⟨o1,i1,ob1,rfl,a1,a2,a3⟩:=(ha.le hle).get hq2
   obtain⟨o2,i2,ob2,rfl,b1,b2,b3⟩:=(hb.le hle).get (j:=i) (by omega)
   simp [h0,h1,h5,a1,a2,a3,b1,b2,b3,hq2,<- hq]
   refine c_split (fun hq3=>?_) (fun hq3=>?_)<;>simp at hq3<;>simp [h0,h1,h5,hw,hle]
   ·intro h
    subst h
    exact hq3 rfl
   ·refine⟨k-1,by omega,i+1,by omega,rfl,fun j hj=>?_⟩
    rcases Nat.lt_or_ge j i with h | h
    ·exact hI j h
    ·have:j=i:=by omega
     subst this
     rw [List.getElem?_eq_getElem hq2,List.getElem?_eq_getElem (by omega),hq3]
  ·simp [hle]
   apply List.ext_getElem?
   intro j
   rcases Nat.lt_or_ge j i with h | h
   ·exact hI j h
   ·rw [List.getElem?_eq_none (by omega),List.getElem?_eq_none (by omega)]
theorem ltInts_ok (a b:AV) (xs ys:List Int) (H:Hp) (ha:Ints H a xs) (hb:Ints H b ys) (hx:xs.length<4611686018427387904):AC Tryz.prog E 102 [a,b] H (fun v H'=>v=.bool (decide (xs=ys))/\H'=H):=by
 refine AC_byp (tC_le tab2_ok) h_laws_ltInts (by simp) ?_
 have l1:=ha.len
 have l2:=hb.len
 simp [c_laws_ltInts,l1,l2,ha.slc,hb.slc]
 refine c_split (fun hq=>?_) (fun hq=>?_)<;>simp at hq<;>simp
 ·intro h
  subst h
  exact hq rfl
 ·refine W_for (fun k t H'=>∃ i:Nat,i+k=xs.length/\t 0=a/\t 1=b/\t 5=.int .i64 i/\(∀ j:Nat,j<i->xs[j]?=ys[j]?)/\HLe H H') xs.length ?_ (tC_mono AC_mono) ?_
  ·exact⟨0,by simp⟩
  rintro k t H' ⟨i,hik,h0,h1,h5,hI,hle⟩
  simp [h0,h1,h5,l1,ha.slc]
  refine c_split (fun hq2=>?_) (fun hq2=>?_)<;>simp at hq2
  ·have hw:=wrapN (i:=i) (by omega)
   obtain⟨o1,i1,ob1,rfl,a1,a2,a3⟩:=(ha.le hle).get hq2
   obtain⟨o2,i2,ob2,rfl,b1,b2,b3⟩:=(hb.le hle).get (j:=i) (by omega)
   simp [h0,h1,h5,a1,a2,a3,b1,b2,b3,hq2,<- hq]
   refine c_split (fun hq3=>?_) (fun hq3=>?_)<;>simp at hq3<;>simp [h0,h1,h5,hw,hle]
   ·intro h
    subst h
    exact hq3 rfl
   ·refine⟨k-1,by omega,i+1,by omega,rfl,fun j hj=>?_⟩
    rcases Nat.lt_or_ge j i with h | h
    ·exact hI j h
    ·have:j=i:=by omega
     subst this
     rw [List.getElem?_eq_getElem hq2,List.getElem?_eq_getElem (by omega),hq3]
  ·simp [hle]
   apply List.ext_getElem?
   intro j
   rcases Nat.lt_or_ge j i with h | h
   ·exact hI j h
   ·rw [List.getElem?_eq_none (by omega),List.getElem?_eq_none (by omega)]
end Go.Proofs.YtgoeenodllmdpaaGreat.B

namespace Go.Proofs.YtgoeenodllmdpaaGreat.B
open Go.RowKit Go.Proofs
set_option linter.unusedVariables false
set_option linter.unusedSimpArgs false
variable {E:Env}
def SameAt (s x:Sr) (t t':Int):Prop:=∀ fr to a b,ListOf s fr to t a->ListOf x fr to t' b->a=b
theorem SameAt.of {s x:Sr} {t t':Int} (hs:Val s) (hx:Val x) (hk:knownR s t=knownR x t') (h:knownR s t=true->∀ (k:ByteArray) (f:Ent),f.gone=false->(Best (entsR s) k t f↔Best (entsR x) k t' f)):SameAt s x t t':=by
 intro fr to a b ha hb
 unfold ListOf at ha hb
 rw [hs.ok,hk] at ha
 rw [hx.ok] at hb
 split at ha
 ·rename_i hc
  rw [if_pos hc] at hb
  refine ha.ext hb (fun e he=>?_)
  rw [h (hk.trans hc.2.2.2) e.key e he]
 ·rename_i hc
  rw [if_neg hc] at hb
  rw [ha,hb]
def LoI (a b c d a' b' c' d':AV) (s x:Sr) (v:AV) (n:Nat) (H:Hp) (m:Nat) (t:Tm) (K:Hp):Prop:=∃ i:Nat,i+m=n/\t 2=v/\t 3=.pt H.length 0 0/\t 4=.pt (H.length+1) 0 0/\t 7=.int .i64 i/\HLe H K /\
 K.at H.length=some ⟨[[a,b,c,.int .i64 s.keep,.int .i64 s.time,d]],6,28,false⟩/\K.at (H.length+1)=some ⟨[[a',b',c',.int .i64 x.keep,.int .i64 x.time,d']],6,28,false⟩
set_option maxHeartbeats 800000 in
theorem ltPast_ok (v v' w:AV) (s x:Sr) (ts:List Int) (H:Hp) (hs:St H v s) (hx:St H v' x) (hb:StB s) (hb':StB x) (hv:storeOk s=true->Val s) (hv':storeOk x=true->Val x) (hw:Ints H w ts) (hn:ts.length<1099511627776) (hsame:∀ t∈ts,SameAt s x t t) :
  AC Tryz.prog E 30 [v,v',w] H (fun u H'=>u=.bool true/\HLe H H'):=by
 refine AC_by fol (tC_le tabJ_ok) h_laws_ltPast ?_
 have hs0:=hs
 have hx0:=hx
 obtain⟨a,b,c,d,rfl,n1,n2,n3,n4,_⟩:=hs.shape
 obtain⟨a',b',c',d',rfl,m1,m2,m3,m4,_⟩:=hx.shape
 obtain⟨H1,hH1⟩:∃ H1:Hp,H1=H++[some ⟨[[a,b,c,.int .i64 s.keep,.int .i64 s.time,d]],6,28,false⟩,some ⟨[[a',b',c',.int .i64 x.keep,.int .i64 x.time,d']],6,28,false⟩]:=⟨_,rfl⟩
 have hle1:HLe H H1:=by rw [hH1]; exact HLe.self _ _
 have b0:H1.at H.length=some ⟨[[a,b,c,.int .i64 s.keep,.int .i64 s.time,d]],6,28,false⟩:=by rw [hH1]; simp
 have b1:H1.at (H.length+1)=some ⟨[[a',b',c',.int .i64 x.keep,.int .i64 x.time,d']],6,28,false⟩:=by rw [hH1]; simp
 have l1:=hw.len
 have e0:(⟨#[]⟩:ByteArray).size<4611686018427387904:=by decide
 have e5:(⟨#[100,100,100,100,100]⟩:ByteArray).size<4611686018427387904:=by decide
 simp [c_laws_ltPast,n1,n2,n3,n4,m1,m2,m3,m4,<- hH1]
 refine W_for (LoI a b c d a' b' c' d' s x w ts.length H) ts.length ?_ (tC_mono AC_mono) ?_
 ·exact⟨0,by omega,by simp,by simp,by simp,by simp,hle1,b0,b1⟩
 rintro m t K ⟨i,him,t2,t3,t4,t7,hle,c0,c1⟩
 simp [t2,t3,t4,t7,l1,hw.slc]
 refine c_split (fun hq=>?_) (fun hq=>?_)<;>simp at hq
 ·have hwi:=wrapN (i:=i) (by omega)
  obtain⟨o,i0,ob,rfl,y1,y2,y3⟩:=hw.get hq
  have y1K:=hle.2 _ _ y1
  simp [t2,t3,t4,t7,c0,c1,y1K,y2,y3,hq]
  refine cg_ex (StoreList_ok _ s _ _ ts[i] K (hs0.le hle) hb hv e0 e5) ?_
  rintro u K2 ⟨hle2,out,hu,hL,hl⟩
  have y12:=hle2.2 _ _ y1K
  have c12:=hle2.2 _ _ c1
  simp [t2,t3,t4,t7,c12,y12,y2,y3,hq]
  refine cg_ex (StoreList_ok _ x _ _ ts[i] K2 (hx0.le (hle.trans hle2)) hb' hv' e0 e5) ?_
  rintro u2 K3 ⟨hle3,out2,hu2,hL2,hl2⟩
  have heq:=hsame ts[i] (List.getElem_mem hq) _ _ _ _ hL hL2
  subst heq
  simp
  refine cg_use (ltRuns_ok _ _ out out K3 (Rows.le hu.rows hle3) hu2.rows (by omega)) ?_
  simp [t2,t3,t4,t7,hwi]
  exact⟨m-1,by omega,i+1,by omega,by simp [t2],by simp [t3],by simp [t4],by simp,(hle.trans hle2).trans hle3,hle3.2 _ _ (hle2.2 _ _ c0),hle3.2 _ _ c12⟩
 ·simp
  exact hle
end Go.Proofs.YtgoeenodllmdpaaGreat.B

namespace Go.Proofs.YtgoeenodllmdpaaGreat.B
open Go.RowKit Go.Proofs
set_option linter.unusedVariables false
set_option linter.unusedSimpArgs false
structure Kept (s:Sr) (T:Int) (x:Sr):Prop where
 val:Val x
 mem:T∈x.tms
 seen:Seen T (entsR s) (entsR x)
theorem Kept.add {s x y:Sr} {T:Int} {e:Ent} (h:Kept s T x) (he:e.time=x.time+1) (hx:addR x e=some y):Kept s T y:=by
 have hv0:=h.val
 obtain⟨a,b,c,u,v,w,hv⟩:=hv0
 obtain⟨hyv,ht,hkp,htm,hek,z,hfd,hsub,hmem⟩:=add_V hv he hx
 have hT:=h.val.tms T h.mem
 have hz:∀ q∈entsR z,q.time<e.time:=fun q hq=>by
  have:=h.val.late q (hsub q hq)
  omega
 refine⟨hyv,by rw [htm]; exact h.mem,fun k f hf=>?_⟩
 rw [best_snoc hz hmem,h.seen k f hf,hfd T (.inl h.mem) k f hf]
 constructor
 ·intro hb
  exact .inr ⟨fun hc=>by omega,hb⟩
 ·rintro (⟨_,h2,_⟩ | ⟨_,h2⟩)
  ·omega
  ·exact h2
theorem Kept.keep {s x y:Sr} {T:Int} (h:Kept s T x) (hy:Val y) (hm:T∈y.tms) (hf:Found x y):Kept s T y :=
 ⟨hy,hm,fun k f hg=>by rw [h.seen k f hg]; exact hf T (.inl h.mem) k f hg⟩
theorem Kept.do {s x y:Sr} {T:Int} {d:Dd} (h:Kept s T x) (hx:doR x d=some y) (hk:d.kind≠4):Kept s T y:=by
 have hv0:=h.val
 obtain⟨a,b,c,u,v,w,hv⟩:=hv0
 unfold doR at hx
 by_cases k1:d.kind=1
 ·rw [if_pos k1] at hx
  exact h.add rfl hx
 rw [if_neg k1] at hx
 by_cases k2:d.kind=2
 ·rw [if_pos k2] at hx
  exact h.add rfl hx
 rw [if_neg k2] at hx
 by_cases k3:d.kind=3
 ·rw [if_pos k3] at hx
  obtain⟨h1,h2,h3,h4,h5,h6,h7⟩:=hold_V hv hx
  refine h.keep ⟨a,b,c,u,v,w,h1⟩ ?_ (Found.self h2 h3)
  rcases h6 with h6 | h6
  ·rw [h6]
   exact h.mem
  ·rw [h6]
   exact List.mem_append_left _ h.mem
 rw [if_neg k3,if_neg hk] at hx
 by_cases k5:d.kind=5
 ·rw [if_pos k5] at hx
  unfold letR at hx
  rw [if_pos hv.ok] at hx
  obtain⟨h1,h2,h3,h4,h5,h6,h7⟩:=down_V hv hx
  exact h.keep h1 (by rw [h5]; exact h.mem) h7
 rw [if_neg k5] at hx
 by_cases k6:d.kind=6
 ·rw [if_pos k6] at hx
  obtain⟨h1,h2,h3,h4,h5,h6,h7⟩:=join_V hv hx
  exact h.keep h1 (by rw [h5]; exact h.mem) h7
 rw [if_neg k6] at hx
 cases hx
theorem Kept.all {s:Sr} {T:Int}:∀ (ds:List Dd) {x:Sr},(∀ d∈ds,d.kind≠4)->Kept s T x->Kept s T (doAll x ds)
 | [],x,_,h=>h
 | d :: ds,x,hk,h=>by
  have e:doAll x (d :: ds)=doAll ((doR x d).getD x) ds:=rfl
  rw [e]
  refine Kept.all ds (fun d' hd'=>hk d' (List.mem_cons_of_mem _ hd')) ?_
  cases hd:doR x d with
  | none=>exact h
  | some y=>exact h.do hd (hk d (by simp))
theorem hold_put {s x y:Sr} {ds:List Dd} (hs:Val s) (hx:holdR s=some x) (hk:∀ d∈ds,d.kind≠4) (hy:pastR x ds=some y):Val y/\SameAt y s s.time s.time:=by
 have hs0:=hs
 obtain⟨a,b,c,u,v,w,h⟩:=hs0
 obtain⟨h1,h2,h3,h4,h5,h6,h7⟩:=hold_V h hx
 have hK:Kept s s.time x:=⟨⟨a,b,c,u,v,w,h1⟩,h7,fun k f _=>by unfold entsR; rw [h2,h3]⟩
 have hyd:y=doAll x ds:=by
  unfold pastR at hy
  split at hy
  ·exact (Option.some.inj hy).symm
  ·cases hy
 have hA:=Kept.all ds hk hK
 rw [<- hyd] at hA
 refine⟨hA.val,SameAt.of hA.val hs ?_ (fun _ k f hf=>(hA.seen k f hf).symm)⟩
 rw [known_now,known_iff.2 (.inl hA.mem)]
end Go.Proofs.YtgoeenodllmdpaaGreat.B

namespace Go.Proofs.YtgoeenodllmdpaaGreat.B
open Go.RowKit Go.Proofs
set_option linter.unusedVariables false
set_option linter.unusedSimpArgs false
variable {E:Env}
theorem ltSieve_ok (r r':AV) (s s':Sv) (H:Hp) (hr:Strs H r s.r) (hr':Strs H r' s'.r) (hx:s.r.length<4611686018427387904) :
  AC Tryz.prog E 103 [svAV s r,svAV s' r'] H (fun v H'=>v=.bool (decide (s=s'))/\H'=H):=by
 refine AC_byp (tC_le tabJ_ok) h_laws_ltSieve (by simp) ?_
 have ed:decide (s=s')=(decide (s.l=s'.l)&&(decide (s.m=s'.m)&&(decide (s.f=s'.f)&&(decide (s.k=s'.k)&&decide (s.r=s'.r))))):=by
  obtain⟨x1,x2,x3,x4,x5⟩:=s
  obtain⟨y1,y2,y3,y4,y5⟩:=s'
  simp only [Sv.mk.injEq,Bool.decide_and]
  cases decide (x1=y1)<;>cases decide (x2=y2)<;>cases decide (x3=y3)<;>cases decide (x4=y4)<;>cases decide (x5=y5)<;>rfl
 rw [ed]
 obtain⟨H1,hH1⟩:∃ H1:Hp,H1=H++[some ⟨[[.str s.l,.str s.m,.str s.f,r,.int .i64 s.k]],5,66,false⟩,some ⟨[[.str s'.l,.str s'.m,.str s'.f,r',.int .i64 s'.k]],5,66,false⟩]:=⟨_,rfl⟩
 have hle1:HLe H H1:=by rw [hH1]; exact HLe.self _ _
 have b0:H1.at H.length=some ⟨[[.str s.l,.str s.m,.str s.f,r,.int .i64 s.k]],5,66,false⟩:=by rw [hH1]; simp
 have b1:H1.at (H.length+1)=some ⟨[[.str s'.l,.str s'.m,.str s'.f,r',.int .i64 s'.k]],5,66,false⟩:=by rw [hH1]; simp
 simp [c_laws_ltSieve,svAV,Rows.one hr,Rows.one hr',<- hH1,b0,b1]
 by_cases e1:s.l=s'.l
 ·by_cases e2:s.m=s'.m
  ·by_cases e3:s.f=s'.f
   ·by_cases e4:s.k=s'.k
    ·simp [e1,e2,e3,e4,b0,b1]
     refine cg_use (ltSames_ok r r' s.r s'.r H1 (hr.le hle1) (hr'.le hle1) hx) ?_
     simp [hle1]
    ·simp [e1,e2,e3,e4,b0,b1,hle1]
   ·simp [e1,e2,e3,b0,b1,hle1]
  ·simp [e1,e2,b0,b1,hle1]
 ·simp [e1,hle1]
theorem pre_add {α:Type} {xs ys:List α} {i:Nat} (h:∀ j,j<i->xs[j]?=ys[j]?) (hx:i<xs.length) (hy:i<ys.length) (he:xs[i]=ys[i]):∀ j,j<i+1->xs[j]?=ys[j]?:=by
 intro j hj
 rcases Nat.lt_or_ge j i with h2 | h2
 ·exact h j h2
 ·have:j=i:=by omega
  subst this
  rw [List.getElem?_eq_getElem hx,List.getElem?_eq_getElem hy,he]
theorem pre_all {α:Type} {xs ys:List α} {i:Nat} (h:∀ j,j<i->xs[j]?=ys[j]?) (hx:xs.length<=i) (hl:xs.length=ys.length):xs=ys:=by
 apply List.ext_getElem?
 intro j
 rcases Nat.lt_or_ge j i with h2 | h2
 ·exact h j h2
 ·rw [List.getElem?_eq_none (by omega),List.getElem?_eq_none (by omega)]
set_option maxHeartbeats 1600000 in
theorem ltStore_ok (v v':AV) (s s':Sr) (H:Hp) (hs:St H v s) (hs':St H v' s') (hb:StB s) (hb':StB s') :
  AC Tryz.prog E 29 [v,v'] H (fun u H'=>u=.bool (decide (s=s'))/\H'=H):=by
 obtain⟨a,b,c,d,lr,sr,rfl,f1,f2,f3,f4,f5,f6⟩:=hs
 obtain⟨a',b',c',d',lr',sr',rfl,g1,g2,g3,g4,g5,g6⟩:=hs'
 refine AC_byp (tC_le tabJ_ok) h_laws_ltStore (by simp) ?_
 obtain⟨H1,hH1⟩:∃ H1:Hp,H1=H++[some ⟨[[a,b,c,.int .i64 s.keep,.int .i64 s.time,d]],6,28,false⟩,some ⟨[[a',b',c',.int .i64 s'.keep,.int .i64 s'.time,d']],6,28,false⟩]:=⟨_,rfl⟩
 have hle1:HLe H H1:=by rw [hH1]; exact HLe.self _ _
 have b0:H1.at H.length=some ⟨[[a,b,c,.int .i64 s.keep,.int .i64 s.time,d]],6,28,false⟩:=by rw [hH1]; simp
 have b1:H1.at (H.length+1)=some ⟨[[a',b',c',.int .i64 s'.keep,.int .i64 s'.time,d']],6,28,false⟩:=by rw [hH1]; simp
 have ll:=f3.length
 have ll':=g3.length
 have ls:=f5.length
 have ls':=g5.length
 have k1:=f2.len
 have k2:=g2.len
 have k3:=f4.len
 have k4:=g4.len
 rw [ll] at k1
 rw [ll'] at k2
 rw [ls] at k3
 rw [ls'] at k4
 have hB:=hb.2.2.1
 have hB':=hb'.2.2.1
 have hC:=hb.2.2.2.1
 have no:∀ {p:Prop},(s=s'->p)->¬p->decide (s=s')=false:=fun h hp=>decide_eq_false (fun e=>hp (h e))
 simp [c_laws_ltStore,stAV,Rows.one f1,f2.one,f4.one,Rows.one f6,Rows.one g1,g2.one,g4.one,Rows.one g6,<- hH1,b0,b1]
 refine cg_use (ltRuns_ok a a' s.top s'.top H1 (f1.le hle1) (g1.le hle1) (by have:=hb.1.1; omega)) ?_
 by_cases e1:s.top=s'.top
 ·simp [e1,b0,b1,k1,k2,f2.slc,g2.slc]
  by_cases e2:s.lev.length=s'.lev.length
  ·simp [e2,b0,b1,k3,k4,f4.slc,g4.slc]
   by_cases e3:s.sv.length=s'.sv.length
   ·simp [e3,b0,b1]
    by_cases e4:s.keep=s'.keep
    ·simp [e4,b0,b1]
     by_cases e5:s.time=s'.time
     ·simp [e5,b0,b1]
      refine cg_use (ltInts_ok d d' s.tms s'.tms H1 (f6.le hle1) (g6.le hle1) (by have:=hb.2.2.2.2.1; omega)) ?_
      by_cases e6:s.tms=s'.tms
      ·simp [e6]
       refine W_for (fun m t H'=>∃ i:Nat,i+m=s.lev.length/\t 2=.pt H.length 0 0/\t 3=.pt (H.length+1) 0 0/\t 5=.int .i64 i/\H'=H1/\(∀ j,j<i->s.lev[j]?=s'.lev[j]?)) s.lev.length ?_ (tC_mono AC_mono) ?_
       ·exact⟨0,by simp⟩
       rintro m t H' ⟨i,him,t2,t3,t5,rfl,hI⟩
       simp [t2,t3,t5,b0,b1,k1,k2,f2.slc,g2.slc]
       refine c_split (fun hq=>?_) (fun hq=>?_)<;>simp at hq
       ·have hw:=wrapN (i:=i) (by omega)
        have hil:i<s.lev.length:=by omega
        have hil':i<s'.lev.length:=by omega
        obtain⟨o1,i1,ob1,rfl,x1,x2,x3⟩:=f2.get (j:=i) (by omega)
        obtain⟨u,hu,hue⟩:=f3.get i (by omega) hil
        obtain⟨o2,i2,ob2,rfl,y1,y2,y3⟩:=g2.get (j:=i) (by omega)
        obtain⟨u',hu',hue'⟩:=g3.get i (by omega) hil'
        rw [hu] at x3
        rw [hu'] at y3
        have x1':=hle1.2 _ _ x1
        have y1':=hle1.2 _ _ y1
        have q1:i<lr.length:=by omega
        have q2:i<lr'.length:=by omega
        simp [t2,t3,t5,b0,b1,x1',x2,x3,y1',y2,y3,q1,q2]
        refine cg_use (ltRuns_ok u u' s.lev[i] s'.lev[i] H' (hue.le hle1) (hue'.le hle1) (by have:=(hb.2.1 _ (List.getElem_mem hil)).1; omega)) ?_
        by_cases ez:s.lev[i]=s'.lev[i]
        ·simp [ez,t2,t3,t5,hw]
         exact⟨m-1,by omega,i+1,by omega,by omega,pre_add hI hil hil' ez⟩
        ·have hn:=no (p:=s.lev[i]=s'.lev[i]) (fun h=>by simp [h]) ez
         simp [ez,hn,hle1]
       have elev:s.lev=s'.lev:=pre_all hI (by omega) e2
       simp
       refine W_for (fun m t H2=>∃ i:Nat,i+m=s.sv.length/\t 2=.pt H.length 0 0/\t 3=.pt (H.length+1) 0 0/\t 6=.int .i64 i/\H2=H'/\(∀ j,j<i->s.sv[j]?=s'.sv[j]?)) s.sv.length ?_ (tC_mono AC_mono) ?_
       ·exact⟨0,by simp [t2,t3]⟩
       clear t2 t3 t5 him hq hI
       rintro m t H2 ⟨i,him,t2,t3,t6,rfl,hI⟩
       simp [t2,t3,t6,b0,b1,k3,k4,f4.slc,g4.slc]
       refine c_split (fun hq=>?_) (fun hq=>?_)<;>simp at hq
       ·have hw:=wrapN (i:=i) (by omega)
        have hil:i<s.sv.length:=by omega
        have hil':i<s'.sv.length:=by omega
        obtain⟨o1,i1,ob1,rfl,x1,x2,x3⟩:=f4.get (j:=i) (by omega)
        obtain⟨u,hu,hue,_⟩:=f5.get i (by omega) hil
        obtain⟨o2,i2,ob2,rfl,y1,y2,y3⟩:=g4.get (j:=i) (by omega)
        obtain⟨u',hu',hue',_⟩:=g5.get i (by omega) hil'
        rw [hu] at x3
        rw [hu'] at y3
        have x1':=hle1.2 _ _ x1
        have y1':=hle1.2 _ _ y1
        have q1:i<sr.length:=by omega
        have q2:i<sr'.length:=by omega
        simp [t2,t3,t6,b0,b1,x1',x2,x3,y1',y2,y3,q1,q2]
        have hsk:=ltSieve_ok (E:=E) u u' s.sv[i] s'.sv[i] H2 (hue.le hle1) (hue'.le hle1) (by have:=hb.2.2.2.2.2.1 _ (List.getElem_mem hil); omega)
        simp only [svAV] at hsk
        refine cg_use hsk ?_
        by_cases ez:s.sv[i]=s'.sv[i]
        ·simp [ez,t2,t3,t6,hw]
         exact⟨m-1,by omega,i+1,by omega,by omega,pre_add hI hil hil' ez⟩
        ·have hn:=no (p:=s.sv[i]=s'.sv[i]) (fun h=>by simp [h]) ez
         simp [ez,hn,hle1]
       have esv:s.sv=s'.sv:=pre_all hI (by omega) e3
       have es:s=s':=by
        obtain⟨z1,z2,z3,z4,z5,z6⟩:=s
        obtain⟨w1,w2,w3,w4,w5,w6⟩:=s'
        simp only at e1 elev esv e4 e5 e6
        rw [e1,elev,esv,e4,e5,e6]
       simp [es,hle1]
      ·simp [e6,no (fun h=>by rw [h]) e6,hle1]
     ·simp [e5,no (fun h=>by rw [h]) e5,hle1]
    ·simp [e4,no (fun h=>by rw [h]) e4,hle1]
   ·have e3I:¬(s.sv.length:Int)=(s'.sv.length:Int):=by omega
    simp [e3,e3I,no (fun h=>by rw [h]) e3,hle1]
  ·have e2I:¬(s.lev.length:Int)=(s'.lev.length:Int):=by omega
   simp [e2,e2I,no (fun h=>by rw [h]) e2,hle1]
 ·simp [e1,no (fun h=>by rw [h]) e1,hle1]
end Go.Proofs.YtgoeenodllmdpaaGreat.B

namespace Go.Proofs.YtgoeenodllmdpaaGreat.B
open Go.RowKit
set_option linter.unusedVariables false
set_option linter.unusedSimpArgs false
end Go.Proofs.YtgoeenodllmdpaaGreat.B

namespace Go.Proofs.YtgoeenodllmdpaaGreat.B
open Go.RowKit Go.Proofs
set_option linter.unusedVariables false
set_option linter.unusedSimpArgs false
variable {E:Env}
theorem St.frE {S:Nat->Prop} {e:Nat} {H H':Hp} {v:AV} {s:Sr} (h:St H v s) (hf:Fr S H H') (he:e≠1/\e≠4/\e≠5) (hS:∀ y ob,S y->H.at y=some ob->ob.esz=e):St H' v s:=by
 obtain⟨a,b,c,d,lr,sr,e0,h1,h2,h3,h4,h5,h6⟩:=h
 have n:∀ {k:Nat},e≠k->∀ y ob,S y->H.at y=some ob->ob.esz≠k:=fun hk y ob hy ho=>by rw [hS y ob hy ho]; exact hk
 exact⟨a,b,c,d,lr,sr,e0,Rows.frz h1 hf (n he.2.1),Rows.frz h2 hf (n he.1),All2.mono (fun _ _ ⟨u,k1,k2⟩=>⟨u,k1,Rows.frz k2 hf (n he.2.1)⟩) h3,Rows.frz h4 hf (n he.2.2),All2.mono (fun _ _ ⟨u,k1,k2,k3⟩=>⟨u,k1,Rows.frz k2 hf (n he.1),k3⟩) h5,Rows.frz h6 hf (n he.1)⟩
end Go.Proofs.YtgoeenodllmdpaaGreat.B

namespace Go.Proofs.YtgoeenodllmdpaaGreat.B
open Go.RowKit Go.Proofs
set_option linter.unusedVariables false
set_option linter.unusedSimpArgs false
variable {E:Env}
def DrawnP (H H':Hp) (v:AV):Prop:=∃ w dv s ds,v=.tu [w,dv]/\HLe H H'/\St H' w s/\StB s/\Dds H' dv ds/\ds.length<=41/\(∀ d∈ds,d.key.size<=5)/\Spl s
theorem DrawPastDo_ok (c:AV) (bs:List Int) (H:Hp) (hc:Bytes H c bs) (hn:bs.length<4611686018427387904) :
  AC Tryz.prog E 26 [c] H (fun v H'=>DrawnP H H' v):=by
 refine AC_by fol (tC_le tab2_ok) h_spec_DrawPastDo ?_
 obtain⟨H1,hH1⟩:∃ H1:Hp,H1=H++[some ⟨[[.nils,.nils,.nils,.int .i64 0,.int .i64 0,.nils]],6,28,false⟩]:=⟨_,rfl⟩
 have hle1:HLe H H1:=by rw [hH1]; exact HLe.self _ _
 have b1:H1.at H.length=some ⟨[[.nils,.nils,.nils,.int .i64 0,.int .i64 0,.nils]],6,28,false⟩:=by rw [hH1]; simp
 simp [c_spec_DrawPastDo,<- hH1]
 refine cg_ex (l6Open_ok c bs H1 ⟨hc.1.le hle1,hc.2⟩ hn) ?_
 rintro v H2 ⟨r,rfl,ho,hle2,hr2⟩
 have hol:=hr2.lt
 have lH:H.length<H1.length:=Hp.at_lt b1
 have b2:=hle2.2 _ _ b1
 simp
 refine cg_ex (l71Spoilt_ok r 0 H2 hr2 (by omega)) ?_
 rintro w H3 ⟨s,hs,hsb,hsp,hd3,hr3⟩
 obtain⟨xa,xb,xc,xd,hw,n1,n2,n3,n4,_⟩:=hs.shape
 have hw':=hw
 subst hw'
 have b3:=hd3.2 _ _ (show ¬H.length=r by omega) b2
 obtain⟨H4,hH4⟩:∃ H4:Hp,H4=H3++[some ⟨[[xa,xb,xc,.int .i64 s.keep,.int .i64 s.time,xd]],6,28,false⟩]:=⟨_,rfl⟩
 have hle4:HLe H3 H4:=by rw [hH4]; exact HLe.self _ _
 have c4:H4.at H3.length=some ⟨[[xa,xb,xc,.int .i64 s.keep,.int .i64 s.time,xd]],6,28,false⟩:=by rw [hH4]; simp
 have b4:=hle4.2 _ _ b3
 have hr4:=hr3.le hle4
 have e2:∀ {K:Hp} {M:Nat},Rd K r M->∀ x ob,x=r->K.at x=some ob->ob.esz=2:=by
  intro K M hr x ob hx ho
  obtain⟨b,bs,p,h1,_⟩:=hr
  rw [hx,h1] at ho
  cases ho
  rfl
 have hle14:HLe H H4:=((hle1.trans hle2).fr_le hd3 (fun x hx=>by omega)).trans hle4
 have l34:=Hp.at_lt c4
 have l3:=hd3.len
 simp [stAV,n1,n2,n3,n4,<- hH4]
 refine cg_ex (l71Deeds_ok r _ 20 H4 hr4 (by omega) (by omega)) ?_
 rintro dv H5 ⟨ds,hds,hdl,hdk,hd5,hr5⟩
 have b5:=hd5.2 _ _ (show ¬H.length=r by omega) b4
 have c5:=hd5.2 _ _ (show ¬H3.length=r by omega) c4
 have hs5:=(hs.le hle4).frE hd5 (e:=2) (by simp) (e2 hr4)
 have hle15:=hle14.fr_le hd5 (fun x hx=>by omega)
 simp
 refine cg_ex (pick_ok r _ 24 H5 hr5 (by omega) (by omega)) ?_
 rintro v H6 ⟨z,rfl,hz,hd6,hr6,hlen6⟩
 have b6:=hd6.2 _ _ (show ¬H.length=r by omega) b5
 have c6:=hd6.2 _ _ (show ¬H3.length=r by omega) c5
 have hs6:=hs5.frE hd6 (e:=2) (by simp) (e2 hr5)
 have hle16:=hle15.fr_le hd6 (fun x hx=>by omega)
 have hds6:=OwnM.dr hr5 hds (by decide) hd6
 have fin:∀ {K:Hp} {dv':AV} {ds':List Dd},HLe H6 K->Dds K dv' ds'->ds'.length<=41->(∀ d∈ds',d.key.size<=5) ->
   DrawnP H (List.set K H.length (some ⟨[[xa,xb,xc,.int .i64 s.keep,.int .i64 s.time,xd]],6,28,false⟩)) (.tu [.ag [xa,xb,xc,.int .i64 s.keep,.int .i64 s.time,xd],dv']):=by
  intro K dv' ds' hK hd h1 h2
  have F:=Fr.one K H.length (some ⟨[[xa,xb,xc,.int .i64 s.keep,.int .i64 s.time,xd]],6,28,false⟩)
  have hS:∀ y ob,y=H.length->K.at y=some ob->ob.esz=6:=fun y ob hy ho=>by
   rw [hy,hK.2 _ _ b6] at ho
   cases ho
   rfl
  exact⟨_,dv',s,ds',rfl,(hle16.trans hK).fr_le F (fun x hx=>by omega),(hs6.le hK).frE F (e:=6) (by simp) hS,hsb,Rows.frz hd F (fun y ob hy ho=>by rw [hS y ob hy ho]; simp),h1,h2,hsp⟩
 simp
 refine c_split (fun hq=>?_) (fun hq=>?_)<;>simp at hq
 ·obtain⟨R,hR⟩:∃ R:List (List AV),R=List.replicate 41 [.int .i64 0,.str ⟨#[]⟩,.int .i64 0]:=⟨_,rfl⟩
  obtain⟨K,hK⟩:∃ K:Hp,K=H6++[some ⟨R,3,47,false⟩]:=⟨_,rfl⟩
  have hleM:HLe H6 K:=by rw [hK]; exact HLe.self _ _
  have bM:=hleM.2 _ _ b6
  have cM:=hleM.2 _ _ c6
  have uM:=Hp.at_lt bM
  have dM:K.at H6.length=some ⟨R,3,47,false⟩:=by rw [hK]; simp
  simp [-List.reduceReplicate,<- hR,<- hK,cM,bM,n1,n2,n3,n4,uM,Hp.at_set]
  refine fin (ds':=List.replicate 41 ⟨0,⟨#[]⟩,0⟩) hleM ?_ (by simp) (fun d hd=>by rw [(List.mem_replicate.1 hd).2]; exact Nat.zero_le _)
  have:R=(List.replicate 41 (⟨0,⟨#[]⟩,0⟩:Dd)).map ddRow:=by rw [hR,List.map_replicate]; rfl
  rw [this] at dM
  exact Own.rows (ety:=47) (Own.obj dM (by simp))
 ·have u6:=Hp.at_lt b6
  simp [c6,b6,n1,n2,n3,n4,u6,Hp.at_set]
  exact fin (HLe.refl _) hds6.rows (by omega) hdk
end Go.Proofs.YtgoeenodllmdpaaGreat.B

namespace Go.Proofs.YtgoeenodllmdpaaGreat.B
open Go.RowKit Go.Proofs
set_option linter.unusedVariables false
set_option linter.unusedSimpArgs false
variable {E:Env}
end Go.Proofs.YtgoeenodllmdpaaGreat.B

namespace Go.Proofs.YtgoeenodllmdpaaGreat.B
open Go.RowKit Go.Proofs
set_option linter.unusedVariables false
set_option linter.unusedSimpArgs false
variable {E:Env}
def sNil:Sr:=⟨[],[],[],0,0,[]⟩
theorem sNil_B:StB sNil:=⟨⟨by simp [sNil],by simp [sNil,Fits]⟩,by simp [sNil],by simp [sNil],by simp [sNil],by simp [sNil],by simp [sNil],by simp [sNil,I64],by simp [sNil,I64],by simp [sNil]⟩
theorem St.box {H K:Hp} {a b c d:AV} {s:Sr} (h:St H (.ag [a,b,c,.int .i64 s.keep,.int .i64 s.time,d]) s) (hK:K=H++[some ⟨[[a,b,c,.int .i64 s.keep,.int .i64 s.time,d]],6,28,false⟩]) :
  HLe H K/\K.at H.length=some ⟨[[a,b,c,.int .i64 s.keep,.int .i64 s.time,d]],6,28,false⟩/\St K (.ag [a,b,c,.int .i64 s.keep,.int .i64 s.time,d]) s:=by
 have hle:HLe H K:=by rw [hK]; exact HLe.self _ _
 exact⟨hle,by rw [hK]; simp,h.le hle⟩
theorem ltStore_same {v v':AV} {s:Sr} {H:Hp} (hs:St H v s) (hs':St H v' s) (hb:StB s):AC Tryz.prog E 29 [v,v'] H (fun u H'=>u=.bool true/\H'=H) :=
 (ltStore_ok v v' s s H hs hs' hb hb).mono (fun u H' h=>⟨by rw [h.1]; simp,h.2⟩)
end Go.Proofs.YtgoeenodllmdpaaGreat.B

namespace Go.Proofs.YtgoeenodllmdpaaGreat.B
open Go.RowKit Go.Proofs
set_option linter.unusedVariables false
set_option linter.unusedSimpArgs false
variable {E:Env}
theorem St.put6 {H K:Hp} {o:Nat} {a b c d:AV} {s:Sr} {R:List (List AV)} (hle:HLe H K) (ho:H.length<=o) (hb:K.at o=some ⟨R,6,28,false⟩) (hs:St K (.ag [a,b,c,.int .i64 s.keep,.int .i64 s.time,d]) s) (X:Option Ob) :
  HLe H (List.set K o X)/\St (List.set K o X) (.ag [a,b,c,.int .i64 s.keep,.int .i64 s.time,d]) s:=by
 have F:=Fr.one K o X
 refine⟨hle.fr_le F (fun x hx=>by omega),hs.frE F (e:=6) (by simp) (fun y ob hy hob=>?_)⟩
 rw [hy,hb] at hob
 cases hob
 rfl
def DrawnS (H H':Hp) (v:AV):Prop:=∃ s,HLe H H'/\St H' v s/\StB s/\Spl s
theorem DrawStoreHold_ok (c:AV) (bs:List Int) (H:Hp) (hc:Bytes H c bs) (hn:bs.length<4611686018427387904) :
  AC Tryz.prog E 25 [c] H (fun v H'=>DrawnS H H' v):=by
 refine AC_by fol (tC_le tab2_ok) h_spec_DrawStoreHold ?_
 obtain⟨H1,hH1⟩:∃ H1:Hp,H1=H++[some ⟨[[.nils,.nils,.nils,.int .i64 0,.int .i64 0,.nils]],6,28,false⟩]:=⟨_,rfl⟩
 have hle1:HLe H H1:=by rw [hH1]; exact HLe.self _ _
 have b1:H1.at H.length=some ⟨[[.nils,.nils,.nils,.int .i64 0,.int .i64 0,.nils]],6,28,false⟩:=by rw [hH1]; simp
 simp [c_spec_DrawStoreHold,<- hH1]
 refine cg_ex (l6Open_ok c bs H1 ⟨hc.1.le hle1,hc.2⟩ hn) ?_
 rintro v H2 ⟨r,rfl,ho,hle2,hr2⟩
 have lH:H.length<H1.length:=Hp.at_lt b1
 have b2:=hle2.2 _ _ b1
 simp
 refine cg_ex (l71Spoilt_ok r 0 H2 hr2 (by omega)) ?_
 rintro w H3 ⟨s,hs,hsb,hsp,hd3,hr3⟩
 obtain⟨xa,xb,xc,xd,rfl,n1,n2,n3,n4,_⟩:=hs.shape
 have b3:=hd3.2 _ _ (show ¬H.length=r by omega) b2
 have u3:=Hp.at_lt b3
 have hle3:HLe H H3:=(hle1.trans hle2).fr_le hd3 (fun x hx=>by omega)
 simp [n1,n2,n3,n4,b3,u3,Hp.at_set]
 obtain⟨z1,z2⟩:=hs.put6 hle3 (Nat.le_refl _) b3 (some ⟨[[xa,xb,xc,.int .i64 s.keep,.int .i64 s.time,xd]],6,28,false⟩)
 exact⟨s,z1,z2,hsb,hsp⟩
end Go.Proofs.YtgoeenodllmdpaaGreat.B

namespace Go.Proofs.YtgoeenodllmdpaaGreat.B
open Go.RowKit Go.Proofs
set_option linter.unusedVariables false
set_option linter.unusedSimpArgs false
variable {E:Env}
def RetV (H0 H:Hp) (u:AV) (s:Sr) (o:Option Sr):Prop:=HLe H0 H/\StB (o.getD sNil)/\∃ a b c d,u=.tu [.ag [a,b,c,.int .i64 (o.getD sNil).keep,.int .i64 (o.getD sNil).time,d],.int .i64 (if o.isSome=true then s.time else 0),.bool o.isSome]/\one a=true/\one b=true/\one c=true/\one d=true/\St H (.ag [a,b,c,.int .i64 (o.getD sNil).keep,.int .i64 (o.getD sNil).time,d]) (o.getD sNil)
theorem RetH.vl {H0 H:Hp} {u:AV} {s:Sr} {o:Option Sr} (h:RetH H0 H u s o) (hb:∀ x,o=some x->Small x):RetV H0 H u s o:=by
 obtain⟨h1,h2⟩:=h
 cases o with
 | none=>exact⟨h1,sNil_B,.nils,.nils,.nils,.nils,h2,rfl,rfl,rfl,rfl,.nils,.nils,.nils,.nils,[],[],rfl,Rows.nil,Rows.nil,trivial,Rows.nil,trivial,Rows.nil⟩
 | some x =>
  obtain⟨w,e,hm⟩:=h2
  obtain⟨a,b,c,d,rfl,n1,n2,n3,n4,_⟩:=hm.st.shape
  exact⟨h1,(hb x rfl).stB,a,b,c,d,e,n1,n2,n3,n4,hm.st⟩
theorem RetHQ.vl {H0 H:Hp} {u:AV} {s:Sr} {o:Option Sr} (h:RetHQ H0 H u s o) (hb:∀ x,o=some x->Small x):RetV H0 H u s o:=by
 obtain⟨h1,h2⟩:=h
 refine RetH.vl ⟨h1,?_⟩ hb
 cases o with
 | none=>exact h2
 | some x =>
  obtain⟨w,e,hm,hq⟩:=h2
  exact⟨w,e,hm⟩
end Go.Proofs.YtgoeenodllmdpaaGreat.B

namespace Go.Proofs.YtgoeenodllmdpaaGreat.B
open Go.RowKit Go.Proofs
set_option linter.unusedVariables false
set_option linter.unusedSimpArgs false
variable {E:Env}
end Go.Proofs.YtgoeenodllmdpaaGreat.B

namespace Go.Proofs.YtgoeenodllmdpaaGreat.B
open Go.RowKit Go.Proofs
set_option linter.unusedVariables false
set_option linter.unusedSimpArgs false
variable {E:Env}
end Go.Proofs.YtgoeenodllmdpaaGreat.B

namespace Go.Proofs.YtgoeenodllmdpaaGreat.B
open Go.RowKit Go.Proofs
set_option linter.unusedVariables false
set_option linter.unusedSimpArgs false
variable {E:Env}
end Go.Proofs.YtgoeenodllmdpaaGreat.B

namespace Go.Proofs.YtgoeenodllmdpaaGreat.B
open Go.RowKit Go.Proofs
set_option linter.unusedVariables false
set_option linter.unusedSimpArgs false
variable {E:Env}
end Go.Proofs.YtgoeenodllmdpaaGreat.B

namespace Go.Proofs.YtgoeenodllmdpaaGreat.B
open Go.RowKit Go.Proofs
set_option linter.unusedVariables false
set_option linter.unusedSimpArgs false
variable {E:Env}
theorem RetF.vl {H0 H:Hp} {u:AV} {o:Option Sr} (h:RetF H0 H u o) (hb:∀ x,o=some x->Small x):HLe H0 H/\StB (o.getD sNil)/\∃ a b c d,u=.tu [.ag [a,b,c,.int .i64 (o.getD sNil).keep,.int .i64 (o.getD sNil).time,d],.bool o.isSome]/\one a=true/\one b=true/\one c=true/\one d=true/\St H (.ag [a,b,c,.int .i64 (o.getD sNil).keep,.int .i64 (o.getD sNil).time,d]) (o.getD sNil):=by
 obtain⟨h1,h2⟩:=h
 cases o with
 | none=>exact⟨h1,sNil_B,.nils,.nils,.nils,.nils,h2,rfl,rfl,rfl,rfl,.nils,.nils,.nils,.nils,[],[],rfl,Rows.nil,Rows.nil,trivial,Rows.nil,trivial,Rows.nil⟩
 | some x =>
  obtain⟨w,e,hm⟩:=h2
  obtain⟨a,b,c,d,rfl,n1,n2,n3,n4,_⟩:=hm.st.shape
  exact⟨h1,(hb x rfl).stB,a,b,c,d,e,n1,n2,n3,n4,hm.st⟩
end Go.Proofs.YtgoeenodllmdpaaGreat.B

namespace Go.Proofs.YtgoeenodllmdpaaGreat.B
open Go.RowKit Go.Proofs
set_option linter.unusedVariables false
set_option linter.unusedSimpArgs false
variable {E:Env}
def notFree (ds:List Dd):List Dd:=ds.filter (fun d=>!decide (d.kind=4))
theorem notFree_step {ds:List Dd} {i:Nat} (hi:i<ds.length):notFree (ds.take (i+1))=if ds[i].kind=4 then notFree (ds.take i) else notFree (ds.take i)++[ds[i]]:=by
 rw [List.take_succ_eq_append_getElem hi,notFree,List.filter_append]
 by_cases h:ds[i].kind=4<;>simp [h,notFree]
theorem notFree_len (ds:List Dd):(notFree ds).length<=ds.length:=List.length_filter_le _ _
def LfI (H8:Hp) (dv:AV) (ds:List Dd) (tm:Int) (L5 L11:Nat) (m:Nat) (t:Tm) (K:Hp):Prop:=∃ (i:Nat) (u:AV),i+m=ds.length/\t 5=.pt L5 0 0/\t 7=dv/\t 11=.pt L11 0 0/\t 12=.int .i64 tm/\t 14=u/\t 15=.int .i64 i/\HLe H8 K/\OwnD H8 K u (notFree (ds.take i))
set_option maxHeartbeats 3200000 in
theorem lawStoreHoldPut_ok (c c2:AV) (bs bs2:List Int) (H:Hp) (hc:Bytes H c bs) (hn:bs.length<4611686018427387904) (hc2:Bytes H c2 bs2) (hn2:bs2.length<4611686018427387904) :
  AC Tryz.prog E 5 [c,c2] H (fun v H'=>v=.bool true):=by
 refine AC_by fol (tC_le tabJ_ok) h_laws_FnStoreHoldPut ?_
 have l1:=hc.len
 have l2:=hc2.len
 simp [c_laws_FnStoreHoldPut,l1,l2,hc.1.slc,hc2.1.slc]
 by_cases q1:1048576<bs.length
 ·have q1I:(1048576:Int)<bs.length:=by omega
  simp [q1,q1I]
 by_cases q2:1048576<bs2.length
 ·have q1I:¬(1048576:Int)<bs.length:=by omega
  have q2I:(1048576:Int)<bs2.length:=by omega
  simp [q1,q1I,q2,q2I,l2,hc2.1.slc]
 have q1I:¬(1048576:Int)<bs.length:=by omega
 have q2I:¬(1048576:Int)<bs2.length:=by omega
 simp [q1,q1I,q2,q2I,l2,hc2.1.slc]
 refine cg_ex (DrawStoreHold_ok c bs H hc hn) ?_
 rintro v H1 ⟨s,hle1,hs,hsb,hsp⟩
 obtain⟨xa,xb,xc,xd,rfl,n1,n2,n3,n4,_⟩:=hs.shape
 obtain⟨H2,hH2⟩:∃ H2:Hp,H2=H1++[some ⟨[[xa,xb,xc,.int .i64 s.keep,.int .i64 s.time,xd]],6,28,false⟩]:=⟨_,rfl⟩
 obtain⟨hle2,b2,hs2⟩:=St.box hs hH2
 simp [n1,n2,n3,n4,<- hH2]
 refine cg_ex (DrawPastDo_ok c2 bs2 H2 ⟨hc2.1.le (hle1.trans hle2),hc2.2⟩ hn2) ?_
 rintro v H2b ⟨w0,dv,s0,ds,rfl,hle2b,hs0,_,hds,hdl,hdk,_⟩
 obtain⟨va,vb,vc,vd,rfl,k1,k2,k3,k4,_⟩:=hs0.shape
 obtain⟨H3,hH3⟩:∃ H3:Hp,H3=H2b++[some ⟨[[va,vb,vc,.int .i64 s0.keep,.int .i64 s0.time,vd]],6,28,false⟩]:=⟨_,rfl⟩
 have hle3:HLe H2b H3:=by rw [hH3]; exact HLe.self _ _
 have h23:=hle2b.trans hle3
 have b3:=h23.2 _ _ b2
 have hs3:=hs2.le h23
 have hds3:Dds H3 dv ds:=Rows.le hds hle3
 have hsm:∀ x,holdR s=some x->Small x:=fun x hx=>hold_small hx
 simp [k1,k2,k3,k4,<- hH3,b3]
 refine cg_ex (StoreHold_ok _ s H3 hs3 hsb) ?_
 intro v H4 hret
 obtain⟨hle4,hob,ya,yb,yc,yd,rfl,m1,m2,m3,m4,hy⟩:=hret.vl hsm
 obtain⟨x,hx⟩:∃ x,x=(holdR s).getD sNil:=⟨_,rfl⟩
 obtain⟨tm,htm⟩:∃ tm:Int,tm=if (holdR s).isSome=true then s.time else 0:=⟨_,rfl⟩
 rw [<- hx] at hob hy ⊢
 rw [<- htm]
 obtain⟨H5,hH5⟩:∃ H5:Hp,H5=H4++[some ⟨[[ya,yb,yc,.int .i64 x.keep,.int .i64 x.time,yd]],6,28,false⟩]:=⟨_,rfl⟩
 obtain⟨hle5,c5,hy5⟩:=St.box hy hH5
 have h35:=hle4.trans hle5
 have b5:=h35.2 _ _ b3
 have hs5:=hs3.le h35
 simp [m1,m2,m3,m4,<- hH5,b5]
 refine cg_ex (implHold_ok _ s H5 hs5 hsb) ?_
 intro v H6 hret6
 obtain⟨hle6,_,za,zb,zc,zd,rfl,p1,p2,p3,p4,hz⟩:=hret6.vl hsm
 rw [<- hx] at hz ⊢
 rw [<- htm]
 obtain⟨H7,hH7⟩:∃ H7:Hp,H7=H6++[some ⟨[[za,zb,zc,.int .i64 x.keep,.int .i64 x.time,zd]],6,28,false⟩]:=⟨_,rfl⟩
 obtain⟨hle7,d7,hz7⟩:=St.box hz hH7
 have h57:=hle6.trans hle7
 have b7:=h57.2 _ _ b5
 have c7:=h57.2 _ _ c5
 have hy7:=hy5.le h57
 have hs7:=hs5.le h57
 have hds7:Dds H7 dv ds:=Rows.le hds3 (h35.trans h57)
 simp [p1,p2,p3,p4,<- hH7,d7,c7]
 refine cg_use (ltStore_same hz7 hy7 hob) ?_
 cases ho:holdR s with
 | none =>
  simp [d7,c7]
  refine cg_use (ltStore_same hz7 hy7 hob) ?_
  simp
 | some x' =>
  have hxx:x=x':=by rw [hx,ho]; rfl
  rw [<- hxx] at ho
  have htm2:tm=s.time:=by rw [htm,ho]; rfl
  have hval:=hsp.val (by
   unfold holdR at ho
   split at ho
   ·assumption
   ·cases ho)
  have hlen:lenV dv=.int .i64 ds.length:=by simpa using Rows.len hds7
  have hslc:slC dv:=Rows.slc hds7
  obtain⟨H8,hH8⟩:∃ H8:Hp,H8=H7++[some ⟨[],3,47,false⟩]:=⟨_,rfl⟩
  have hle8:HLe H7 H8:=by rw [hH8]; exact HLe.self _ _
  have hlit:OwnD H7 H8 (.sl H7.length 0 0) []:=by rw [hH8]; exact OwnM.lit0 (HLe.refl _)
  simp [<- hH8]
  refine W_for (LfI H7 dv ds tm H1.length H6.length) ds.length ?_ (tC_mono AC_mono) ?_
  ·exact⟨0,_,by omega,by simp,by simp,by simp,by simp,by simp,by simp,hle8,hlit⟩
  rintro m t K ⟨i,u,him,t5,t7,t11,t12,t14,t15,hle,hu⟩
  simp [t5,t7,t11,t12,t14,t15,hlen,hslc]
  refine c_split (fun hq=>?_) (fun hq=>?_)<;>simp at hq
  ·have hwi:=wrapN (i:=i) (by omega)
   obtain⟨o1,i1,ob1,rfl,a1,a2,a3⟩:=Dds.get hds7 hq
   have a1K:=hle.2 _ _ a1
   have hst:=notFree_step hq
   have hfl:=notFree_len (ds.take i)
   rw [List.length_take] at hfl
   simp [t5,t7,t11,t12,t14,t15,a1K,a2,a3,hq]
   by_cases hk4:ds[i].kind=4
   ·rw [if_pos hk4] at hst
    simp [hk4,t5,t7,t11,t12,t14,t15,hwi]
    exact⟨m-1,by omega,i+1,u,by omega,by simp [t5],by simp [t7],by simp [t11],by simp [t12],by simp [t14],by simp,hle,by rw [hst]; exact hu⟩
   ·rw [if_neg hk4] at hst
    simp [hk4,t5,t7,t11,t12,t14,t15,a1K,a2,a3,hq]
    refine appG_add (y:=ds[i]) (row:=ddRow) (bytes:=32) (H0:=H7) hu hle (by omega) rfl (fun v2 K2 g1 g2 g3 g4=>?_)
    simp [t5,t7,t11,t12,t14,t15,hwi]
    exact⟨m-1,by omega,i+1,v2,by omega,by simp [t5],by simp [t7],by simp [t11],by simp [t12],by simp,by simp,g1,by rw [hst]; exact g2⟩
  ·have:i=ds.length:=by omega
   subst this
   rw [List.take_length] at hu
   have dK:=hle.2 _ _ d7
   have bK:=hle.2 _ _ b7
   have hzK:=hz7.le hle
   have hsK:=hs7.le hle
   simp [t5,t7,t11,t12,t14,dK]
   refine cg_ex (implPastDo_ok _ u x (notFree ds) K hzK hob hu.rows (fun d hd=>by have:=hdk d (List.mem_filter.1 hd).1; omega)) ?_
   intro v G hret9
   obtain⟨hleG,hyb,wa,wb,wc,wd,rfl,r1,r2,r3,r4,hw⟩:=hret9.vl (fun y hy=>pastR_small hy)
   obtain⟨y,hyd⟩:∃ y,y=(pastR x (notFree ds)).getD sNil:=⟨_,rfl⟩
   rw [<- hyd] at hyb hw ⊢
   obtain⟨G1,hG1⟩:∃ G1:Hp,G1=G++[some ⟨[[wa,wb,wc,.int .i64 y.keep,.int .i64 y.time,wd]],6,28,false⟩]:=⟨_,rfl⟩
   obtain⟨hleG1,e1,hw1⟩:=St.box hw hG1
   have hKG:=hleG.trans hleG1
   have bG:=hKG.2 _ _ bK
   have hsG:=hsK.le hKG
   simp [r1,r2,r3,r4,<- hG1]
   cases hp:pastR x (notFree ds) with
   | none=>simp
   | some y' =>
    have hyy:y=y':=by rw [hyd,hp]; rfl
    rw [<- hyy] at hp
    obtain⟨hvy,hsame⟩:=hold_put hval ho (fun d hd=>by have:=(List.mem_filter.1 hd).2; simpa using this) hp
    obtain⟨G2,hG2⟩:∃ G:Hp,G=G1++[some ⟨[[.int .i64 tm]],1,3,false⟩]:=⟨_,rfl⟩
    have hleG2:HLe G1 G2:=by rw [hG2]; exact HLe.self _ _
    have tG:G2.at G1.length=some ⟨[[.int .i64 tm]],1,3,false⟩:=by rw [hG2]; simp
    have hyt:Ints G2 (.sl G1.length 0 1) [tm]:=Rows.whole tG
    have e2:=hleG2.2 _ _ e1
    have bG2:=hleG2.2 _ _ bG
    simp [e1,bG,t5,t12,<- hG2]
    refine cg_ex (ltPast_ok _ _ _ y s [tm] G2 (hw1.le hleG2) (hsG.le hleG2) hyb hsb (fun _=>hvy) (fun _=>hval) hyt (by simp) (fun t ht=>by rw [List.mem_singleton.1 ht,htm2]; exact hsame)) ?_
    rintro v G3 ⟨rfl,hleG3⟩
    simp
end Go.Proofs.YtgoeenodllmdpaaGreat.B

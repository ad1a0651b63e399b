/- A part of the proof: Stores that are as they must be; what deeds leave of what is found, in plain Lean. The program finds a key in a store. What is got of a store, in plain Lean: the newest entry of its key. The program's deeds, as function values. The program's store functions: a change of a copy. The reference's stores: deeds are done. The program's store functions. The reference's stores: the past. The program's deeds and its past. The program's past. What is found of a store that deeds have made is what they put last, in plain Lean. The program finds what was put last. The program's past, alone and with what is written; a new store. The reference's draws: deeds. The reference's stores: a new one. The reference's draws: stores. The reference's draws: stores. Stores that are drawn, and spoilt; runs and stores are compared. Stores that are spoilt. Stores are compared. Stores are compared, whole. What changes nothing may be left out, in plain Lean. Deeds that change something. A store and deeds are drawn. Stores, keys and values that are drawn. The law FnStorePutOther. The law FnPastIdle. The reference's past with what is written. Pasts that are drawn. The law FnPastGetTop. The forks of keys of which only the beginnings are kept, in plain Lean. The kept parts of a sieve, in plain Lean: where branches lead lies behind them; their texts. The program's kept parts of a sieve. The program's sieve is valid: its bits are few, its parts' texts are keys. The program's kept parts of a valid sieve, as a whole. Whether a sieve may have keys between two. A sieve that has a key between two meets them, in plain Lean. Strings that are sorted in place: memory. A contract of the library at this program. slices.Sort of strings, out of its contract in the library. There is no condition. -/
import Derived.Sort.Row
import Derived.Sort.Grow
import Derived.Sort.EncStr
import Derived.Shelf.SortM.Plain
import Derived.Shelf.SortM.SortNone
import Derived.Ground.SlgmProg
import Derived.Ground.NamesProg
import Derived.Test.YtepeokaplbbpoaaGreatProg
import Derived.Test.YtepeokaplbbpoaaGreatM0
import Derived.Test.YtepeokaplbbpoaaGreatM1
import Derived.Test.YtepeokaplbbpoaaGreatM2
import Derived.Test.YtepeokaplbbpoaaGreatM3
import Derived.Test.YtepeokaplbbpoaaGreatM4
namespace Go.Proofs.YtepeokaplbbpoaaGreat.B
open Go.RowKit
set_option linter.unusedVariables false
set_option linter.unusedSimpArgs false
def entsR (s:Sr):List Ent:=s.top++s.lev.flatten
structure V (s:Sr) (a b c:List Ent) (u v w:Sv):Prop where
 lev:s.lev=[a,b,c]
 sv:s.sv=[u,v,w]
 keep:0<=s.keep/\s.keep<=5
 time:0<=s.time/\s.time<=999
 tms:timesR s.tms s.time=true
 top:runOk s.top=true
 top4:s.top.length<=4
 la:LvOk s.keep 0 a u
 lb:LvOk s.keep 1 b v
 lc:LvOk s.keep 2 c w
 ta:Newer s.top (a++(b++c))
 ab:Newer a (b++c)
 bc:Newer b c
 late:∀ e∈s.top++(a++(b++c)),e.time<=s.time
def Val (s:Sr):Prop:=∃ a b c u v w,V s a b c u v w
theorem entsR_of {s:Sr} {a b c:List Ent} (h:s.lev=[a,b,c]):entsR s=s.top++(a++(b++c)):=by
 unfold entsR
 rw [h]
 simp
section
variable {s x:Sr} {a b c:List Ent} {u v w:Sv}
theorem V.ok (h:V s a b c u v w):storeOk s=true:=by
 rw [<- storeI_eq]
 obtain⟨lev,sv,keep,time,tms,top,top4,la,lb,lc,ta,ab,bc,late⟩:=h
 have hl:∀ (up:List Ent),(∀ e∈up,e∈s.top++(a++(b++c)))->lateI s.time up=false:=fun up hu=>(lateI_iff _ _).2 (fun e he=>late e (hu e he))
 simp only [storeI,headI,okI,aboveI,lev,sv,List.getD_cons_zero,List.getD_cons_succ,List.take_zero,List.take_succ_cons,List.flatten_nil,List.flatten_cons,List.append_nil,List.length_cons,List.length_nil,Bool.and_eq_true,decide_eq_true_eq,Bool.not_eq_true']
 refine⟨⟨⟨⟨⟨⟨⟨⟨trivial,trivial⟩,top⟩,top4⟩,time⟩,tms⟩,⟨⟨⟨la.run,la.len⟩,la.sv⟩,?_⟩,?_⟩,⟨⟨⟨lb.run,lb.len⟩,lb.sv⟩,?_⟩,?_⟩,⟨⟨⟨lc.run,lc.len⟩,lc.sv⟩,?_⟩,?_⟩
 ·exact (newerI_iff _ _).2 (fun x hx y hy=>ta x hx y (by simp [hy]))
 ·exact hl _ (fun e he=>by simp [he])
 ·refine (newerI_iff _ _).2 (fun x hx y hy=>?_)
  rcases List.mem_append.1 hx with h | h
  ·exact ta x h y (by simp [hy])
  ·exact ab x h y (by simp [hy])
 ·exact hl _ (fun e he=>by rcases List.mem_append.1 he with h | h<;>simp [h])
 ·refine (newerI_iff _ _).2 (fun x hx y hy=>?_)
  rcases List.mem_append.1 hx with h | h
  ·exact ta x h y (by simp [hy])
  ·rcases List.mem_append.1 h with h | h
   ·exact ab x h y (by simp [hy])
   ·exact bc x h y hy
 ·refine hl _ (fun e he=>?_)
  rcases List.mem_append.1 he with h | h
  ·simp [h]
  ·rcases List.mem_append.1 h with h | h<;>simp [h]
theorem V.fine (h:V s a b c u v w):Fine s.top a/\Fine a b/\Fine b c:=by
 have:=store_fine h.ok
 rw [h.lev] at this
 exact this
def Found (s x:Sr):Prop:=∀ t,(t∈s.tms\/t=s.time)->Seen t (entsR s) (entsR x)
theorem V.look (h:V s a b c u v w) {t:Int} (ht:t∈s.tms\/t=s.time) {l:List Ent} (hl:∀ x∈l,x∈s.top++(a++(b++c))):Look s.tms l t :=
 ht.imp id (fun e x hx=>by rw [e]; exact h.late x (hl x hx))
theorem down_V (h:V s a b c u v w) (hx:downR s=some x):Val x/\x.top=[]/\x.time=s.time/\x.keep=s.keep/\x.tms=s.tms/\(∀ e∈entsR x,e∈entsR s)/\Found s x:=by
 obtain⟨f0,f1,f2⟩:=h.fine
 have hx':intoR 2 { s with top:=[] } s.top=some x:=hx
 have tb:Newer s.top b:=h.ta.sub (fun _ h=>h) (fun y hy=>by simp [hy])
 have tc:Newer s.top c:=h.ta.sub (fun _ h=>h) (fun y hy=>by simp [hy])
 have ac:Newer a c:=h.ab.sub (fun _ h=>h) (fun y hy=>by simp [hy])
 obtain⟨a',b',c',u',v',w',rfl,k1,k2,k3,k4,k5,k6,k7⟩:=into2 (s:={ s with top:=[] }) h.lev h.sv f0 f1 f2 tb tc ac h.lb h.lc hx'
 have hen:entsR { s with top:=[],lev:=[a',b',c'],sv:=[u',v',w'] }=a'++(b'++c'):=by
  rw [entsR_of rfl]
  rfl
 have hes:=entsR_of h.lev
 refine⟨⟨a',b',c',u',v',w',rfl,rfl,h.keep,h.time,h.tms,runOk_nil,Nat.zero_le _,k1,k2,k3,fun x hx=>(by cases hx),k4,k5,fun e he=>h.late e (k6 e (by simpa using he))⟩,rfl,rfl,rfl,rfl,fun e he=>?_,fun t ht=>?_⟩
 ·rw [hen] at he
  rw [hes]
  exact k6 e he
 ·rw [hen,hes]
  exact k7 t (h.look ht (fun _ h=>h))
theorem hold_V (h:V s a b c u v w) (hx:holdR s=some x):V x a b c u v w/\x.top=s.top/\x.lev=s.lev/\x.time=s.time/\x.keep=s.keep/\(x.tms=s.tms\/x.tms=s.tms++[s.time])/\s.time∈x.tms:=by
 have ho:=h.ok
 rw [<- holdI_eq ho] at hx
 have hx2:=hx
 rw [holdI_eq ho] at hx2
 unfold holdI at hx
 by_cases hm:s.time∈s.tms
 ·rw [if_pos hm] at hx
  injection hx with hx
  subst hx
  exact⟨h,rfl,rfl,rfl,rfl,.inl rfl,hm⟩
 ·rw [if_neg hm] at hx
  split at hx
  ·injection hx with hx
   subst hx
   have hg:¬s.tms.getLast?=some s.time:=fun e=>hm (List.mem_of_getLast? e)
   have ht:timesR (s.tms++[s.time]) s.time=true:=by
    cases hc:timesR (s.tms++[s.time]) s.time with
    | true=>rfl
    | false =>
     unfold holdR at hx2
     rw [if_pos ho,if_neg hg] at hx2
     simp only at hx2
     rw [hc,if_neg (by decide)] at hx2
     cases hx2
   exact⟨⟨h.lev,h.sv,h.keep,h.time,ht,h.top,h.top4,h.la,h.lb,h.lc,h.ta,h.ab,h.bc,h.late⟩,rfl,rfl,rfl,rfl,.inr rfl,by simp⟩
  ·cases hx
theorem free_V {n:Int} (h:V s a b c u v w) (hx:freeR s n=some x):V x a b c u v w/\x.top=s.top/\x.lev=s.lev/\x.time=s.time/\x.keep=s.keep/\x.tms=s.tms.filter (fun y=>!decide (y=n)):=by
 unfold freeR at hx
 rw [if_pos h.ok] at hx
 simp only at hx
 split at hx
 ·cases hx
 ·injection hx with hx
  subst hx
  have ht:timesR (s.tms.filter (fun y=>!decide (y=n))) s.time=true:=by
   have:=h.tms
   simp only [timesR,Bool.and_eq_true,decide_eq_true_eq] at this ⊢
   rw [asc1_iff] at this ⊢
   refine⟨⟨fun t ht=>?_,this.1.2.sublist List.filter_sublist⟩,Nat.le_trans (List.length_filter_le _ _) this.2⟩
   exact this.1.1 t (List.mem_filter.1 ht).1
  exact⟨⟨h.lev,h.sv,h.keep,h.time,ht,h.top,h.top4,h.la,h.lb,h.lc,h.ta,h.ab,h.bc,h.late⟩,rfl,rfl,rfl,rfl,rfl⟩
theorem join_V {l:Int} (h:V s a b c u v w) (hx:joinR s l=some x):Val x/\x.top=s.top/\x.time=s.time/\x.keep=s.keep/\x.tms=s.tms/\(∀ e∈entsR x,e∈entsR s)/\Found s x:=by
 obtain⟨f0,f1,f2⟩:=h.fine
 have hes:=entsR_of h.lev
 unfold joinR at hx
 split at hx
 case isFalse=>cases hx
 rename_i hl
 obtain⟨i,hi,rfl⟩:∃ i:Nat,i<=1/\l=i:=⟨l.toNat,by omega,by omega⟩
 rw [show ((i:Nat):Int).toNat=i by omega] at hx
 obtain⟨x0,hx0⟩:=setR_nil h.keep i
 have hset:=hx0 s rfl
 obtain⟨v0,he,hv0,-⟩:=setR_some hset
 have hxv:x0=v0:=by
  have:=congrArg Sr.sv he
  simp only at this
  have h1:(s.sv.set i x0)[i]?=(s.sv.set i v0)[i]?:=congrArg (fun q=>q[i]?) this
  rw [List.getElem?_set_self (by rw [h.sv]; simp; omega),List.getElem?_set_self (by rw [h.sv]; simp; omega)] at h1
  exact Option.some.inj h1
 rw [hset] at hx
 simp only at hx
 have tb:Newer s.top b:=h.ta.sub (fun _ h=>h) (fun y hy=>by simp [hy])
 have tc:Newer s.top c:=h.ta.sub (fun _ h=>h) (fun y hy=>by simp [hy])
 have ta:Newer s.top a:=h.ta.sub (fun _ h=>h) (fun y hy=>by simp [hy])
 have ac:Newer a c:=h.ab.sub (fun _ h=>h) (fun y hy=>by simp [hy])
 have nil0:LvOk s.keep i [] x0:=⟨runOk_nil,Nat.zero_le _,by rw [hxv]; exact hv0⟩
 have hcase:i=0\/i=1:=by omega
 rcases hcase with rfl | rfl
 ·rw [h.lev,h.sv] at hx
  obtain⟨b',c',v',w',rfl,k2,k3,k5,-,k6,k7⟩:=into1 (s:={ s with lev:=[[],b,c],sv:=[x0,v,w] }) rfl rfl f1 f2 ac h.lc hx
  have hsub:∀ y∈b'++c',y∈a++(b++c):=k6
  have hen:entsR { s with lev:=[[],b',c'],sv:=[x0,v',w'] }=s.top++(b'++c'):=by
   rw [entsR_of rfl]
   rfl
  refine⟨⟨[],b',c',x0,v',w',rfl,rfl,h.keep,h.time,h.tms,h.top,h.top4,nil0,k2,k3,h.ta.sub (fun _ h=>h) (fun y hy=>hsub y hy),fun x hx=>(by cases hx),k5,fun e he=>h.late e ?_⟩,rfl,rfl,rfl,rfl,fun e he=>?_,fun t ht=>?_⟩
  ·rcases List.mem_append.1 he with g | g
   ·exact List.mem_append_left _ g
   ·exact List.mem_append_right _ (hsub e g)
  ·rw [hen] at he
   rw [hes]
   rcases List.mem_append.1 he with g | g
   ·exact List.mem_append_left _ g
   ·exact List.mem_append_right _ (hsub e g)
  ·rw [hen,hes]
   exact Seen.left h.ta (h.ta.sub (fun _ h=>h) hsub) (k7 t (h.look ht (fun y hy=>List.mem_append_right _ hy)))
 ·rw [h.lev,h.sv] at hx
  obtain⟨c',w',rfl,k3,k6,k7⟩:=into0 (s:={ s with lev:=[a,[],c],sv:=[u,x0,w] }) rfl rfl f2 hx
  have hsub:∀ y∈c',y∈b++c:=k6
  have hsub2:∀ y∈a++c',y∈a++(b++c):=fun y hy=>by
   rcases List.mem_append.1 hy with g | g
   ·exact List.mem_append_left _ g
   ·exact List.mem_append_right _ (hsub y g)
  have hen:entsR { s with lev:=[a,[],c'],sv:=[u,x0,w'] }=s.top++(a++c'):=by
   rw [entsR_of rfl]
   rfl
  refine⟨⟨a,[],c',u,x0,w',rfl,rfl,h.keep,h.time,h.tms,h.top,h.top4,h.la,nil0,k3,h.ta.sub (fun _ h=>h) hsub2,h.ab.sub (fun _ h=>h) hsub,fun x hx=>(by cases hx),fun e he=>h.late e ?_⟩,rfl,rfl,rfl,rfl,fun e he=>?_,fun t ht=>?_⟩
  ·rcases List.mem_append.1 he with g | g
   ·exact List.mem_append_left _ g
   ·exact List.mem_append_right _ (hsub2 e g)
  ·rw [hen] at he
   rw [hes]
   rcases List.mem_append.1 he with g | g
   ·exact List.mem_append_left _ g
   ·exact List.mem_append_right _ (hsub2 e g)
  ·rw [hen,hes]
   have e1:Seen t (a++(b++c)) (a++c'):=Seen.left h.ab (h.ab.sub (fun _ h=>h) hsub) (k7 t (h.look ht (fun y hy=>List.mem_append_right _ (List.mem_append_right _ hy))))
   exact Seen.left h.ta (h.ta.sub (fun _ h=>h) hsub2) e1
theorem timesR_mono {ts:List Int} {n m:Int} (h:timesR ts n=true) (hnm:n<=m):timesR ts m=true:=by
 simp only [timesR,Bool.and_eq_true,decide_eq_true_eq] at h ⊢
 rw [asc1_iff] at h ⊢
 refine⟨⟨fun t ht=>?_,h.1.2⟩,h.2⟩
 obtain⟨h1,h2,h3⟩:=h.1.1 t ht
 exact⟨h1,by omega,h3⟩
theorem add_V {e:Ent} (h:V s a b c u v w) (he:e.time=s.time+1) (hx:addR s e=some x):Val x/\x.time=s.time+1/\x.keep=s.keep/\x.tms=s.tms/\entOk e=true/\∃ y,Found s y/\(∀ z∈entsR y,z∈entsR s)/\∀ z,z∈entsR x↔z=e\/z∈entsR y:=by
 unfold addR at hx
 split at hx
 case isFalse=>cases hx
 rename_i hc
 simp only [Bool.and_eq_true] at hc
 have hek:=hc.2
 have key:∀ {y:Sr},Val y->y.top.length<=3->y.time=s.time->y.keep=s.keep->y.tms=s.tms->(∀ z∈entsR y,z∈entsR s)->Found s y->x={ y with top:=joinL [e] y.top,time:=e.time } ->
   Val x/\x.time=s.time+1/\x.keep=s.keep/\x.tms=s.tms/\entOk e=true/\∃ y,Found s y/\(∀ z∈entsR y,z∈entsR s)/\∀ z,z∈entsR x↔z=e\/z∈entsR y:=by
  rintro y ⟨a',b',c',u',v',w',hy⟩ h3 ht hkp htm hsub hfd rfl
  have hty:=entOk_time hek
  have hnew:Newer [e] (y.top++(a'++(b'++c'))):=fun p hp q hq _=>by
   rw [List.mem_singleton.1 hp]
   have:=hy.late q hq
   omega
  have hf:Fine [e] y.top:=fine_of (runOk_one hek) hy.top (hnew.sub (fun _ h=>h) (fun q hq=>by simp [hq])) (by simp; omega)
  have hmem:∀ z,z∈joinL [e] y.top↔z=e\/z∈y.top:=fun z=>by rw [joinL_iff]; simp
  have hey:=entsR_of hy.lev
  have hex:entsR { y with top:=joinL [e] y.top,time:=e.time }=joinL [e] y.top++(a'++(b'++c')):=entsR_of hy.lev
  refine⟨⟨a',b',c',u',v',w',hy.lev,hy.sv,hy.keep,⟨by simp only; omega,hty.2⟩,timesR_mono hy.tms (by simp only; omega),hf.run,?_,hy.la,hy.lb,hy.lc,?_,hy.ab,hy.bc,?_⟩,he,hkp,htm,hek,y,hfd,hsub,fun z=>?_⟩
  ·simp only
   rw [(joinL_perm y.top [e]).length_eq]
   simp
   omega
  ·intro p hp q hq hpq
   rcases (hmem p).1 hp with rfl | hp
   ·exact hnew p (by simp) q (List.mem_append_right _ hq) hpq
   ·exact hy.ta p hp q hq hpq
  ·intro z hz
   simp only
   rcases List.mem_append.1 hz with g | g
   ·rcases (hmem z).1 g with rfl | g
    ·exact Int.le_refl _
    ·have:=hy.late z (List.mem_append_left _ g)
     omega
   ·have:=hy.late z (List.mem_append_right _ g)
    omega
  ·rw [hex,hey]
   simp only [List.mem_append,hmem]
   exact or_assoc
 by_cases h4:4<=s.top.length
 ·rw [if_pos h4] at hx
  cases hd:downR s with
  | none=>rw [hd] at hx; cases hx
  | some y =>
   rw [hd] at hx
   injection hx with hx
   obtain⟨k1,k2,k3,k4,k5,k6,k7⟩:=down_V h hd
   exact key k1 (by rw [k2]; simp) k3 k4 k5 k6 k7 hx.symm
 ·rw [if_neg h4] at hx
  injection hx with hx
  exact key ⟨a,b,c,u,v,w,h⟩ (by omega) rfl rfl rfl (fun _ h=>h) (fun t _=>(Same.refl t _).seen) hx.symm
theorem do_V {d:Dd} (h:V s a b c u v w) (hx:doR s d=some x):Val x:=by
 unfold doR at hx
 split at hx
 ·exact (add_V h rfl hx).1
 split at hx
 ·exact (add_V h rfl hx).1
 split at hx
 ·exact⟨a,b,c,u,v,w,(hold_V h hx).1⟩
 split at hx
 ·exact⟨a,b,c,u,v,w,(free_V h hx).1⟩
 split at hx
 ·unfold letR at hx
  rw [if_pos h.ok] at hx
  exact (down_V h hx).1
 split at hx
 ·exact (join_V h hx).1
 ·cases hx
theorem doAll_V:∀ (ds:List Dd) {s:Sr},Val s->Val (doAll s ds)
 | [],s,h=>h
 | d :: ds,s,h=>by
  have e:doAll s (d :: ds)=doAll ((doR s d).getD s) ds:=rfl
  rw [e]
  refine doAll_V ds ?_
  cases hd:doR s d with
  | none=>exact h
  | some x =>
   obtain⟨a,b,c,u,v,w,hv⟩:=h
   exact do_V hv hd
theorem sieveR_nil (k:Int):sieveR [] k=⟨⟨#[]⟩,⟨#[]⟩,⟨#[]⟩,[],k⟩:=by
 have h:brs 0 []=[]:=by rw [brs]
 unfold sieveR
 rw [show (500:Nat)=499+1 from rfl,bfs,h]
 show bfs 499 ([]++subs 0 []) _=_
 rw [show ([]++subs 0 []:List Fk)=[] from rfl]
 rfl
theorem newR_V {k:Int} (h:newR k=some s):Val s:=by
 unfold newR at h
 split at h
 ·rename_i hk
  injection h with h
  subst h
  have hn:∀ i,LvOk k i [] ⟨⟨#[]⟩,⟨#[]⟩,⟨#[]⟩,[],k⟩:=fun i=>⟨runOk_nil,Nat.zero_le _,by
   rw [sieveO,if_pos ⟨by decide,hk⟩]
   exact congrArg some (sieveR_nil k)⟩
  exact⟨[],[],[],_,_,_,rfl,rfl,hk,⟨Int.le_refl 0,show (0:Int)<=999 by decide⟩,show timesR [] 0=true by decide,runOk_nil,Nat.zero_le _,hn 0,hn 1,hn 2,fun x hx=>(by cases hx),fun x hx=>(by cases hx),fun x hx=>(by cases hx),fun e he=>by simp at he⟩
 ·cases h
end
end Go.Proofs.YtepeokaplbbpoaaGreat.B

namespace Go.Proofs.YtepeokaplbbpoaaGreat.B
open Go.RowKit Go.Proofs
set_option linter.unusedVariables false
set_option linter.unusedSimpArgs false
variable {E:Env}
theorem Svt.of {ks:List ByteArray} {keep:Int} (h:keysOk ks=true) (hk:0<=keep/\keep<=5):∃ F L,Svt ks keep F L (sieveR ks keep):=by
 obtain⟨F,L,h1,h2,h3⟩:=Tr.of h keep
 exact⟨F,L,h1,h2,by omega,hk⟩
theorem sieveO_some {ks:List ByteArray} {keep:Int} {v:Sv} (h:sieveO ks keep=some v):keysOk ks=true/\0<=keep/\keep<=5/\v=sieveR ks keep:=by
 unfold sieveO at h
 split at h
 ·rename_i h1
  exact⟨h1.1,h1.2.1,h1.2.2,(Option.some.inj h).symm⟩
 ·cases h
def getR (s:Sr) (k:ByteArray) (t:Int):Option Ent:=(s.top :: s.lev).findSome? (atR k t)
theorem atR_key {k:ByteArray} {t:Int}:∀ {r:List Ent} {e:Ent},atR k t r=some e->e∈r/\e.key=k/\e.time<=t
 | [],e,h=>by cases h
 | x :: r,e,h=>by
  rw [atR] at h
  split at h
  ·rename_i h1
   obtain rfl:=Option.some.inj h
   exact⟨by simp,h1.1,h1.2⟩
  ·obtain⟨h1,h2⟩:=atR_key h
   exact⟨List.mem_cons_of_mem _ h1,h2⟩
theorem keys1_in:∀ {r:List Ent} {p:Option Ent} {e:Ent},e∈r->e.key∈keys1 p r\/∃ q,p=some q/\q.key=e.key
 | x :: r,p,e,h=>by
  have own:x.key∈keys1 p (x :: r)\/∃ q,p=some q/\q.key=x.key:=by
   rw [keys1]
   split
   ·exact .inl (by simp)
   ·rename_i hn
    cases p with
    | none=>exact absurd rfl hn
    | some q=>exact .inr ⟨q,rfl,by
      have h2:¬(!decide (q.key=x.key))=true:=hn
      simpa using h2⟩
  have sub:∀ {y:ByteArray},y∈keys1 (some x) r->y∈keys1 p (x :: r):=by
   intro y hy
   rw [keys1]
   split
   ·exact List.mem_cons_of_mem _ hy
   ·exact hy
  rcases List.mem_cons.1 h with rfl | h
  ·exact own
  ·rcases keys1_in (p:=some x) h with h1 | ⟨q,hq,hk⟩
   ·exact .inl (sub h1)
   ·obtain rfl:=Option.some.inj hq
    rw [<- hk]
    exact own
theorem keysR_mem {r:List Ent} {e:Ent} (h:e∈r):e.key∈keysR r:=by
 rcases keys1_in (p:=none) h with h | ⟨q,hq,_⟩
 ·exact h
 ·cases hq
theorem hidden {l:List Ent} {keep:Int} {v:Sv} {k:ByteArray} {t:Int} (h:sieveO (keysR l) keep=some v) (hh:hasR (keysR l) keep k=false):atR k t l=none:=by
 cases ha:atR k t l with
 | none=>rfl
 | some e =>
  obtain⟨h1,h2,_⟩:=atR_key ha
  obtain⟨h3,h4,h5,_⟩:=sieveO_some h
  have:=hasR_self h3 h4 (keysR_mem h1)
  rw [h2,hh] at this
  cases this
theorem storeOk_level {s:Sr} (h:storeOk s=true) {i:Nat} (hi:i<3) (hl:i<s.lev.length) (hv:i<s.sv.length):sieveO (keysR s.lev[i]) s.keep=some s.sv[i]:=by
 simp only [storeOk,Bool.and_eq_true,decide_eq_true_eq] at h
 have lv:levelOk s i=true:=by
  match i,hi with
  | 0,_=>exact h.2.1.1
  | 1,_=>exact h.2.2.1.1
  | 2,_=>exact h.2.2.2.1
 simp only [levelOk,Bool.and_eq_true,decide_eq_true_eq] at lv
 have:=lv.2
 rw [getD_get [] hl,getD_get default hv] at this
 exact this
theorem findSome_drop {α β:Type} {f:α->Option β} {l:List α} {i:Nat} (hi:i<l.length):(l.drop i).findSome? f=(f l[i]).or ((l.drop (i+1)).findSome? f):=by
 rw [List.drop_eq_getElem_cons hi,List.findSome?_cons]
 cases f l[i]<;>rfl
def FdI (s:Sr) (a b c d:AV) (k:ByteArray) (time:Int) (H:Hp) (m:Nat) (t:Tm) (H':Hp):Prop:=∃ i:Nat,i+m=3/\t 1=.str k/\t 2=.int .i64 time/\t 3=.pt H.length 0 0/\t 6=.pt (H.length+1) 0 0/\t 25=b/\t 26=.int .i64 3/\t 27=.int .i64 i/\(s.lev.drop i).findSome? (atR k time)=getR s k time/\HLe H H' /\
 H'.at H.length=some ⟨[[a,b,c,.int .i64 s.keep,.int .i64 s.time,d]],6,28,false⟩/\H'.at (H.length+1)=some ⟨[[.str ⟨#[]⟩,.int .i64 0,.bool false,.int .i64 0]],4,45,false⟩
set_option maxHeartbeats 1600000 in
theorem find_ok (v:AV) (s:Sr) (k:ByteArray) (time:Int) (H:Hp) (hs:St H v s) (hb:StB s) (ho:storeOk s=true) (hk:keyOk k=true) :
  AC Tryz.prog E 58 [v,.str k,.int .i64 time] H (fun u H'=>u=.tu (entAV (getR s k time))/\H'=H):=by
 have hst:=hs
 obtain⟨a,b,c,d,lr,sr,rfl,ha,hb1,hlr,hc,hsr,hd⟩:=hs
 obtain⟨hB1,hB2,hB3,hB4,hB5,hB6,hB7,hB8,hB9⟩:=hb
 have hsm:=storeOk_small ho
 have e3:s.lev.length=3:=hsm.2.2.2.2.2.2.2.1
 have s3:s.sv.length=3:=hsm.2.2.2.2.2.2.2.2
 have ll:=hlr.length
 have ls:=hsr.length
 have l1:=hb1.len
 rw [ll,e3] at l1
 have hplain:(AV.tu (entAV (getR s k time))).plain=true:=by unfold entAV; split<;>simp [entRow]
 refine AC_byp (tC_le tabJ_ok) h_impl_Store_find hplain ?_
 obtain⟨H1,hH1⟩:∃ H1:Hp,H1=H++[some ⟨[[a,b,c,.int .i64 s.keep,.int .i64 s.time,d]],6,28,false⟩,some ⟨[[.str ⟨#[]⟩,.int .i64 0,.bool false,.int .i64 0]],4,45,false⟩]:=⟨_,rfl⟩
 have hle1:HLe H H1:=by rw [hH1]; exact HLe.self _ _
 have b0:H1.at H.length=some ⟨[[a,b,c,.int .i64 s.keep,.int .i64 s.time,d]],6,28,false⟩:=by rw [hH1]; simp
 have b1:H1.at (H.length+1)=some ⟨[[.str ⟨#[]⟩,.int .i64 0,.bool false,.int .i64 0]],4,45,false⟩:=by rw [hH1]; simp
 have u1:=Hp.at_lt b1
 simp [c_impl_Store_find,stAV,Rows.one ha,hb1.one,hc.one,Rows.one hd,<- hH1,b0]
 refine cg_use (at_ok a s.top k time H1 (ha.le hle1) (by have:=hB1.1; omega)) ?_
 cases ht:atR k time s.top with
 | some e =>
  have hg:getR s k time=some e:=by unfold getR; rw [List.findSome?_cons,ht]
  rw [hg]
  obtain⟨ek,ev,eg,et⟩:=e
  simp [entAV,entRow,b1,u1,Hp.at_app,Hp.at_set,set_in',at_in]
  exact (hle1.set (by omega) _).app _
 | none =>
  have hg:s.lev.findSome? (atR k time)=getR s k time:=by unfold getR; rw [List.findSome?_cons,ht]
  obtain⟨G,hG⟩:∃ G:Hp,G=H1++[some ⟨[[.str ⟨#[]⟩,.int .i64 0,.bool false,.int .i64 0]],4,45,false⟩]:=⟨_,rfl⟩
  have hleG:HLe H1 G:=by rw [hG]; exact HLe.self _ _
  have g0:=hleG.2 _ _ b0
  have g1:=hleG.2 _ _ b1
  simp [entAV,entRow]
  simp only [<- hG]
  simp [g0,l1,hb1.slc]
  refine W_for (FdI s a b c d k time H) 3 ?_ (tC_mono AC_mono) ?_
  ·exact⟨0,by simp,by simp,by simp,by simp,by simp,by simp,by simp,by simp,by simpa using hg,hle1.trans hleG,g0,g1⟩
  rintro m t H' ⟨i,him,t1,t2,t3,t6,t25,t26,t27,hP,hle,c0,c1⟩
  simp [t1,t2,t3,t6,t25,t26,t27,c0]
  refine c_split (fun hq=>?_) (fun hq=>?_)<;>simp at hq
  ·have hi3:i<3:=by omega
   have hil:i<s.lev.length:=by omega
   have his:i<s.sv.length:=by omega
   have hiI:(i:Int)<3:=by omega
   have hw:=wrapN (i:=i) (by omega)
   obtain⟨o1,i1,ob1,rfl,x1,x2,x3⟩:=hb1.get (j:=i) (by omega)
   obtain⟨u,hu,hue⟩:=hlr.get i (by omega) hil
   rw [hu] at x3
   obtain⟨o2,i2,ob2,rfl,y1,y2,y3⟩:=hc.get (j:=i) (by omega)
   obtain⟨r,hr,hrs,_⟩:=hsr.get i (by omega) his
   rw [hr] at y3
   have x1':=hle.2 _ _ x1
   have y1':=hle.2 _ _ y1
   have q1:i<lr.length:=by omega
   have q2:i<sr.length:=by omega
   have hso:=storeOk_level ho hi3 hil his
   obtain⟨v1,v2,v3,v4⟩:=sieveO_some hso
   obtain⟨F,L,hsvt⟩:=Svt.of v1 ⟨v2,v3⟩
   rw [<- v4] at hsvt
   simp [t1,t2,t3,t6,t25,t26,t27,c0,x1',x2,x3,y1',y2,y3,q1,q2]
   have cH:=has_ok (E:=E) s.sv[i] r k _ _ F L H' hsvt (hrs.le hle) hk
   simp only [svAV] at cH
   refine cg_use cH ?_
   rw [findSome_drop hil] at hP
   cases hh:hasR (keysR s.lev[i]) s.keep k with
   | false =>
    rw [hidden hso hh,Option.none_or] at hP
    simp [t1,t2,t3,t6,t25,t26,t27,hw]
    exact⟨m-1,by omega,i+1,by omega,by simp [t1],by simp [t2],by simp [t3],by simp [t6],by simp [t25],by simp [t26],by simp,hP,hle,c0,c1⟩
   | true =>
    simp [t1,t2,t3,t6,t25,t26,t27]
    refine cg_use (at_ok u s.lev[i] k time H' (hue.le hle) (by have:=(hB2 _ (List.getElem_mem hil)).1; omega)) ?_
    have w1:=Hp.at_lt c1
    cases hat:atR k time s.lev[i] with
    | some e =>
     rw [hat,Option.some_or] at hP
     rw [<- hP]
     obtain⟨ek,ev,eg,et⟩:=e
     simp [entAV,entRow,t1,t2,t3,t6,t25,t26,t27,c1,w1,Hp.at_app,Hp.at_set,set_in',at_in]
     exact (hle.set (by omega) _).app _
    | none =>
     rw [hat,Option.none_or] at hP
     obtain⟨G2,hG2⟩:∃ G:Hp,G=H'++[some ⟨[[.str ⟨#[]⟩,.int .i64 0,.bool false,.int .i64 0]],4,45,false⟩]:=⟨_,rfl⟩
     have hleG2:HLe H' G2:=by rw [hG2]; exact HLe.self _ _
     simp [entAV,entRow,t1,t2,t3,t6,t25,t26,t27,hw]
     simp only [<- hG2]
     exact⟨m-1,by omega,i+1,by omega,by simp [t1],by simp [t2],by simp [t3],by simp [t6],by simp [t25],by simp [t26],by simp,hP,hle.trans hleG2,hleG2.2 _ _ c0,hleG2.2 _ _ c1⟩
  ·have:i=3:=by omega
   subst this
   rw [List.drop_of_length_le (by omega)] at hP
   rw [<- hP]
   have w1:=Hp.at_lt c1
   simp [entAV,entRow,t1,t2,t3,t6,t25,t26,t27,c1,w1,Hp.at_app,Hp.at_set,set_in',at_in]
   exact hle.set (by omega) _
def knownR (s:Sr) (t:Int):Bool:=decide (t=s.time)||decide (t∈s.tms)
theorem known_ok (v:AV) (s:Sr) (time:Int) (H:Hp) (hs:St H v s) (hb:StB s) :
  AC Tryz.prog E 54 [v,.int .i64 time] H (fun u H'=>u=.bool (knownR s time)/\H'=H):=by
 obtain⟨a,b,c,d,lr,sr,rfl,ha,hb1,hlr,hc,hsr,hd⟩:=hs
 refine AC_byp (tC_le tabJ_ok) h_impl_Store_known (by simp) ?_
 obtain⟨H1,hH1⟩:∃ H1:Hp,H1=H++[some ⟨[[a,b,c,.int .i64 s.keep,.int .i64 s.time,d]],6,28,false⟩]:=⟨_,rfl⟩
 have hle1:HLe H H1:=by rw [hH1]; exact HLe.self _ _
 have b0:H1.at H.length=some ⟨[[a,b,c,.int .i64 s.keep,.int .i64 s.time,d]],6,28,false⟩:=by rw [hH1]; simp
 simp [c_impl_Store_known,stAV,Rows.one ha,hb1.one,hc.one,Rows.one hd,<- hH1,b0]
 by_cases he:time=s.time
 ·simp [he,knownR,hle1]
 ·simp [he,b0,knownR]
  refine cg_use (ContainsI_ok d s.tms time H1 (hd.le hle1) (by have:=hb.2.2.2.2.1; omega)) ?_
  simp [hle1]
end Go.Proofs.YtepeokaplbbpoaaGreat.B

namespace Go.Proofs.YtepeokaplbbpoaaGreat.B
open Go.RowKit Go.Proofs
set_option linter.unusedVariables false
set_option linter.unusedSimpArgs false
theorem atR_none {k:ByteArray} {t:Int}:∀ {r:List Ent},atR k t r=none↔∀ x∈r,x.key=k->¬x.time<=t
 | []=>by simp [atR]
 | y :: r=>by
  rw [atR]
  by_cases h:y.key=k/\y.time<=t
  ·rw [if_pos h]
   refine⟨(fun h1=>by cases h1),fun h1=>absurd h.2 (h1 y (by simp) h.1)⟩
  ·rw [if_neg h,atR_none]
   refine⟨fun h1 x hx hk ht=>?_,fun h1 x hx=>h1 x (List.mem_cons_of_mem _ hx)⟩
   rcases List.mem_cons.1 hx with rfl | hx
   ·exact h ⟨hk,ht⟩
   ·exact h1 x hx hk ht
theorem atR_best {k:ByteArray} {t:Int}:∀ {r:List Ent},r.Pairwise (fun a b=>ahead a b=true)->∀ {e:Ent},atR k t r=some e↔Best r k t e
 | [],_,e=>by
  refine⟨(fun h=>by cases h),(fun h=>by cases h.mem)⟩
 | y :: r,hp,e=>by
  obtain⟨h1,h2⟩:=List.pairwise_cons.1 hp
  rw [atR]
  by_cases h:y.key=k/\y.time<=t
  ·rw [if_pos h]
   have hlt:∀ z∈r,z.key=k->z.time<y.time:=fun z hz hk=>by
    rcases (ahead_iff _ _).1 (h1 z hz) with h3 | h3
    ·rw [h.1,hk] at h3
     rw [sless_irrefl] at h3
     cases h3
    ·exact h3.2
   constructor
   ·intro he
    obtain rfl:=Option.some.inj he
    refine⟨by simp,h.1,h.2,fun z hz hk ht=>?_⟩
    rcases List.mem_cons.1 hz with rfl | hz
    ·exact Int.le_refl _
    ·have:=hlt z hz hk
     omega
   ·intro hb
    rcases List.mem_cons.1 hb.mem with he | he
    ·rw [he]
    ·have a1:=hlt e he hb.key
     have a2:=hb.max y (by simp) h.1 h.2
     omega
  ·rw [if_neg h,atR_best h2]
   constructor
   ·intro hb
    refine⟨List.mem_cons_of_mem _ hb.mem,hb.key,hb.le,fun z hz hk ht=>?_⟩
    rcases List.mem_cons.1 hz with rfl | hz
    ·exact absurd ⟨hk,ht⟩ h
    ·exact hb.max z hz hk ht
   ·intro hb
    rcases List.mem_cons.1 hb.mem with he | he
    ·rw [<- he] at h
     exact absurd ⟨hb.key,hb.le⟩ h
    ·exact⟨he,hb.key,hb.le,fun z hz=>hb.max z (List.mem_cons_of_mem _ hz)⟩
theorem find_best {k:ByteArray} {t:Int}:∀ {ls:List (List Ent)},(∀ l∈ls,l.Pairwise (fun a b=>ahead a b=true))->ls.Pairwise Newer->∀ {e:Ent},ls.findSome? (atR k t)=some e↔Best ls.flatten k t e
 | [],_,_,e=>by
  refine⟨(fun h=>by cases h),(fun h=>by cases h.mem)⟩
 | l :: ls,h1,h2,e=>by
  obtain⟨h3,h4⟩:=List.pairwise_cons.1 h2
  have hn:Newer l ls.flatten:=fun x hx y hy hk=>by
   obtain⟨m,hm,hy⟩:=List.mem_flatten.1 hy
   exact h3 m hm x hx y hy hk
  have ih:=find_best (k:=k) (t:=t) (fun m hm=>h1 m (List.mem_cons_of_mem _ hm)) h4 (e:=e)
  rw [List.findSome?_cons,List.flatten_cons,best_app hn,<- atR_best (h1 l (by simp)),<- ih,<- atR_none]
  cases atR k t l with
  | none=>simp
  | some x=>simp
theorem Val.best {s:Sr} (h:Val s) {k:ByteArray} {t:Int} {e:Ent}:getR s k t=some e↔Best (entsR s) k t e:=by
 obtain⟨a,b,c,u,v,w,h⟩:=h
 unfold getR
 rw [find_best]
 ·rfl
 ·intro l hl
  rw [h.lev] at hl
  simp only [List.mem_cons,List.not_mem_nil,or_false] at hl
  rcases hl with rfl | rfl | rfl | rfl
  ·exact (runOk_pair h.top).1
  ·exact (runOk_pair h.la.run).1
  ·exact (runOk_pair h.lb.run).1
  ·exact (runOk_pair h.lc.run).1
 ·rw [h.lev]
  refine List.pairwise_cons.2 ⟨fun l hl=>?_,List.pairwise_cons.2 ⟨fun l hl=>?_,List.pairwise_cons.2 ⟨fun l hl=>?_,List.pairwise_singleton _ _⟩⟩⟩
  ·refine h.ta.sub (fun _ h=>h) (fun x hx=>?_)
   simp only [List.mem_cons,List.not_mem_nil,or_false] at hl
   rcases hl with rfl | rfl | rfl<;>simp [hx]
  ·refine h.ab.sub (fun _ h=>h) (fun x hx=>?_)
   simp only [List.mem_cons,List.not_mem_nil,or_false] at hl
   rcases hl with rfl | rfl<;>simp [hx]
  ·rw [List.mem_singleton.1 hl]
   exact h.bc
theorem Val.ok {s:Sr} (h:Val s):storeOk s=true:=by
 obtain⟨a,b,c,u,v,w,h⟩:=h
 exact h.ok
theorem Val.late {s:Sr} (h:Val s):∀ e∈entsR s,e.time<=s.time:=by
 obtain⟨a,b,c,u,v,w,h⟩:=h
 rw [entsR_of h.lev]
 exact h.late
theorem Val.ent {s:Sr} (h:Val s):∀ e∈entsR s,entOk e=true:=by
 obtain⟨a,b,c,u,v,w,h⟩:=h
 rw [entsR_of h.lev]
 intro e he
 simp only [List.mem_append] at he
 rcases he with he | he | he | he
 ·exact (runOk_pair h.top).2.1 e he
 ·exact (runOk_pair h.la.run).2.1 e he
 ·exact (runOk_pair h.lb.run).2.1 e he
 ·exact (runOk_pair h.lc.run).2.1 e he
theorem known_now (s:Sr):knownR s s.time=true:=by simp [knownR]
end Go.Proofs.YtepeokaplbbpoaaGreat.B

namespace Go.Proofs.YtepeokaplbbpoaaGreat.B
open Go.RowKit Go.Proofs
set_option linter.unusedVariables false
set_option linter.unusedSimpArgs false
variable {E:Env}
theorem FreeSays_ok (c:Nat) (t x:Int) (H:Hp) (hc:H.at c=some ⟨[[.int .i64 t]],1,3,false⟩) :
  AC Tryz.prog E 84 [.int .i64 x,.pt c 0 0] H (fun v H'=>v=.bool (decide (x=t))/\H'=H):=by
 refine AC_byp (tC_le tabJ_ok) h_impl_StoreFree_1_1 (by simp) ?_
 simp [c_impl_StoreFree_1_1,hc]
theorem Free1_ok (o c:Nat) (t:Int) (s:Sr) (H0 H:Hp) (hs:PSt H0 H o s) (hle0:HLe H0 H) (hsm:Small s) (hc:H0.at c=some ⟨[[.int .i64 t]],1,3,false⟩) :
  AC Tryz.prog E 82 [.pt o 0 0,.pt c 0 0] H (fun u H'=>OpR H0 H o u H' (freeI s t)):=by
 obtain⟨ho,a,ol,os,d,b0,hm⟩:=hs
 obtain⟨p1,p2,p3⟩:=hm.parts
 have u0:=Hp.at_lt b0
 have uc:=Hp.at_lt hc
 have hc1:=hle0.2 _ _ hc
 refine AC_by fol (tC_le tabJ_ok) h_impl_StoreFree_1 ?_
 have ts3:s.tms.length<=1000:=hsm.2.2.1
 have l1:=p2.ints.len
 simp [c_impl_StoreFree_1,b0,l1,p2.ints.slc]
 refine cg_ex (DeleteI_ok d s.tms 84 [.pt c 0 0] (fun x=>decide (x=t)) H0 H p2 ts3 (fun x hx H' hF=>FreeSays_ok c t x H' (hF.2 _ _ (fun h=>by have:=p2.2 _ h; omega) hc1)) (fun x=>rfl)) ?_
 rintro v H2 ⟨g1,g2,g3⟩
 have nd:¬d.of o:=fun h=>by have:=p2.1.ety h b0; simp at this
 have b2:=g1.2 _ _ nd b0
 have u2:=Hp.at_lt b2
 have hm2:=hm.app (ts:=s.tms.filter fun x=>!decide (x=t)) g1 g2 (fun y hy=>.inl (g3 y hy))
 have l2:=g2.ints.len
 simp [b2,u2,Hp.at_set,g2.rows.one,g2.rows.cells,g2.rows.cells1,g2.ints.slc,l2]
 refine⟨(hle0.fr_le g1 (fun y hy=>p2.2 y hy)).set ho _,(g1.k4 (fun y ob hy hob=>by rw [p2.1.esz hy hob]; simp)).trans (PSt.fr4 _ b2),?_⟩
 by_cases htm:t∈s.tms
 ·have hl:(s.tms.filter fun x=>!decide (x=t)).length<s.tms.length:=by
   rw [List.length_filter_lt_length_iff_exists]
   exact⟨t,htm,by simp⟩
  rw [freeI,if_pos hl,decide_eq_true htm]
  exact⟨rfl,PSt.of (s:={ s with tms:=s.tms.filter fun x=>!decide (x=t) }) ho b2 hm2⟩
 ·have hl:¬(s.tms.filter fun x=>!decide (x=t)).length<s.tms.length:=by
   rw [List.length_filter_lt_length_iff_exists]
   rintro ⟨x,hx,hn⟩
   have:x=t:=by simpa using hn
   exact htm (this ▸ hx)
  rw [freeI,if_neg hl,decide_eq_false htm]
theorem Put1_ok (o ck cv:Nat) (k:ByteArray) (val:Int) (s:Sr) (H0 H:Hp) (hs:PSt H0 H o s) (hle0:HLe H0 H) (hsm:Small s) (ht:IntKind.i64.wrap (s.time+1)=s.time+1) (hk:k.size<4611686018427387904) (h1:H0.at ck=some ⟨[[.str k]],1,9,false⟩) (h2:H0.at cv=some ⟨[[.int .i64 val]],1,3,false⟩) :
  AC Tryz.prog E 81 [.pt o 0 0,.pt ck 0 0,.pt cv 0 0] H (fun u H'=>OpR H0 H o u H' (writeI s ⟨k,val,false,s.time+1⟩)):=by
 have e1:=hle0.2 _ _ h1
 have e2:=hle0.2 _ _ h2
 refine AC_by fol (tC_le tabJ_ok) h_impl_StorePut_1 ?_
 simp [c_impl_StorePut_1,e1,e2]
 refine cg_ex (write_ok o k val false 0 s H0 H hs hle0 hsm ht hk) ?_
 rintro v H2 hr
 simp
 exact hr
theorem Take1_ok (o ck:Nat) (k:ByteArray) (s:Sr) (H0 H:Hp) (hs:PSt H0 H o s) (hle0:HLe H0 H) (hsm:Small s) (ht:IntKind.i64.wrap (s.time+1)=s.time+1) (hk:k.size<4611686018427387904) (h1:H0.at ck=some ⟨[[.str k]],1,9,false⟩) :
  AC Tryz.prog E 79 [.pt o 0 0,.pt ck 0 0] H (fun u H'=>OpR H0 H o u H' (writeI s ⟨k,0,true,s.time+1⟩)):=by
 have e1:=hle0.2 _ _ h1
 refine AC_by fol (tC_le tabJ_ok) h_impl_StoreTake_1 ?_
 simp [c_impl_StoreTake_1,e1]
 refine cg_ex (write_ok o k 0 true 0 s H0 H hs hle0 hsm ht hk) ?_
 rintro v H2 hr
 simp
 exact hr
theorem Join1_ok (o c:Nat) (l:Int) (s:Sr) (H0 H:Hp) (hs:PSt H0 H o s) (hle0:HLe H0 H) (hsm:Small s) (hc:H0.at c=some ⟨[[.int .i64 l]],1,3,false⟩) :
  AC Tryz.prog E 63 [.pt o 0 0,.pt c 0 0] H (fun u H'=>OpR H0 H o u H' (joinSI s l)):=by
 obtain⟨a,ol,os,d,obl,b0,p1,p2,k1,k2,k3⟩:=hs.parts
 have hc1:=hle0.2 _ _ hc
 refine AC_by fol (tC_le tabJ_ok) h_impl_StoreJoin_1 ?_
 simp [c_impl_StoreJoin_1,hc1,b0]
 by_cases h:0<=l/\l<=1
 ·obtain⟨i,rfl⟩:∃ i:Nat,l=i:=⟨l.toNat,by omega⟩
  have hi:i<=1:=by omega
  obtain⟨u,ku,hu⟩:=k3 i (by omega)
  have hi3:i<3:=by omega
  have hiI:(i:Int)<3:=by omega
  have hi1:(i:Int)<=1:=h.2
  have hsl:=hsm.lv i
  have hw:IntKind.i64.wrap ((i:Int)+1)=((2-(1-i):Nat):Int):=by
   rw [wrapN (by omega)]
   congr 1
   omega
  have hdef:joinSI s i=(pushI (1-i) s (s.lev.getD i [])).bind fun x=>setR x i []:=by
   rw [joinSI,if_pos h]
   rfl
  rw [hdef]
  obtain⟨ll,hll⟩:∃ ll,ll=s.lev.getD i []:=⟨_,rfl⟩
  rw [<- hll] at hu hsl ⊢
  simp [hi1,b0,hc1,k1,k2,ku,hiI,hi3,hw]
  refine cg_ex (pushP_ok o (1-i) (by omega) u s ll H0 H hs hle0 hu hsl hsm) ?_
  rintro v H2 ⟨q1,q2,q3⟩
  cases hp:pushI (1-i) s ll with
  | none =>
   rw [hp] at q3
   obtain rfl:=q3
   simp
   exact⟨q1,q2,rfl⟩
  | some x =>
   rw [hp] at q3
   obtain⟨rfl,hx⟩:=q3
   have hc2:=q1.2 _ _ hc
   simp [hc2]
   refine cg_ex (put_ok o i .nils x [] H0 H2 hx q1 (.inl ⟨rfl,rfl⟩) ⟨by simp,fun e he=>by cases he⟩ hi3 (fun y hy=>hy.elim) (fun y hy=>hy.elim)) ?_
   rintro v H3 ⟨y1,y2,y3⟩
   cases hr:setR x i [] with
   | some z =>
    rw [hr] at y3
    obtain⟨rfl,hz⟩:=y3
    simp
    exact⟨y1,q2.trans y2,rfl,hz⟩
   | none =>
    rw [hr] at y3
    obtain⟨rfl,hz⟩:=y3
    simp
    exact⟨y1,q2.trans y2,rfl⟩
 ·have hf:(decide (0<=l)&&decide (l<=1))=false:=by
   rw [<- Bool.not_eq_true,Bool.and_eq_true,decide_eq_true_iff,decide_eq_true_iff]
   exact h
  simp [hf]
  exact⟨hle0,K4.refl _,by rw [joinSI,if_neg h]⟩
end Go.Proofs.YtepeokaplbbpoaaGreat.B

namespace Go.Proofs.YtepeokaplbbpoaaGreat.B
open Go.RowKit Go.Proofs
set_option linter.unusedVariables false
set_option linter.unusedSimpArgs false
variable {E:Env}
def RetQ (H0 H:Hp) (u:AV) (o:Option Sr):Prop:=HLe H0 H/\match o with
 | some x=>∃ w,u=.tu [w,.bool true]/\MSt H0 H w x/\FarS H0.length H w x
 | none=>u=.tu [zst,.bool false]
theorem RetQ.ret {H0 H:Hp} {u:AV} {o:Option Sr} (h:RetQ H0 H u o):RetS H0 H u o:=by
 obtain⟨h1,h2⟩:=h
 cases o with
 | none=>exact⟨h1,h2⟩
 | some x =>
  obtain⟨w,e,hm,_⟩:=h2
  exact⟨h1,w,e,hm⟩
theorem RetQ.shape {H0 H:Hp} {u:AV} {o:Option Sr} (h:RetQ H0 H u o):∃ a b c k t d,u=.tu [.ag [a,b,c,k,t,d],.bool o.isSome]/\one a=true/\one b=true/\one c=true/\one k=true/\one t=true/\one d=true:=h.ret.shape
theorem RetQ.fin {S:Nat->Prop} {H0 H1 H2 H3:Hp} {u:AV} {o:Option Sr} (h:RetQ H1 H2 u o) (hle:HLe H0 H1) (hf:Fr S H2 H3) (hS:∀ x ob,S x->H2.at x=some ob->ob.esz=6) (hS2:∀ x,S x->H0.length<=x):RetQ H0 H3 u o:=by
 obtain⟨h1,h2⟩:=h
 refine⟨(hle.trans h1).fr_le hf hS2,?_⟩
 cases o with
 | none=>exact h2
 | some x =>
  obtain⟨w,e,hm,hq⟩:=h2
  exact⟨w,e,(hm.fr hf hS).base hle.1,(hq.fr hf (fun y hy=>.inr (fun ob ho=>hS y ob hy ho))).base hle.1⟩
def okThen (s:Sr) (r:Option Sr):Option Sr:=if storeOk s=true then r else none
set_option maxHeartbeats 1600000 in
theorem changed_ok (v:AV) (f:Nat) (caps:List AV) (s:Sr) (r:Option Sr) (H:Hp) (hs:St H v s) (hb:StB s) (hg:∀ x,tabJ f (.pt x 0 0 :: caps)=none)
  (hf:storeOk s=true->∀ o B G,HLe H B->PSt B G o s->HLe B G->AC Tryz.prog E f (.pt o 0 0 :: caps) G (fun u H'=>OpR B G o u H' r)) (hx:storeOk s=true->∀ x,r=some x->Small x) :
  AC Tryz.prog E 49 [v,.fn f caps] H (fun u H'=>RetQ H H' u (okThen s r)):=by
 have hs0:=hs
 obtain⟨a,b,c,d,rfl,n1,n2,n3,n4,hea,hed⟩:=hs.shape
 refine AC_by fol (tC_le tabJ_ok) h_impl_changed ?_
 obtain⟨H1,hH1⟩:∃ H1:Hp,H1=H++[some ⟨[[a,b,c,.int .i64 s.keep,.int .i64 s.time,d]],6,28,false⟩,some ⟨[[.nils,.nils,.nils,.int .i64 0,.int .i64 0,.nils]],6,28,false⟩]:=⟨_,rfl⟩
 have hle1:HLe H H1:=by rw [hH1]; exact HLe.self _ _
 have b0:H1.at H.length=some ⟨[[a,b,c,.int .i64 s.keep,.int .i64 s.time,d]],6,28,false⟩:=by rw [hH1]; simp
 have b1:H1.at (H.length+1)=some ⟨[[.nils,.nils,.nils,.int .i64 0,.int .i64 0,.nils]],6,28,false⟩:=by rw [hH1]; simp
 have hl1:H1.length=H.length+2:=by rw [hH1]; simp
 have u1:=Hp.at_lt b1
 simp [c_impl_changed,n1,n2,n3,n4,<- hH1,b0]
 refine cg_use (implStoreOk_ok _ s H1 (hs0.le hle1) hb) ?_
 cases hso:storeOk s with
 | false =>
  simp [b1,Hp.at_set,u1,okThen,hso,RetQ]
  exact hle1.set (by omega) _
 | true =>
 have hsm:=storeOk_small hso
 simp [b0]
 refine cg_ex (clone_ok _ s H1 (hs0.le hle1) hb hsm.2.2.2.2.2.2.2.1 hsm.2.2.2.2.2.2.2.2) ?_
 rintro v2 H2 ⟨hle2,hm2,-⟩
 obtain⟨xa,xl,xs,xd,rfl,xn1,xn2,xdi⟩:=hm2.shape
 have b12:=hle2.2 _ _ b1
 obtain⟨G,hG⟩:∃ G:Hp,G=H2++[some ⟨[[xa,.sl xl 0 3,.sl xs 0 3,.int .i64 s.keep,.int .i64 s.time,xd]],6,28,false⟩]:=⟨_,rfl⟩
 have hleG:HLe H2 G:=by rw [hG]; exact HLe.self _ _
 have bG:G.at H2.length=some ⟨[[xa,.sl xl 0 3,.sl xs 0 3,.int .i64 s.keep,.int .i64 s.time,xd]],6,28,false⟩:=by rw [hG]; simp
 simp [xn1,xn2,<- hG]
 have hps:PSt H1 G H2.length s:=⟨hle2.1,_,_,_,_,bG,hm2.le hleG⟩
 refine cg_ex (hf hso H2.length H1 G hle1 hps (hle2.trans hleG)) ?_ (hg _)
 rintro u H3 ⟨q1,q2,q3⟩
 have b3:=q1.2 _ _ b1
 have u3:=Hp.at_lt b3
 cases r with
 | none =>
  obtain rfl:=q3
  simp [b3,u3,Hp.at_set,okThen,hso,RetQ]
  exact (hle1.trans q1).set (by omega) _
 | some x =>
  obtain⟨rfl,hx3⟩:=q3
  have hsx:=hx hso x rfl
  obtain⟨ho,ya,yl,ys,yd,bo,hmx⟩:=hx3
  have p:=hmx.parts
  simp [b3,bo,p.1.rows.one,p.2.1.rows.one]
  refine cg_ex (clone_ok _ x H3 hmx.st hsx.stB hsx.2.2.2.2.2.2.2.1 hsx.2.2.2.2.2.2.2.2) ?_
  rintro v4 H4 ⟨hle4,hm4,hq4⟩
  obtain⟨za,zl,zs,zd,rfl,zn1,zn2,zdi⟩:=hm4.shape
  have b4:=hle4.2 _ _ b3
  have u4:=Hp.at_lt b4
  simp [zn1,zn2,b4,u4,Hp.at_set,okThen,hso,RetQ]
  have F:=Fr.one H4 (H.length+1) (some ⟨[[za,.sl zl 0 3,.sl zs 0 3,.int .i64 x.keep,.int .i64 x.time,zd]],6,28,false⟩)
  exact⟨((hle1.trans q1).trans hle4).set (by omega) _,(hm4.fr F (fun y ob hy ho=>by rw [hy,b4] at ho; cases ho; rfl)).base ((hle1.trans q1).1),(hq4.fr F (fun y hy=>.inr (fun ob ho=>by rw [hy,b4] at ho; cases ho; rfl))).base ((hle1.trans q1).1)⟩
end Go.Proofs.YtepeokaplbbpoaaGreat.B

namespace Go.Proofs.YtepeokaplbbpoaaGreat.B
open Go.RowKit Go.Proofs
set_option linter.unusedVariables false
set_option linter.unusedSimpArgs false
variable {E:Env}
theorem RetH.toS {H0 H:Hp} {u:AV} {s:Sr} {o:Option Sr} (h:RetH H0 H u s o):∃ w n ok,u=.tu [w,n,ok]/\RetS H0 H (.tu [w,ok]) o:=by
 obtain⟨h1,h2⟩:=h
 cases o with
 | none=>exact⟨_,_,_,h2,h1,rfl⟩
 | some x =>
  obtain⟨w,e,hm⟩:=h2
  exact⟨_,_,_,e,h1,w,rfl,hm⟩
theorem l13Do_ok (v:AV) (s:Sr) (e:Dd) (H:Hp) (hs:St H v s) (hb:StB s) (hk:e.key.size<4611686018427387904) :
  AC Tryz.prog E 88 [v,ddAV e] H (fun u H'=>RetS H H' u (doR s e)):=by
 have hs0:=hs
 obtain⟨a,b,c,d,rfl,n1,n2,n3,n4,hea,hed⟩:=hs.shape
 refine AC_by fol (tC_le tab2_ok) h_spec_l13Do ?_
 obtain⟨H1,hH1⟩:∃ H1:Hp,H1=H++[some ⟨[[a,b,c,.int .i64 s.keep,.int .i64 s.time,d]],6,28,false⟩,some ⟨[[.int .i64 e.kind,.str e.key,.int .i64 e.num]],3,56,false⟩,some ⟨[[.nils,.nils,.nils,.int .i64 0,.int .i64 0,.nils]],6,28,false⟩]:=⟨_,rfl⟩
 have hle1:HLe H H1:=by rw [hH1]; exact HLe.self _ _
 have b0:H1.at H.length=some ⟨[[a,b,c,.int .i64 s.keep,.int .i64 s.time,d]],6,28,false⟩:=by rw [hH1]; simp
 have b1:H1.at (H.length+1)=some ⟨[[.int .i64 e.kind,.str e.key,.int .i64 e.num]],3,56,false⟩:=by rw [hH1]; simp
 have b2:H1.at (H.length+2)=some ⟨[[.nils,.nils,.nils,.int .i64 0,.int .i64 0,.nils]],6,28,false⟩:=by rw [hH1]; simp
 have hl1:H1.length=H.length+3:=by rw [hH1]; simp
 have u2:=Hp.at_lt b2
 have hs1:=hs0.le hle1
 simp [c_spec_l13Do,ddAV,n1,n2,n3,n4,<- hH1,b1]
 refine c_split (fun q0=>?_) (fun q0=>?_)<;>simp at q0
 ·have hd:doR s e=putR s e.key e.num:=by simp [doR,q0]
  simp [b0,b1]
  refine cg_ex (StorePut_ok _ s e.key e.num H1 hs1 hb hk) ?_
  intro v2 H2 hret
  obtain⟨xa,xb,xc,xk,xt,xd,rfl,o1,o2,o3,o4,o5,o6⟩:=hret.shape
  have b22:=hret.1.2 _ _ b2
  have u22:=Hp.at_lt b22
  simp [o1,o2,o3,o4,o5,o6,b22,Hp.at_set,u22]
  rw [hd]
  have hF:=Fr.one H2 (H.length+2) (some ⟨[[xa,xb,xc,xk,xt,xd]],6,28,false⟩)
  exact hret.fin hle1 hF (fun x ob hx ho=>by rw [hx,b22] at ho; cases ho; rfl) (fun x hx=>by rw [hx]; omega)
 simp
 refine c_split (fun q1=>?_) (fun q1=>?_)<;>simp at q1
 ·have hd:doR s e=takeR s e.key:=by simp [doR,q1]
  simp [b0,b1]
  refine cg_ex (StoreTake_ok _ s e.key H1 hs1 hb hk) ?_
  intro v2 H2 hret
  obtain⟨xa,xb,xc,xk,xt,xd,rfl,o1,o2,o3,o4,o5,o6⟩:=hret.shape
  have b22:=hret.1.2 _ _ b2
  have u22:=Hp.at_lt b22
  simp [o1,o2,o3,o4,o5,o6,b22,Hp.at_set,u22]
  rw [hd]
  have hF:=Fr.one H2 (H.length+2) (some ⟨[[xa,xb,xc,xk,xt,xd]],6,28,false⟩)
  exact hret.fin hle1 hF (fun x ob hx ho=>by rw [hx,b22] at ho; cases ho; rfl) (fun x hx=>by rw [hx]; omega)
 simp
 refine c_split (fun q2=>?_) (fun q2=>?_)<;>simp at q2
 ·have hd:doR s e=holdR s:=by simp [doR,q2]
  simp [b0,b1]
  refine cg_ex (StoreHold_ok _ s H1 hs1 hb) ?_
  intro v2 H2 hret
  obtain⟨w,n,ok,hv2,hret'⟩:=hret.toS
  subst hv2
  clear hret
  have hret:=hret'
  clear hret'
  obtain⟨xa,xb,xc,xk,xt,xd,hw,o1,o2,o3,o4,o5,o6⟩:=hret.shape
  cases hw
  have b22:=hret.1.2 _ _ b2
  have u22:=Hp.at_lt b22
  simp [o1,o2,o3,o4,o5,o6,b22,Hp.at_set,u22,Hp.at_app,set_in']
  rw [hd]
  have hF:=(Fr.one H2 (H.length+2) (some ⟨[[xa,xb,xc,xk,xt,xd]],6,28,false⟩)).app [some ⟨[[xa,xb,xc,xk,xt,xd]],6,28,false⟩]
  exact hret.fin hle1 hF (fun x ob hx ho=>by rw [hx,b22] at ho; cases ho; rfl) (fun x hx=>by rw [hx]; omega)
 simp
 refine c_split (fun q3=>?_) (fun q3=>?_)<;>simp at q3
 ·have hd:doR s e=freeR s e.num:=by simp [doR,q3]
  simp [b0,b1]
  refine cg_ex (StoreFree_ok _ s e.num H1 hs1 hb) ?_
  intro v2 H2 hret
  obtain⟨xa,xb,xc,xk,xt,xd,rfl,o1,o2,o3,o4,o5,o6⟩:=hret.shape
  have b22:=hret.1.2 _ _ b2
  have u22:=Hp.at_lt b22
  simp [o1,o2,o3,o4,o5,o6,b22,Hp.at_set,u22]
  rw [hd]
  have hF:=Fr.one H2 (H.length+2) (some ⟨[[xa,xb,xc,xk,xt,xd]],6,28,false⟩)
  exact hret.fin hle1 hF (fun x ob hx ho=>by rw [hx,b22] at ho; cases ho; rfl) (fun x hx=>by rw [hx]; omega)
 simp
 refine c_split (fun q4=>?_) (fun q4=>?_)<;>simp at q4
 ·have hd:doR s e=letR s:=by simp [doR,q4]
  simp [b0,b1]
  refine cg_ex (StoreDown_ok _ s H1 hs1 hb) ?_
  intro v2 H2 hret
  obtain⟨xa,xb,xc,xk,xt,xd,rfl,o1,o2,o3,o4,o5,o6⟩:=hret.shape
  have b22:=hret.1.2 _ _ b2
  have u22:=Hp.at_lt b22
  simp [o1,o2,o3,o4,o5,o6,b22,Hp.at_set,u22]
  rw [hd]
  have hF:=Fr.one H2 (H.length+2) (some ⟨[[xa,xb,xc,xk,xt,xd]],6,28,false⟩)
  exact hret.fin hle1 hF (fun x ob hx ho=>by rw [hx,b22] at ho; cases ho; rfl) (fun x hx=>by rw [hx]; omega)
 simp
 refine c_split (fun q5=>?_) (fun q5=>?_)<;>simp at q5
 ·have hd:doR s e=joinR s e.num:=by simp [doR,q5]
  simp [b0,b1]
  refine cg_ex (StoreJoin_ok _ s e.num H1 hs1 hb) ?_
  intro v2 H2 hret
  obtain⟨xa,xb,xc,xk,xt,xd,rfl,o1,o2,o3,o4,o5,o6⟩:=hret.shape
  have b22:=hret.1.2 _ _ b2
  have u22:=Hp.at_lt b22
  simp [o1,o2,o3,o4,o5,o6,b22,Hp.at_set,u22]
  rw [hd]
  have hF:=Fr.one H2 (H.length+2) (some ⟨[[xa,xb,xc,xk,xt,xd]],6,28,false⟩)
  exact hret.fin hle1 hF (fun x ob hx ho=>by rw [hx,b22] at ho; cases ho; rfl) (fun x hx=>by rw [hx]; omega)
 have hd:doR s e=none:=by simp [doR,q0,q1,q2,q3,q4,q5]
 simp [b2,Hp.at_set,u2,hd,RetS]
 exact hle1.set (by omega) _
end Go.Proofs.YtepeokaplbbpoaaGreat.B

namespace Go.Proofs.YtepeokaplbbpoaaGreat.B
open Go.RowKit Go.Proofs
set_option linter.unusedVariables false
set_option linter.unusedSimpArgs false
variable {E:Env}
theorem okThen_some {s x:Sr} {r:Option Sr} (h:storeOk s=true) (hr:r=some x):okThen s r=some x:=by rw [okThen,if_pos h,hr]
theorem okThen_put (s:Sr) (k:ByteArray) (v:Int):okThen s (writeI s ⟨k,v,false,s.time+1⟩)=putR s k v:=by
 unfold okThen
 split
 ·rename_i h
  rw [writeI_eq h rfl]
  rfl
 ·rename_i h
  simp [putR,addR,h]
theorem okThen_take (s:Sr) (k:ByteArray):okThen s (writeI s ⟨k,0,true,s.time+1⟩)=takeR s k:=by
 unfold okThen
 split
 ·rename_i h
  rw [writeI_eq h rfl]
  rfl
 ·rename_i h
  simp [takeR,addR,h]
theorem okThen_hold (s:Sr):okThen s (holdI s)=holdR s:=by
 unfold okThen
 split
 ·rename_i h
  rw [holdI_eq h]
 ·rename_i h
  simp [holdR,h]
theorem okThen_free (s:Sr) (t:Int):okThen s (freeI s t)=freeR s t:=by
 unfold okThen
 split
 ·rename_i h
  rw [freeI_eq h]
 ·rename_i h
  simp [freeR,h]
theorem okThen_down (s:Sr):okThen s (downI s)=letR s:=by
 unfold okThen letR
 split
 ·rename_i h
  rw [downI_eq h]
 ·rfl
theorem okThen_join (s:Sr) (l:Int):okThen s (joinSI s l)=joinR s l:=by
 unfold okThen
 split
 ·rename_i h
  rw [joinSI_eq h]
 ·rename_i h
  simp [joinR,h]
theorem put_small {s x:Sr} {k:ByteArray} {v:Int} (h:putR s k v=some x):Small x:=addR_small h
theorem take_small {s x:Sr} {k:ByteArray} (h:takeR s k=some x):Small x:=addR_small h
theorem hold_small {s x:Sr} (h:holdR s=some x):Small x:=doR_small (s:=s) (d:=⟨3,⟨#[]⟩,0⟩) (by simpa [doR] using h)
theorem free_small {s x:Sr} {t:Int} (h:freeR s t=some x):Small x:=doR_small (s:=s) (d:=⟨4,⟨#[]⟩,t⟩) (by simpa [doR] using h)
theorem let_small {s x:Sr} (h:letR s=some x):Small x:=doR_small (s:=s) (d:=⟨5,⟨#[]⟩,0⟩) (by simpa [doR] using h)
theorem join_small {s x:Sr} {l:Int} (h:joinR s l=some x):Small x:=doR_small (s:=s) (d:=⟨6,⟨#[]⟩,l⟩) (by simpa [doR] using h)
theorem implPut_ok (v:AV) (s:Sr) (k:ByteArray) (val:Int) (H:Hp) (hs:St H v s) (hb:StB s) (hk:k.size<4611686018427387904) :
  AC Tryz.prog E 31 [v,.str k,.int .i64 val] H (fun u H'=>RetQ H H' u (putR s k val)):=by
 have hs0:=hs
 obtain⟨a,b,c,d,rfl,n1,n2,n3,n4,hea,hed⟩:=hs.shape
 refine AC_by fol (tC_le tabJ_ok) h_impl_StorePut ?_
 obtain⟨H1,hH1⟩:∃ H1:Hp,H1=H++[some ⟨[[a,b,c,.int .i64 s.keep,.int .i64 s.time,d]],6,28,false⟩,some ⟨[[.str k]],1,9,false⟩,some ⟨[[.int .i64 val]],1,3,false⟩,some ⟨[[.nils,.nils,.nils,.int .i64 0,.int .i64 0,.nils]],6,28,false⟩]:=⟨_,rfl⟩
 have hle1:HLe H H1:=by rw [hH1]; exact HLe.self _ _
 have b0:H1.at H.length=some ⟨[[a,b,c,.int .i64 s.keep,.int .i64 s.time,d]],6,28,false⟩:=by rw [hH1]; simp
 have b1:H1.at (H.length+1)=some ⟨[[.str k]],1,9,false⟩:=by rw [hH1]; simp
 have b2:H1.at (H.length+2)=some ⟨[[.int .i64 val]],1,3,false⟩:=by rw [hH1]; simp
 have b3:H1.at (H.length+3)=some ⟨[[.nils,.nils,.nils,.int .i64 0,.int .i64 0,.nils]],6,28,false⟩:=by rw [hH1]; simp
 simp [c_impl_StorePut,n1,n2,n3,n4,<- hH1,b0]
 refine cg_ex (changed_ok _ 81 [.pt (H.length+1) 0 0,.pt (H.length+2) 0 0] s (writeI s ⟨k,val,false,s.time+1⟩) H1 (hs0.le hle1) hb (fun x=>rfl)
  (fun hso o B G hB hps hle=>Put1_ok o _ _ k val s B G hps hle (storeOk_small hso) (storeOk_time hso) hk (hB.2 _ _ b1) (hB.2 _ _ b2)) (fun hso x hx=>put_small ((okThen_put s k val).symm.trans (okThen_some hso hx)))) ?_
 intro v2 H2 hret
 rw [okThen_put] at hret
 obtain⟨xa,xb,xc,xk,xt,xd,rfl,o1,o2,o3,o4,o5,o6⟩:=hret.shape
 have b23:=hret.1.2 _ _ b3
 have u23:=Hp.at_lt b23
 simp [o1,o2,o3,o4,o5,o6,b23,Hp.at_set,u23]
 have hF2:=Fr.one H2 (H.length+3) (some ⟨[[xa,xb,xc,xk,xt,xd]],6,28,false⟩)
 exact hret.fin hle1 hF2 (fun x ob hx ho=>by rw [hx,b23] at ho; cases ho; rfl) (fun x hx=>by rw [hx]; omega)
theorem implTake_ok (v:AV) (s:Sr) (k:ByteArray) (H:Hp) (hs:St H v s) (hb:StB s) (hk:k.size<4611686018427387904) :
  AC Tryz.prog E 28 [v,.str k] H (fun u H'=>RetQ H H' u (takeR s k)):=by
 have hs0:=hs
 obtain⟨a,b,c,d,rfl,n1,n2,n3,n4,hea,hed⟩:=hs.shape
 refine AC_by fol (tC_le tabJ_ok) h_impl_StoreTake ?_
 obtain⟨H1,hH1⟩:∃ H1:Hp,H1=H++[some ⟨[[a,b,c,.int .i64 s.keep,.int .i64 s.time,d]],6,28,false⟩,some ⟨[[.str k]],1,9,false⟩,some ⟨[[.nils,.nils,.nils,.int .i64 0,.int .i64 0,.nils]],6,28,false⟩]:=⟨_,rfl⟩
 have hle1:HLe H H1:=by rw [hH1]; exact HLe.self _ _
 have b0:H1.at H.length=some ⟨[[a,b,c,.int .i64 s.keep,.int .i64 s.time,d]],6,28,false⟩:=by rw [hH1]; simp
 have b1:H1.at (H.length+1)=some ⟨[[.str k]],1,9,false⟩:=by rw [hH1]; simp
 have b3:H1.at (H.length+2)=some ⟨[[.nils,.nils,.nils,.int .i64 0,.int .i64 0,.nils]],6,28,false⟩:=by rw [hH1]; simp
 simp [c_impl_StoreTake,n1,n2,n3,n4,<- hH1,b0]
 refine cg_ex (changed_ok _ 79 [.pt (H.length+1) 0 0] s (writeI s ⟨k,0,true,s.time+1⟩) H1 (hs0.le hle1) hb (fun x=>rfl)
  (fun hso o B G hB hps hle=>Take1_ok o _ k s B G hps hle (storeOk_small hso) (storeOk_time hso) hk (hB.2 _ _ b1)) (fun hso x hx=>take_small ((okThen_take s k).symm.trans (okThen_some hso hx)))) ?_
 intro v2 H2 hret
 rw [okThen_take] at hret
 obtain⟨xa,xb,xc,xk,xt,xd,rfl,o1,o2,o3,o4,o5,o6⟩:=hret.shape
 have b23:=hret.1.2 _ _ b3
 have u23:=Hp.at_lt b23
 simp [o1,o2,o3,o4,o5,o6,b23,Hp.at_set,u23]
 have hF2:=Fr.one H2 (H.length+2) (some ⟨[[xa,xb,xc,xk,xt,xd]],6,28,false⟩)
 exact hret.fin hle1 hF2 (fun x ob hx ho=>by rw [hx,b23] at ho; cases ho; rfl) (fun x hx=>by rw [hx]; omega)
theorem implFree_ok (v:AV) (s:Sr) (t:Int) (H:Hp) (hs:St H v s) (hb:StB s) :
  AC Tryz.prog E 34 [v,.int .i64 t] H (fun u H'=>RetQ H H' u (freeR s t)):=by
 have hs0:=hs
 obtain⟨a,b,c,d,rfl,n1,n2,n3,n4,hea,hed⟩:=hs.shape
 refine AC_by fol (tC_le tabJ_ok) h_impl_StoreFree ?_
 obtain⟨H1,hH1⟩:∃ H1:Hp,H1=H++[some ⟨[[a,b,c,.int .i64 s.keep,.int .i64 s.time,d]],6,28,false⟩,some ⟨[[.int .i64 t]],1,3,false⟩,some ⟨[[.nils,.nils,.nils,.int .i64 0,.int .i64 0,.nils]],6,28,false⟩]:=⟨_,rfl⟩
 have hle1:HLe H H1:=by rw [hH1]; exact HLe.self _ _
 have b0:H1.at H.length=some ⟨[[a,b,c,.int .i64 s.keep,.int .i64 s.time,d]],6,28,false⟩:=by rw [hH1]; simp
 have b1:H1.at (H.length+1)=some ⟨[[.int .i64 t]],1,3,false⟩:=by rw [hH1]; simp
 have b3:H1.at (H.length+2)=some ⟨[[.nils,.nils,.nils,.int .i64 0,.int .i64 0,.nils]],6,28,false⟩:=by rw [hH1]; simp
 simp [c_impl_StoreFree,n1,n2,n3,n4,<- hH1,b0]
 refine cg_ex (changed_ok _ 82 [.pt (H.length+1) 0 0] s (freeI s t) H1 (hs0.le hle1) hb (fun x=>rfl)
  (fun hso o B G hB hps hle=>Free1_ok o _ t s B G hps hle (storeOk_small hso) (hB.2 _ _ b1)) (fun hso x hx=>free_small ((okThen_free s t).symm.trans (okThen_some hso hx)))) ?_
 intro v2 H2 hret
 rw [okThen_free] at hret
 obtain⟨xa,xb,xc,xk,xt,xd,rfl,o1,o2,o3,o4,o5,o6⟩:=hret.shape
 have b23:=hret.1.2 _ _ b3
 have u23:=Hp.at_lt b23
 simp [o1,o2,o3,o4,o5,o6,b23,Hp.at_set,u23]
 have hF2:=Fr.one H2 (H.length+2) (some ⟨[[xa,xb,xc,xk,xt,xd]],6,28,false⟩)
 exact hret.fin hle1 hF2 (fun x ob hx ho=>by rw [hx,b23] at ho; cases ho; rfl) (fun x hx=>by rw [hx]; omega)
theorem implJoin_ok (v:AV) (s:Sr) (t:Int) (H:Hp) (hs:St H v s) (hb:StB s) :
  AC Tryz.prog E 23 [v,.int .i64 t] H (fun u H'=>RetQ H H' u (joinR s t)):=by
 have hs0:=hs
 obtain⟨a,b,c,d,rfl,n1,n2,n3,n4,hea,hed⟩:=hs.shape
 refine AC_by fol (tC_le tabJ_ok) h_impl_StoreJoin ?_
 obtain⟨H1,hH1⟩:∃ H1:Hp,H1=H++[some ⟨[[a,b,c,.int .i64 s.keep,.int .i64 s.time,d]],6,28,false⟩,some ⟨[[.int .i64 t]],1,3,false⟩,some ⟨[[.nils,.nils,.nils,.int .i64 0,.int .i64 0,.nils]],6,28,false⟩]:=⟨_,rfl⟩
 have hle1:HLe H H1:=by rw [hH1]; exact HLe.self _ _
 have b0:H1.at H.length=some ⟨[[a,b,c,.int .i64 s.keep,.int .i64 s.time,d]],6,28,false⟩:=by rw [hH1]; simp
 have b1:H1.at (H.length+1)=some ⟨[[.int .i64 t]],1,3,false⟩:=by rw [hH1]; simp
 have b3:H1.at (H.length+2)=some ⟨[[.nils,.nils,.nils,.int .i64 0,.int .i64 0,.nils]],6,28,false⟩:=by rw [hH1]; simp
 simp [c_impl_StoreJoin,n1,n2,n3,n4,<- hH1,b0]
 refine cg_ex (changed_ok _ 63 [.pt (H.length+1) 0 0] s (joinSI s t) H1 (hs0.le hle1) hb (fun x=>rfl)
  (fun hso o B G hB hps hle=>Join1_ok o _ t s B G hps hle (storeOk_small hso) (hB.2 _ _ b1)) (fun hso x hx=>join_small ((okThen_join s t).symm.trans (okThen_some hso hx)))) ?_
 intro v2 H2 hret
 rw [okThen_join] at hret
 obtain⟨xa,xb,xc,xk,xt,xd,rfl,o1,o2,o3,o4,o5,o6⟩:=hret.shape
 have b23:=hret.1.2 _ _ b3
 have u23:=Hp.at_lt b23
 simp [o1,o2,o3,o4,o5,o6,b23,Hp.at_set,u23]
 have hF2:=Fr.one H2 (H.length+2) (some ⟨[[xa,xb,xc,xk,xt,xd]],6,28,false⟩)
 exact hret.fin hle1 hF2 (fun x ob hx ho=>by rw [hx,b23] at ho; cases ho; rfl) (fun x hx=>by rw [hx]; omega)
theorem implDown_ok (v:AV) (s:Sr) (H:Hp) (hs:St H v s) (hb:StB s) :
  AC Tryz.prog E 17 [v] H (fun u H'=>RetQ H H' u (letR s)):=by
 have hs0:=hs
 obtain⟨a,b,c,d,rfl,n1,n2,n3,n4,hea,hed⟩:=hs.shape
 refine AC_by fol (tC_le tabJ_ok) h_impl_StoreDown ?_
 obtain⟨H1,hH1⟩:∃ H1:Hp,H1=H++[some ⟨[[a,b,c,.int .i64 s.keep,.int .i64 s.time,d]],6,28,false⟩,some ⟨[[.nils,.nils,.nils,.int .i64 0,.int .i64 0,.nils]],6,28,false⟩]:=⟨_,rfl⟩
 have hle1:HLe H H1:=by rw [hH1]; exact HLe.self _ _
 have b0:H1.at H.length=some ⟨[[a,b,c,.int .i64 s.keep,.int .i64 s.time,d]],6,28,false⟩:=by rw [hH1]; simp
 have b3:H1.at (H.length+1)=some ⟨[[.nils,.nils,.nils,.int .i64 0,.int .i64 0,.nils]],6,28,false⟩:=by rw [hH1]; simp
 simp [c_impl_StoreDown,n1,n2,n3,n4,<- hH1,b0]
 refine cg_ex (changed_ok _ 50 [] s (downI s) H1 (hs0.le hle1) hb (fun x=>rfl)
  (fun hso o B G hB hps hle=>down_ok o s B G hps hle (storeOk_small hso)) (fun hso x hx=>let_small ((okThen_down s).symm.trans (okThen_some hso hx)))) ?_
 intro v2 H2 hret
 rw [okThen_down] at hret
 obtain⟨xa,xb,xc,xk,xt,xd,rfl,o1,o2,o3,o4,o5,o6⟩:=hret.shape
 have b23:=hret.1.2 _ _ b3
 have u23:=Hp.at_lt b23
 simp [o1,o2,o3,o4,o5,o6,b23,Hp.at_set,u23]
 have hF2:=Fr.one H2 (H.length+1) (some ⟨[[xa,xb,xc,xk,xt,xd]],6,28,false⟩)
 exact hret.fin hle1 hF2 (fun x ob hx ho=>by rw [hx,b23] at ho; cases ho; rfl) (fun x hx=>by rw [hx]; omega)
def RetHQ (H0 H:Hp) (u:AV) (s:Sr) (o:Option Sr):Prop:=HLe H0 H/\match o with
 | some x=>∃ w,u=.tu [w,.int .i64 s.time,.bool true]/\MSt H0 H w x/\FarS H0.length H w x
 | none=>u=.tu [zst,.int .i64 0,.bool false]
theorem RetHQ.toS {H0 H:Hp} {u:AV} {s:Sr} {o:Option Sr} (h:RetHQ H0 H u s o):∃ w n ok,u=.tu [w,n,ok]/\RetQ H0 H (.tu [w,ok]) o:=by
 obtain⟨h1,h2⟩:=h
 cases o with
 | none=>exact⟨_,_,_,h2,h1,rfl⟩
 | some x =>
  obtain⟨w,e,hm,hq⟩:=h2
  exact⟨_,_,_,e,h1,w,rfl,hm,hq⟩
theorem holdR_time {s x:Sr} (h:holdR s=some x):x.time=s.time:=by
 unfold holdR at h
 split at h
 ·generalize (if s.tms.getLast?=some s.time then s.tms else s.tms++[s.time])=ts at h
  by_cases ht:timesR ts s.time=true
  ·rw [if_pos ht] at h
   cases h
   rfl
  ·rw [if_neg ht] at h
   cases h
 ·cases h
theorem implHold_ok (v:AV) (s:Sr) (H:Hp) (hs:St H v s) (hb:StB s) :
  AC Tryz.prog E 162 [v] H (fun u H'=>RetHQ H H' u s (holdR s)):=by
 have hs0:=hs
 obtain⟨a,b,c,d,rfl,n1,n2,n3,n4,hea,hed⟩:=hs.shape
 refine AC_by fol (tC_le tabJ_ok) h_impl_StoreHold ?_
 obtain⟨H1,hH1⟩:∃ H1:Hp,H1=H++[some ⟨[[a,b,c,.int .i64 s.keep,.int .i64 s.time,d]],6,28,false⟩,some ⟨[[.nils,.nils,.nils,.int .i64 0,.int .i64 0,.nils]],6,28,false⟩]:=⟨_,rfl⟩
 have hle1:HLe H H1:=by rw [hH1]; exact HLe.self _ _
 have b0:H1.at H.length=some ⟨[[a,b,c,.int .i64 s.keep,.int .i64 s.time,d]],6,28,false⟩:=by rw [hH1]; simp
 have b3:H1.at (H.length+1)=some ⟨[[.nils,.nils,.nils,.int .i64 0,.int .i64 0,.nils]],6,28,false⟩:=by rw [hH1]; simp
 simp [c_impl_StoreHold,n1,n2,n3,n4,<- hH1,b0]
 refine cg_ex (changed_ok _ 194 [] s (holdI s) H1 (hs0.le hle1) hb (fun x=>rfl)
  (fun hso o B G hB hps hle=>hold_ok o s B G hps hle (storeOk_small hso)) (fun hso x hx=>hold_small ((okThen_hold s).symm.trans (okThen_some hso hx)))) ?_
 intro v2 H2 hret
 rw [okThen_hold] at hret
 cases hh:holdR s with
 | none =>
  rw [hh] at hret
  obtain⟨hle2,rfl⟩:=hret
  have b23:=hle2.2 _ _ b3
  have u23:=Hp.at_lt b23
  simp [b23,Hp.at_set,u23,Hp.at_app,RetHQ,at_len,at_in]
  exact ((hle1.trans hle2).set (by omega) _).app _
 | some x =>
  rw [hh] at hret
  obtain⟨hle2,w,rfl,hm2,hq2⟩:=hret
  obtain⟨xa,xl,xs,xd,rfl,xn1,xn2,xdi⟩:=hm2.shape
  have b23:=hle2.2 _ _ b3
  have u23:=Hp.at_lt b23
  have ht:x.time=s.time:=holdR_time hh
  simp [xn1,xn2,b23,Hp.at_set,u23,Hp.at_app,RetHQ,at_len,at_in,ht]
  have F:=(Fr.one H2 (H.length+1) (some ⟨[[xa,.sl xl 0 3,.sl xs 0 3,.int .i64 x.keep,.int .i64 s.time,xd]],6,28,false⟩)).app [some ⟨[[xa,.sl xl 0 3,.sl xs 0 3,.int .i64 x.keep,.int .i64 s.time,xd]],6,28,false⟩]
  have hq3:=hq2.fr F (fun y hy=>.inr (fun ob ho=>by rw [hy,b23] at ho; cases ho; rfl))
  have hm3:=hm2.fr F (fun y ob hy ho=>by rw [hy,b23] at ho; cases ho; rfl)
  rw [ht] at hm3 hq3
  exact⟨((hle1.trans hle2).set (by omega) _).app _,hm3.base hle1.1,hq3.base hle1.1⟩
end Go.Proofs.YtepeokaplbbpoaaGreat.B

namespace Go.Proofs.YtepeokaplbbpoaaGreat.B
open Go.RowKit Go.Proofs
set_option linter.unusedVariables false
set_option linter.unusedSimpArgs false
variable {E:Env}
def ddRow (d:Dd):List AV:=[.int .i64 d.kind,.str d.key,.int .i64 d.num]
def Dds (H:Hp) (v:AV) (ds:List Dd):Prop:=Rows 3 H v (ds.map ddRow)
theorem Dds.get {H:Hp} {v:AV} {ds:List Dd} (h:Dds H v ds) {j:Nat} (hj:j<ds.length):∃ o i ob,v=.sl o i ds.length/\H.at o=some ob/\ob.esz=3/\ob.rows[i+j]?=some [.int .i64 ds[j].kind,.str ds[j].key,.int .i64 ds[j].num]:=by
 obtain⟨o,i,ob,h1,h2,h3,h4⟩:=Rows.get h (j:=j) (by simpa using hj)
 exact⟨o,i,ob,by simpa using h1,h2,h3,by simpa [ddRow] using h4⟩
theorem doAll_step (s:Sr) (ds:List Dd) {i:Nat} (hi:i<ds.length):doAll s (ds.take (i+1))=(doR (doAll s (ds.take i)) ds[i]).getD (doAll s (ds.take i)):=by
 rw [List.take_succ_eq_append_getElem hi,doAll,List.foldl_append]
 rfl
theorem PastDo_ok (v u:AV) (s:Sr) (ds:List Dd) (H:Hp) (hs:St H v s) (hb:StB s) (hu:Dds H u ds) (hk:∀ d∈ds,d.key.size<4611686018427387904) :
  AC Tryz.prog E 140 [v,u] H (fun w H'=>RetS H H' w (pastR s ds)):=by
 have hs0:=hs
 obtain⟨a,b,c,d,rfl,n1,n2,n3,n4,hea,hed⟩:=hs.shape
 refine AC_by fol (tC_le tab2_ok) h_spec_PastDo ?_
 obtain⟨H1,hH1⟩:∃ H1:Hp,H1=H++[some ⟨[[a,b,c,.int .i64 s.keep,.int .i64 s.time,d]],6,28,false⟩,some ⟨[[.nils,.nils,.nils,.int .i64 0,.int .i64 0,.nils]],6,28,false⟩]:=⟨_,rfl⟩
 have hle1:HLe H H1:=by rw [hH1]; exact HLe.self _ _
 have b0:H1.at H.length=some ⟨[[a,b,c,.int .i64 s.keep,.int .i64 s.time,d]],6,28,false⟩:=by rw [hH1]; simp
 have b1:H1.at (H.length+1)=some ⟨[[.nils,.nils,.nils,.int .i64 0,.int .i64 0,.nils]],6,28,false⟩:=by rw [hH1]; simp
 have hl1:H1.length=H.length+2:=by rw [hH1]; simp
 have u1:=Hp.at_lt b1
 have hlen:lenV u=.int .i64 ds.length:=by simpa using Rows.len hu
 have hslc:slC u:=Rows.slc hu
 simp [c_spec_PastDo,n1,n2,n3,n4,<- hH1,b0]
 refine cg_use (StoreOk_ok _ s H1 (hs0.le hle1) hb) ?_
 cases hso:storeOk s with
 | false =>
  simp [b1,Hp.at_set,u1,pastR,hso,RetS]
  exact hle1.set (by omega) _
 | true =>
 have hsm:=storeOk_small hso
 simp [hlen,hslc]
 refine c_split (fun hq=>?_) (fun hq=>?_)<;>simp at hq
 ·have hp:pastR s ds=none:=by simp [pastR,hso]; omega
  simp [b1,Hp.at_set,u1,hp,RetS]
  exact hle1.set (by omega) _
 have hp:pastR s ds=some (doAll s ds):=by simp [pastR,hso]; omega
 simp [b0]
 refine cg_ex (l12Copy_ok _ s H1 (hs0.le hle1) hb hsm.2.2.2.2.2.2.2.1 hsm.2.2.2.2.2.2.2.2) ?_
 rintro v2 H2 ⟨hle2,hm2⟩
 obtain⟨xa,xl,xs,xd,rfl,xn1,xn2,xdi⟩:=hm2.shape
 have b02:=hle2.2 _ _ b0
 have b12:=hle2.2 _ _ b1
 have u0:=Hp.at_lt b02
 have m01:H.length≠H.length+1:=by omega
 obtain⟨H3,hH3⟩:∃ H3:Hp,H3=List.set H2 H.length (some ⟨[[xa,.sl xl 0 3,.sl xs 0 3,.int .i64 s.keep,.int .i64 s.time,xd]],6,28,false⟩):=⟨_,rfl⟩
 have hF3:Fr (fun x=>x=H.length) H2 H3:=by rw [hH3]; exact Fr.one _ _ _
 have hm3:=(hm2.fr hF3 (fun x ob hx ho=>by rw [hx,b02] at ho; cases ho; rfl)).base hle1.1
 have hle3:HLe H H3:=(hle1.trans hle2).fr_le hF3 (fun x hx=>by rw [hx]; exact Nat.le_refl _)
 have b03:H3.at H.length=some ⟨[[xa,.sl xl 0 3,.sl xs 0 3,.int .i64 s.keep,.int .i64 s.time,xd]],6,28,false⟩:=by rw [hH3]; exact Hp.at_set _ u0
 have b13:=hF3.2 _ _ m01.symm b12
 simp [xn1,xn2,b02,Hp.at_set,u0,<- hH3]
 refine W_for (fun m t H'=>∃ (i:Nat) (x:Sr) (wa:AV) (wl ws:Nat) (wd:AV),i+m=ds.length/\t 1=u/\t 2=.pt H.length 0 0/\t 4=.pt (H.length+1) 0 0/\t 6=.int .i64 i/\HLe H H' /\
  H'.at H.length=some ⟨[[wa,.sl wl 0 3,.sl ws 0 3,.int .i64 x.keep,.int .i64 x.time,wd]],6,28,false⟩/\H'.at (H.length+1)=some ⟨[[.nils,.nils,.nils,.int .i64 0,.int .i64 0,.nils]],6,28,false⟩ /\
  one wa=true/\one wd=true/\MSt H H' (.ag [wa,.sl wl 0 3,.sl ws 0 3,.int .i64 x.keep,.int .i64 x.time,wd]) x/\Small x/\x=doAll s (ds.take i)) ds.length ?_ (tC_mono AC_mono) ?_
 ·exact⟨0,s,xa,xl,xs,xd,by omega,by simp,by simp,by simp,by simp,hle3,b03,b13,xn1,xn2,hm3,hsm,by simp [doAll]⟩
 rintro m t H' ⟨i,x,wa,wl,ws,wd,him,h1,h2,h4,h6,hle',c0,c1,wn1,wn2,hm,hsx,hx⟩
 have t0:=Hp.at_lt c0
 have t1:=Hp.at_lt c1
 simp [h1,h2,h4,h6,hlen,hslc]
 refine c_split (fun hq2=>?_) (fun hq2=>?_)<;>simp at hq2
 ·have hi:i<ds.length:=by omega
  obtain⟨o1,i1,ob1,rfl,a1,a2,a3⟩:=Dds.get (Rows.le hu hle') hi
  have hw:=wrapN (i:=i) (by omega)
  simp [h1,h2,h4,h6,c0,a1,a2,a3,hi]
  refine⟨?_,?_⟩
  ·refine cg_ex (l13Do_ok _ x (ds[i]) H' (hm.st) hsx.stB (hk _ (List.getElem_mem hi))) ?_
   rintro v5 H5 hret
   have hle5:HLe H' H5:=hret.1
   have c05:=hle5.2 _ _ c0
   have c15:=hle5.2 _ _ c1
   have a15:=hle5.2 _ _ a1
   have t05:=Hp.at_lt c05
   have t15:=Hp.at_lt c15
   have ta5:=Hp.at_lt a15
   cases hd:doR x ds[i] with
   | none =>
    rw [hd] at hret
    obtain⟨hle5',rfl⟩:=hret
    simp [h1,h2,h4,h6,c05,c15,a15,a2,a3,hi,hw,Hp.at_app,Hp.at_set,Hp.at_set_ne,List.length_set,t05,t15,ta5,m01,m01.symm,set_in']
    refine⟨m-1,by omega,i+1,by omega,by omega,(hle'.trans hle5').app _,x,wa,wl,ws,wd,by simp,wn1,wn2,(hm.le hle5').le (HLe.self _ _),hsx,?_⟩
    rw [doAll_step s ds hi,<- hx,hd]
    rfl
   | some y =>
    rw [hd] at hret
    obtain⟨hle5',w5,rfl,hm5⟩:=hret
    obtain⟨ya,yl,ys,yd,hy,yn1,yn2,ydi⟩:=hm5.shape
    subst hy
    simp [yn1,yn2,h1,h2,h4,h6,c05,c15,a15,a2,a3,hi,hw,Hp.at_app,Hp.at_set,Hp.at_set_ne,List.length_set,t05,t15,ta5,m01,m01.symm,set_in']
    have hF:=(Fr.one H5 H.length (some ⟨[[ya,.sl yl 0 3,.sl ys 0 3,.int .i64 y.keep,.int .i64 y.time,yd]],6,28,false⟩)).app [some ⟨[[ya,.sl yl 0 3,.sl ys 0 3,.int .i64 y.keep,.int .i64 y.time,yd]],6,28,false⟩]
    refine⟨m-1,by omega,i+1,by omega,by omega,(hle'.trans hle5').fr_le hF (fun z hz=>by rw [hz]; exact Nat.le_refl _),y,ya,yl,ys,yd,by simp,yn1,yn2,(hm5.fr hF (fun z ob hz ho=>by rw [hz,c05] at ho; cases ho; rfl)).base hle'.1,doR_small hd,?_⟩
    rw [doAll_step s ds hi,<- hx,hd]
    rfl
  ·have ta:=Hp.at_lt a1
   simp [Hp.at_app,t0,t1,ta,c0,a1,a2,a3,hi]
   refine cg_ex (l13Do_ok _ x (ds[i]) _ ((hm.le (HLe.self _ _)).st) hsx.stB (hk _ (List.getElem_mem hi))) ?_
   rintro v5 H5 hret
   have hle5:HLe H' H5:=(HLe.self H' _).trans hret.1
   have c05:=hle5.2 _ _ c0
   have c15:=hle5.2 _ _ c1
   have a15:=hle5.2 _ _ a1
   have t05:=Hp.at_lt c05
   have t15:=Hp.at_lt c15
   have ta5:=Hp.at_lt a15
   have c75:=hret.1.2 _ _ (Hp.at_app_0.trans Hp.at_0)
   have t75:=Hp.at_lt c75
   have m70:H'.length≠H.length:=by omega
   have m71:H'.length≠H.length+1:=by omega
   have m7a:H'.length≠o1:=by have:=Hp.at_lt a1; omega
   cases hd:doR x ds[i] with
   | none =>
    rw [hd] at hret
    obtain⟨hle5',rfl⟩:=hret
    simp [h1,h2,h4,h6,c05,c15,a15,a2,a3,hi,hw,Hp.at_app,Hp.at_set,Hp.at_set_ne,List.length_set,t05,t15,ta5,m01,m01.symm,c75,t75,m70,m71,m7a,m70.symm,m71.symm,m7a.symm]
    have hF:=Fr.one H5 H'.length (some ⟨[[.nils,.nils,.nils,.int .i64 0,.int .i64 0,.nils]],6,28,false⟩)
    refine⟨m-1,by omega,i+1,by omega,by omega,(hle'.trans hle5).fr_le hF (fun z hz=>by rw [hz]; exact hle'.1),x,wa,wl,ws,wd,by simp,wn1,wn2,(hm.le hle5).fr hF (fun z ob hz ho=>by rw [hz,c75] at ho; cases ho; rfl),hsx,?_⟩
    rw [doAll_step s ds hi,<- hx,hd]
    rfl
   | some y =>
    rw [hd] at hret
    obtain⟨hle5',w5,rfl,hm5⟩:=hret
    obtain⟨ya,yl,ys,yd,hy,yn1,yn2,ydi⟩:=hm5.shape
    subst hy
    simp [yn1,yn2,h1,h2,h4,h6,c05,c15,a15,a2,a3,hi,hw,Hp.at_app,Hp.at_set,Hp.at_set_ne,List.length_set,t05,t15,ta5,m01,m01.symm,c75,t75,m70,m71,m7a,m70.symm,m71.symm,m7a.symm]
    have hF:=((Fr.refl (fun z=>z=H'.length\/z=H.length) H5).set (o:=H'.length) (.inl (.inl rfl)) (some ⟨[[ya,.sl yl 0 3,.sl ys 0 3,.int .i64 y.keep,.int .i64 y.time,yd]],6,28,false⟩)).set (o:=H.length) (.inl (.inr rfl)) (some ⟨[[ya,.sl yl 0 3,.sl ys 0 3,.int .i64 y.keep,.int .i64 y.time,yd]],6,28,false⟩)
    refine⟨m-1,by omega,i+1,by omega,by omega,(hle'.trans hle5).fr_le hF (fun z hz=>by have:=hle'.1; rcases hz with h | h<;>omega),y,ya,yl,ys,yd,by simp,yn1,yn2,(hm5.fr hF (fun z ob hz ho=>by rcases hz with h | h<;>rw [h] at ho<;>simp only [c75,c05] at ho<;>cases ho<;>rfl)).base (Nat.le_trans hle'.1 (by simp)),doR_small hd,?_⟩
    rw [doAll_step s ds hi,<- hx,hd]
    rfl
 ·have hie:i=ds.length:=by omega
  subst hie
  rw [List.take_of_length_le (Nat.le_refl _)] at hx
  simp [h2,h4,c0,c1,wn1,wn2,Hp.at_set,t1,hp,<- hx]
  have hF:=Fr.one H' (H.length+1) (some ⟨[[wa,.sl wl 0 3,.sl ws 0 3,.int .i64 x.keep,.int .i64 x.time,wd]],6,28,false⟩)
  exact⟨hle'.fr_le hF (fun y hy=>by rw [hy]; omega),_,rfl,MSt.fr hm hF (fun y ob hy ho=>by rw [hy,c1] at ho; cases ho; rfl)⟩
end Go.Proofs.YtepeokaplbbpoaaGreat.B

namespace Go.Proofs.YtepeokaplbbpoaaGreat.B
open Go.RowKit Go.Proofs
set_option linter.unusedVariables false
set_option linter.unusedSimpArgs false
variable {E:Env}
theorem DeedDo_ok (v:AV) (s:Sr) (e:Dd) (H:Hp) (hs:St H v s) (hb:StB s) (hk:e.key.size<4611686018427387904) :
  AC Tryz.prog E 128 [ddAV e,v] H (fun u H'=>RetQ H H' u (doR s e)):=by
 have hs0:=hs
 obtain⟨a,b,c,d,rfl,n1,n2,n3,n4,hea,hed⟩:=hs.shape
 refine AC_by fol (tC_le tabJ_ok) h_impl_Deed_do ?_
 obtain⟨H1,hH1⟩:∃ H1:Hp,H1=H++[some ⟨[[.int .i64 e.kind,.str e.key,.int .i64 e.num]],3,56,false⟩,some ⟨[[a,b,c,.int .i64 s.keep,.int .i64 s.time,d]],6,28,false⟩,some ⟨[[.nils,.nils,.nils,.int .i64 0,.int .i64 0,.nils]],6,28,false⟩]:=⟨_,rfl⟩
 have hle1:HLe H H1:=by rw [hH1]; exact HLe.self _ _
 have b0:H1.at (H.length+1)=some ⟨[[a,b,c,.int .i64 s.keep,.int .i64 s.time,d]],6,28,false⟩:=by rw [hH1]; simp
 have b1:H1.at H.length=some ⟨[[.int .i64 e.kind,.str e.key,.int .i64 e.num]],3,56,false⟩:=by rw [hH1]; simp
 have b2:H1.at (H.length+2)=some ⟨[[.nils,.nils,.nils,.int .i64 0,.int .i64 0,.nils]],6,28,false⟩:=by rw [hH1]; simp
 have hl1:H1.length=H.length+3:=by rw [hH1]; simp
 have u2:=Hp.at_lt b2
 have hs1:=hs0.le hle1
 simp [c_impl_Deed_do,ddAV,n1,n2,n3,n4,<- hH1,b1]
 refine c_split (fun q0=>?_) (fun q0=>?_)<;>simp at q0
 ·have hd:doR s e=putR s e.key e.num:=by simp [doR,q0]
  simp [b0,b1]
  refine cg_ex (implPut_ok _ s e.key e.num H1 hs1 hb hk) ?_
  intro v2 H2 hret
  obtain⟨xa,xb,xc,xk,xt,xd,rfl,o1,o2,o3,o4,o5,o6⟩:=hret.shape
  have b22:=hret.1.2 _ _ b2
  have u22:=Hp.at_lt b22
  simp [o1,o2,o3,o4,o5,o6,b22,Hp.at_set,u22]
  rw [hd]
  have hF:=Fr.one H2 (H.length+2) (some ⟨[[xa,xb,xc,xk,xt,xd]],6,28,false⟩)
  exact hret.fin hle1 hF (fun x ob hx ho=>by rw [hx,b22] at ho; cases ho; rfl) (fun x hx=>by rw [hx]; omega)
 simp
 refine c_split (fun q1=>?_) (fun q1=>?_)<;>simp at q1
 ·have hd:doR s e=takeR s e.key:=by simp [doR,q1]
  simp [b0,b1]
  refine cg_ex (implTake_ok _ s e.key H1 hs1 hb hk) ?_
  intro v2 H2 hret
  obtain⟨xa,xb,xc,xk,xt,xd,rfl,o1,o2,o3,o4,o5,o6⟩:=hret.shape
  have b22:=hret.1.2 _ _ b2
  have u22:=Hp.at_lt b22
  simp [o1,o2,o3,o4,o5,o6,b22,Hp.at_set,u22]
  rw [hd]
  have hF:=Fr.one H2 (H.length+2) (some ⟨[[xa,xb,xc,xk,xt,xd]],6,28,false⟩)
  exact hret.fin hle1 hF (fun x ob hx ho=>by rw [hx,b22] at ho; cases ho; rfl) (fun x hx=>by rw [hx]; omega)
 simp
 refine c_split (fun q2=>?_) (fun q2=>?_)<;>simp at q2
 ·have hd:doR s e=holdR s:=by simp [doR,q2]
  simp [b0,b1]
  refine cg_ex (implHold_ok _ s H1 hs1 hb) ?_
  intro v2 H2 hret
  obtain⟨w,n,ok,hv2,hret'⟩:=hret.toS
  subst hv2
  clear hret
  have hret:=hret'
  clear hret'
  obtain⟨xa,xb,xc,xk,xt,xd,hw,o1,o2,o3,o4,o5,o6⟩:=hret.shape
  cases hw
  have b22:=hret.1.2 _ _ b2
  have u22:=Hp.at_lt b22
  simp [o1,o2,o3,o4,o5,o6,b22,Hp.at_set,u22,Hp.at_app,set_in']
  rw [hd]
  have hF:=(Fr.one H2 (H.length+2) (some ⟨[[xa,xb,xc,xk,xt,xd]],6,28,false⟩)).app [some ⟨[[xa,xb,xc,xk,xt,xd]],6,28,false⟩]
  exact hret.fin hle1 hF (fun x ob hx ho=>by rw [hx,b22] at ho; cases ho; rfl) (fun x hx=>by rw [hx]; omega)
 simp
 refine c_split (fun q3=>?_) (fun q3=>?_)<;>simp at q3
 ·have hd:doR s e=freeR s e.num:=by simp [doR,q3]
  simp [b0,b1]
  refine cg_ex (implFree_ok _ s e.num H1 hs1 hb) ?_
  intro v2 H2 hret
  obtain⟨xa,xb,xc,xk,xt,xd,rfl,o1,o2,o3,o4,o5,o6⟩:=hret.shape
  have b22:=hret.1.2 _ _ b2
  have u22:=Hp.at_lt b22
  simp [o1,o2,o3,o4,o5,o6,b22,Hp.at_set,u22]
  rw [hd]
  have hF:=Fr.one H2 (H.length+2) (some ⟨[[xa,xb,xc,xk,xt,xd]],6,28,false⟩)
  exact hret.fin hle1 hF (fun x ob hx ho=>by rw [hx,b22] at ho; cases ho; rfl) (fun x hx=>by rw [hx]; omega)
 simp
 refine c_split (fun q4=>?_) (fun q4=>?_)<;>simp at q4
 ·have hd:doR s e=letR s:=by simp [doR,q4]
  simp [b0,b1]
  refine cg_ex (implDown_ok _ s H1 hs1 hb) ?_
  intro v2 H2 hret
  obtain⟨xa,xb,xc,xk,xt,xd,rfl,o1,o2,o3,o4,o5,o6⟩:=hret.shape
  have b22:=hret.1.2 _ _ b2
  have u22:=Hp.at_lt b22
  simp [o1,o2,o3,o4,o5,o6,b22,Hp.at_set,u22]
  rw [hd]
  have hF:=Fr.one H2 (H.length+2) (some ⟨[[xa,xb,xc,xk,xt,xd]],6,28,false⟩)
  exact hret.fin hle1 hF (fun x ob hx ho=>by rw [hx,b22] at ho; cases ho; rfl) (fun x hx=>by rw [hx]; omega)
 simp
 refine c_split (fun q5=>?_) (fun q5=>?_)<;>simp at q5
 ·have hd:doR s e=joinR s e.num:=by simp [doR,q5]
  simp [b0,b1]
  refine cg_ex (implJoin_ok _ s e.num H1 hs1 hb) ?_
  intro v2 H2 hret
  obtain⟨xa,xb,xc,xk,xt,xd,rfl,o1,o2,o3,o4,o5,o6⟩:=hret.shape
  have b22:=hret.1.2 _ _ b2
  have u22:=Hp.at_lt b22
  simp [o1,o2,o3,o4,o5,o6,b22,Hp.at_set,u22]
  rw [hd]
  have hF:=Fr.one H2 (H.length+2) (some ⟨[[xa,xb,xc,xk,xt,xd]],6,28,false⟩)
  exact hret.fin hle1 hF (fun x ob hx ho=>by rw [hx,b22] at ho; cases ho; rfl) (fun x hx=>by rw [hx]; omega)
 have hd:doR s e=none:=by simp [doR,q0,q1,q2,q3,q4,q5]
 simp [b2,Hp.at_set,u2,hd,RetQ]
 exact hle1.set (by omega) _
end Go.Proofs.YtepeokaplbbpoaaGreat.B

namespace Go.Proofs.YtepeokaplbbpoaaGreat.B
open Go.RowKit Go.Proofs
set_option linter.unusedVariables false
set_option linter.unusedSimpArgs false
variable {E:Env}
def wr1 (s:Sr) (d:Dd):List Ent:=match doR s d with
 | none=>[]
 | some y=>if d.kind=1 then [⟨d.key,d.num,false,y.time⟩] else if d.kind=2 then [⟨d.key,0,true,y.time⟩] else []
def wrAll:Sr->List Dd->List Ent
 | s,[]=>[]
 | s,d :: ds=>wr1 s d++wrAll ((doR s d).getD s) ds
theorem wrAll_app (ds es:List Dd):∀ s,wrAll s (ds++es)=wrAll s ds++wrAll (doAll s ds) es:=by
 induction ds with
 | nil=>intro s; rfl
 | cons d ds ih =>
  intro s
  show wr1 s d++wrAll ((doR s d).getD s) (ds++es)=(wr1 s d++wrAll ((doR s d).getD s) ds)++_
  rw [ih,List.append_assoc]
  rfl
theorem wrAll_step (s:Sr) (ds:List Dd) {i:Nat} (hi:i<ds.length):wrAll s (ds.take (i+1))=wrAll s (ds.take i)++wr1 (doAll s (ds.take i)) ds[i]:=by
 rw [List.take_succ_eq_append_getElem hi,wrAll_app]
 simp [wrAll]
theorem wr1_len (s:Sr) (d:Dd):(wr1 s d).length<=1:=by
 unfold wr1
 cases doR s d with
 | none=>simp
 | some y =>
  simp only
  split
  ·simp
  ·split<;>simp
theorem wrAll_len (ds:List Dd):∀ s,(wrAll s ds).length<=ds.length:=by
 induction ds with
 | nil=>intro s; simp [wrAll]
 | cons d ds ih =>
  intro s
  have:=ih ((doR s d).getD s)
  have:=wr1_len s d
  simp only [wrAll,List.length_append,List.length_cons]
  omega
def RetP (H0 H:Hp) (u:AV) (o:Option (Sr × List Ent)):Prop:=HLe H0 H/\match o with
 | some x=>∃ w e,u=.tu [w,e,.bool true]/\FarS H0.length H w x.1/\OwnE H0 H e x.2
 | none=>u=.tu [zst,.nils,.bool false]
def pastI (s:Sr) (ds:List Dd):Option (Sr × List Ent):=if (storeOk s&&decide (ds.length<=40))=true then some (doAll s ds,wrAll s ds) else none
theorem St.far {H:Hp} {v:AV} {s:Sr} (h:St H v s):FarP false (fun _ _ _=>True) 0 H v s:=by
 obtain⟨a,b,c,d,lr,sr,e,h1,h2,h3,h4,h5,h6⟩:=h
 exact⟨a,b,c,d,lr,sr,e,h1,h2,All2.mono (fun _ _ ⟨u,k1,k2⟩=>⟨u,k1,k2,fun _ _=>Nat.zero_le _⟩) h3,h4,All2.mono (fun _ _ ⟨u,k1,k2,k3⟩=>⟨u,k1,k2,fun _ _=>Nat.zero_le _⟩) h5,h6,fun _ _=>Nat.zero_le _,trivial⟩
theorem St.fr6 {S:Nat->Prop} {H H':Hp} {v:AV} {s:Sr} (h:St H v s) (hf:Fr S H H') (hS:∀ y ob,S y->H.at y=some ob->ob.esz=6):St H' v s:=(h.far.fr hf (fun y hy=>.inr (fun ob ho=>hS y ob hy ho))).st
theorem OwnM.fr6 {H0 H H':Hp} {v:AV} {es:List Ent} {S:Nat->Prop} (h:OwnE H0 H v es) (hf:Fr S H H') (hS:∀ y ob,S y->H.at y=some ob->ob.esz=6):OwnE H0 H' v es:=⟨h.1.fr hf (fun y hy hs=>by
 obtain⟨ob,ho⟩:∃ ob,H.at y=some ob:=by
  rcases h.1 with ⟨rfl,_⟩ | ⟨rfl,_⟩ | ⟨o',ob,rfl,k,_⟩
  ·exact hy.elim
  ·exact hy.elim
  ·have:o'=y:=hy
   subst this
   exact⟨ob,k⟩
 have:=hS y ob hs ho
 have:=h.1.esz hy ho
 omega),h.2⟩
def PsI (H:Hp) (u:AV) (ds:List Dd) (s:Sr) (m:Nat) (t:Tm) (H':Hp):Prop:=∃ (i:Nat) (x:Sr) (L7:Nat) (wa:AV) (wl ws:Nat) (wd v8:AV) (es:List Ent),i+m=ds.length/\t 4=.pt (H.length+1) 0 0/\t 7=.pt L7 0 0/\t 8=v8/\t 24=u/\t 25=.int .i64 ds.length/\t 26=.int .i64 i/\HLe H H'/\H.length+2<=L7 /\
  H'.at L7=some ⟨[[wa,.sl wl 0 3,.sl ws 0 3,.int .i64 x.keep,.int .i64 x.time,wd]],6,28,false⟩/\H'.at (H.length+1)=some ⟨[[.nils,.nils,.nils,.int .i64 0,.int .i64 0,.nils]],6,28,false⟩ /\
  one wa=true/\one wd=true/\FarS H.length H' (.ag [wa,.sl wl 0 3,.sl ws 0 3,.int .i64 x.keep,.int .i64 x.time,wd]) x/\Small x/\x=doAll s (ds.take i)/\OwnE H H' v8 es/\es=wrAll s (ds.take i)
set_option maxHeartbeats 1600000 in
theorem past_ok (v u:AV) (s:Sr) (ds:List Dd) (H:Hp) (hs:St H v s) (hb:StB s) (hu:Dds H u ds) (hk:∀ d∈ds,d.key.size<4611686018427387904) :
  AC Tryz.prog E 87 [v,u] H (fun w H'=>RetP H H' w (pastI s ds)):=by
 have hs0:=hs
 obtain⟨a,b,c,d,rfl,n1,n2,n3,n4,hea,hed⟩:=hs.shape
 refine AC_by fol (tC_le tabJ_ok) h_impl_past ?_
 obtain⟨H1,hH1⟩:∃ H1:Hp,H1=H++[some ⟨[[a,b,c,.int .i64 s.keep,.int .i64 s.time,d]],6,28,false⟩,some ⟨[[.nils,.nils,.nils,.int .i64 0,.int .i64 0,.nils]],6,28,false⟩]:=⟨_,rfl⟩
 have hle1:HLe H H1:=by rw [hH1]; exact HLe.self _ _
 have b0:H1.at H.length=some ⟨[[a,b,c,.int .i64 s.keep,.int .i64 s.time,d]],6,28,false⟩:=by rw [hH1]; simp
 have b1:H1.at (H.length+1)=some ⟨[[.nils,.nils,.nils,.int .i64 0,.int .i64 0,.nils]],6,28,false⟩:=by rw [hH1]; simp
 have hl1:H1.length=H.length+2:=by rw [hH1]; simp
 have u1:=Hp.at_lt b1
 have hlen:lenV u=.int .i64 ds.length:=by simpa using Rows.len hu
 have hslc:slC u:=Rows.slc hu
 simp [c_impl_past,n1,n2,n3,n4,<- hH1,b0]
 refine cg_use (implStoreOk_ok _ s H1 (hs0.le hle1) hb) ?_
 cases hso:storeOk s with
 | false =>
  simp [b1,Hp.at_set,u1,pastI,hso,RetP]
  exact hle1.set (by omega) _
 | true =>
 have hsm:=storeOk_small hso
 simp [hlen,hslc]
 refine c_split (fun hq=>?_) (fun hq=>?_)<;>simp at hq
 ·have hp:pastI s ds=none:=by simp [pastI,hso]; omega
  simp [b1,Hp.at_set,u1,hp,RetP]
  exact hle1.set (by omega) _
 have hp:pastI s ds=some (doAll s ds,wrAll s ds):=by simp [pastI,hso]; omega
 simp [b0]
 refine cg_ex (clone_ok _ s H1 (hs0.le hle1) hb hsm.2.2.2.2.2.2.2.1 hsm.2.2.2.2.2.2.2.2) ?_
 rintro v2 H2 ⟨hle2,hm2,hq2⟩
 obtain⟨xa,xl,xs,xd,rfl,xn1,xn2,xdi⟩:=hm2.shape
 have b02:=hle2.2 _ _ b0
 have b12:=hle2.2 _ _ b1
 obtain⟨G,hG⟩:∃ G:Hp,G=H2++[some ⟨[[xa,.sl xl 0 3,.sl xs 0 3,.int .i64 s.keep,.int .i64 s.time,xd]],6,28,false⟩]:=⟨_,rfl⟩
 have hleG:HLe H2 G:=by rw [hG]; exact HLe.self _ _
 have bG:G.at H2.length=some ⟨[[xa,.sl xl 0 3,.sl xs 0 3,.int .i64 s.keep,.int .i64 s.time,xd]],6,28,false⟩:=by rw [hG]; simp
 have b1G:=hleG.2 _ _ b12
 simp [xn1,xn2,hlen,hslc,<- hG]
 refine W_for (fun m t H'=>PsI H u ds s m t H') ds.length ?_ (tC_mono AC_mono) ?_
 ·exact⟨0,s,H2.length,xa,xl,xs,xd,.nils,[],by omega,by simp,by simp,by simp,by simp,by simp,by simp,(hle1.trans hle2).trans hleG,by have:=hle2.1; omega,bG,b1G,xn1,xn2,(hq2.fr (S:=fun _=>False) hleG.fr (fun y h=>h.elim)).base hle1.1,hsm,by simp [doAll],OwnM.nils,by simp [wrAll]⟩
 rintro m t H' ⟨i,x,L7,wa,wl,ws,wd,v8,es,him,h4,h7,h8,h24,h25,h26,hle',hL7,c7,c4,wn1,wn2,hst,hsx,hx,hv8,hes⟩
 simp [h4,h7,h8,h24,h25,h26]
 refine c_split (fun hq2=>?_) (fun hq2=>?_)<;>simp at hq2
 ·have hi:i<ds.length:=by omega
  obtain⟨o1,i1,ob1,rfl,a1,a2,a3⟩:=Dds.get (Rows.le hu hle') hi
  have hw:=wrapN (i:=i) (by omega)
  obtain⟨dd,hdd⟩:∃ dd,dd=ds[i]:=⟨_,rfl⟩
  have hkd:dd.key.size<4611686018427387904:=by rw [hdd]; exact hk _ (List.getElem_mem hi)
  rw [<- hdd] at a3
  obtain⟨K,hK⟩:∃ K:Hp,K=H'++[some ⟨[[.int .i64 dd.kind,.str dd.key,.int .i64 dd.num]],3,56,false⟩]:=⟨_,rfl⟩
  have hleK:HLe H' K:=by rw [hK]; exact HLe.self _ _
  have bK:K.at H'.length=some ⟨[[.int .i64 dd.kind,.str dd.key,.int .i64 dd.num]],3,56,false⟩:=by rw [hK]; simp
  have c7K:=hleK.2 _ _ c7
  simp [h4,h7,h8,h24,h25,h26,a1,a2,a3,hi,<- hK,bK,c7K]
  refine cg_ex (DeedDo_ok _ x dd K (hst.st.le hleK) hsx.stB hkd) ?_
  rintro v5 H5 hret
  have hle5:HLe K H5:=hret.1
  have b5:=hle5.2 _ _ bK
  have c75:=hle5.2 _ _ c7K
  have c45:=hle5.2 _ _ (hleK.2 _ _ c4)
  have hxs:doAll s (ds.take (i+1))=(doR x dd).getD x:=by rw [doAll_step s ds hi,<- hx,<- hdd]
  have hws:wrAll s (ds.take (i+1))=es++wr1 x dd:=by rw [wrAll_step s ds hi,<- hes,<- hx,<- hdd]
  cases hd:doR x dd with
  | none =>
   rw [hd] at hret hxs
   obtain⟨hle5',rfl⟩:=hret
   simp [h4,h7,h8,h24,h25,h26,hw]
   have hleA:HLe H' (H5++[some ⟨[[.nils,.nils,.nils,.int .i64 0,.int .i64 0,.nils]],6,28,false⟩]):=(hleK.trans hle5).app _
   exact⟨m-1,by omega,i+1,x,L7,wa,wl,ws,wd,v8,es,by omega,by simp [h4],by simp [h7],by simp [h8],by simp [h24],by simp [h25],by simp,hle'.trans hleA,hL7,hleA.2 _ _ c7,hleA.2 _ _ c4,wn1,wn2,hst.fr (S:=fun _=>False) hleA.fr (fun y h=>h.elim),hsx,hxs.symm,hv8.le hleA,by rw [hws]; simp [wr1,hd]⟩
  | some y =>
   rw [hd] at hret hxs
   obtain⟨hle5',w5,rfl,hm5,hq5⟩:=hret
   obtain⟨ya,yl,ys,yd,hy,yn1,yn2,ydi⟩:=hm5.shape
   subst hy
   have u75:=Hp.at_lt c75
   have ne7:L7≠H.length+1:=by omega
   have ne7':L7≠H'.length:=by have:=Hp.at_lt c7; omega
   have l5:=hle5.1
   have lK:=hleK.1
   obtain⟨Q,hQ⟩:∃ Q:Hp,Q=H5++[some ⟨[[ya,.sl yl 0 3,.sl ys 0 3,.int .i64 y.keep,.int .i64 y.time,yd]],6,28,false⟩]:=⟨_,rfl⟩
   have hleQ:HLe H5 Q:=by rw [hQ]; exact HLe.self _ _
   have bQ:Q.at H5.length=some ⟨[[ya,.sl yl 0 3,.sl ys 0 3,.int .i64 y.keep,.int .i64 y.time,yd]],6,28,false⟩:=by rw [hQ]; simp
   have c7Q:=hleQ.2 _ _ c75
   have u7Q:=Hp.at_lt c7Q
   obtain⟨R,hR⟩:∃ R:Hp,R=List.set Q L7 (some ⟨[[ya,.sl yl 0 3,.sl ys 0 3,.int .i64 y.keep,.int .i64 y.time,yd]],6,28,false⟩):=⟨_,rfl⟩
   have FR:Fr (fun y=>y=L7) Q R:=by rw [hR]; exact Fr.one _ _ _
   have cR:R.at L7=some ⟨[[ya,.sl yl 0 3,.sl ys 0 3,.int .i64 y.keep,.int .i64 y.time,yd]],6,28,false⟩:=by rw [hR]; exact Hp.at_set _ u7Q
   have bR:=FR.2 _ _ ne7'.symm (hleQ.2 _ _ b5)
   have c4R:=FR.2 _ _ ne7.symm (hleQ.2 _ _ c45)
   have hqR:=(hq5.fr hleQ.fr (S:=fun _=>False) (fun y hy=>hy.elim)).fr FR (fun y hy=>.inr (fun ob ho=>by rw [hy,c7Q] at ho; cases ho; rfl))
   have hvR:=((hv8.le ((hleK.trans hle5).trans hleQ)).fr6 FR (fun y ob hy ho=>by rw [hy,c7Q] at ho; cases ho; rfl))
   have hleR:HLe H R:=(hle'.trans ((hleK.trans hle5).trans hleQ)).fr_le FR (fun y hy=>by omega)
   have hlv:∀ y,v8.of y->y<K.length:=fun y hy=>by have:=hv8.1.lt hy; omega
   have hle8:es.length<=1000:=by
    have:=wrAll_len (ds.take i) s
    rw [<- hes,List.length_take] at this
    omega
   simp [yn1,yn2,h4,h7,h8,h24,h25,h26,hw,<- hQ,bQ,c7Q,u7Q,<- hR,bR,cR]
   refine c_split (fun q0=>?_) (fun q0=>?_)<;>simp at q0
   ·simp [h4,h7,h8,h24,h25,h26,bR,cR]
    refine appG_add (y:=⟨dd.key,dd.num,false,y.time⟩) (row:=entRow) (bytes:=40) (H0:=H) hvR hleR (by omega) rfl (fun v9 H9 g1 g2 g3 g4=>?_)
    have nd:∀ {z:Nat} {ob:Ob},R.at z=some ob->ob.esz=6->¬v8.of z:=fun ho he hz=>by
     have:=hvR.1.esz hz ho
     omega
    have c79:=g3.2 _ _ (nd cR rfl) cR
    have c49:=g3.2 _ _ (nd c4R rfl) c4R
    have hq9:=hqR.fr g3 (fun y hy=>.inl (hlv y hy))
    simp [h4,h7,h8,h24,h25,h26,hw]
    exact⟨m-1,by omega,i+1,y,L7,ya,yl,ys,yd,v9,es++[⟨dd.key,dd.num,false,y.time⟩],by omega,by simp [h4],by simp [h7],by simp,by simp [h24],by simp [h25],by simp,g1,hL7,c79,c49,yn1,yn2,hq9.base (Nat.le_trans hle'.1 hleK.1),doR_small hd,hxs.symm,g2,by rw [hws]; simp [wr1,hd,q0]⟩
   simp
   refine c_split (fun q1=>?_) (fun q1=>?_)<;>simp at q1
   ·simp [h4,h7,h8,h24,h25,h26,bR,cR]
    refine appG_add (y:=⟨dd.key,0,true,y.time⟩) (row:=entRow) (bytes:=40) (H0:=H) hvR hleR (by omega) rfl (fun v9 H9 g1 g2 g3 g4=>?_)
    have nd:∀ {z:Nat} {ob:Ob},R.at z=some ob->ob.esz=6->¬v8.of z:=fun ho he hz=>by
     have:=hvR.1.esz hz ho
     omega
    have c79:=g3.2 _ _ (nd cR rfl) cR
    have c49:=g3.2 _ _ (nd c4R rfl) c4R
    have hq9:=hqR.fr g3 (fun y hy=>.inl (hlv y hy))
    simp [h4,h7,h8,h24,h25,h26,hw]
    exact⟨m-1,by omega,i+1,y,L7,ya,yl,ys,yd,v9,es++[⟨dd.key,0,true,y.time⟩],by omega,by simp [h4],by simp [h7],by simp,by simp [h24],by simp [h25],by simp,g1,hL7,c79,c49,yn1,yn2,hq9.base (Nat.le_trans hle'.1 hleK.1),doR_small hd,hxs.symm,g2,by rw [hws]; simp [wr1,hd,q1]⟩
   simp [h4,h7,h8,h24,h25,h26,hw]
   exact⟨m-1,by omega,i+1,y,L7,ya,yl,ys,yd,v8,es,by omega,by simp [h4],by simp [h7],by simp [h8],by simp [h24],by simp [h25],by simp,hleR,hL7,cR,c4R,yn1,yn2,hqR.base (Nat.le_trans hle'.1 hleK.1),doR_small hd,hxs.symm,hvR,by rw [hws]; simp [wr1,hd,q0,q1]⟩
 ·have hie:i=ds.length:=by omega
  subst hie
  rw [List.take_of_length_le (Nat.le_refl _)] at hx hes
  have t1:=Hp.at_lt c4
  simp [h4,h7,h8,c7,c4,wn1,wn2,Hp.at_set,t1,hp,<- hx,<- hes]
  have F:=Fr.one H' (H.length+1) (some ⟨[[wa,.sl wl 0 3,.sl ws 0 3,.int .i64 x.keep,.int .i64 x.time,wd]],6,28,false⟩)
  have hS:∀ y ob,y=H.length+1->H'.at y=some ob->ob.esz=6:=fun y ob hy ho=>by rw [hy,c4] at ho; cases ho; rfl
  exact⟨hle'.fr_le F (fun y hy=>by rw [hy]; omega),_,_,rfl,hst.fr F (fun y hy=>.inr (fun ob ho=>hS y ob hy ho)),hv8.fr6 F hS⟩
end Go.Proofs.YtepeokaplbbpoaaGreat.B

namespace Go.Proofs.YtepeokaplbbpoaaGreat.B
open Go.RowKit Go.Proofs
set_option linter.unusedVariables false
set_option linter.unusedSimpArgs false
structure Hist (s:Sr) (all:List Ent):Prop where
 val:Val s
 asc:all.Pairwise (fun a b=>a.time<b.time)
 old:∀ e∈all,e.time<=s.time
 ok:∀ e∈all,entOk e=true
 same:∀ t,knownR s t=true->Seen t (entsR s) all
theorem known_iff {s:Sr} {t:Int}:knownR s t=true↔t∈s.tms\/t=s.time:=by
 simp only [knownR,Bool.or_eq_true,decide_eq_true_eq]
 exact Or.comm
theorem Val.tms {s:Sr} (h:Val s):∀ t∈s.tms,t<=s.time:=by
 obtain⟨a,b,c,u,v,w,h⟩:=h
 have:=h.tms
 simp only [timesR,Bool.and_eq_true] at this
 exact fun t ht=>(asc1_bnd _ _ _ this.1 t ht).2
theorem best_snoc {l:List Ent} {e:Ent} {k:ByteArray} {t:Int} {f:Ent} (hl:∀ z∈l,z.time<e.time) {l':List Ent} (hm:∀ z,z∈l'↔z=e\/z∈l):Best l' k t f↔(e.key=k/\e.time<=t/\f=e)\/(¬(e.key=k/\e.time<=t)/\Best l k t f):=by
 constructor
 ·intro hb
  by_cases he:e.key=k/\e.time<=t
  ·refine .inl ⟨he.1,he.2,?_⟩
   rcases (hm f).1 hb.mem with h | h
   ·exact h
   ·have a1:=hb.max e ((hm e).2 (.inl rfl)) he.1 he.2
    have a2:=hl f h
    omega
  ·refine .inr ⟨he,?_⟩
   rcases (hm f).1 hb.mem with h | h
   ·exact absurd ⟨by rw [<- h]; exact hb.key,by rw [<- h]; exact hb.le⟩ he
   ·exact⟨h,hb.key,hb.le,fun z hz=>hb.max z ((hm z).2 (.inr hz))⟩
 ·rintro (⟨h1,h2,rfl⟩ | ⟨h1,hb⟩)
  ·refine⟨(hm f).2 (.inl rfl),h1,h2,fun z hz hk ht=>?_⟩
   rcases (hm z).1 hz with rfl | hz
   ·exact Int.le_refl _
   ·have:=hl z hz
    omega
  ·refine⟨(hm f).2 (.inr hb.mem),hb.key,hb.le,fun z hz hk ht=>?_⟩
   rcases (hm z).1 hz with rfl | hz
   ·exact absurd ⟨hk,ht⟩ h1
   ·exact hb.max z hz hk ht
theorem mem_snoc {l:List Ent} {e:Ent}:∀ z,z∈l++[e]↔z=e\/z∈l:=fun z=>by
 rw [List.mem_append,List.mem_singleton]
 exact Or.comm
theorem best_late {l:List Ent} {k:ByteArray} {t t':Int} {f:Ent} (h:∀ z∈l,z.time<=t) (ht:t<=t'):Best l k t' f↔Best l k t f :=
 ⟨fun hb=>⟨hb.mem,hb.key,h f hb.mem,fun z hz hk hzt=>hb.max z hz hk (by omega)⟩,fun hb=>⟨hb.mem,hb.key,by have:=hb.le; omega,fun z hz hk hzt=>hb.max z hz hk (h z hz)⟩⟩
theorem Hist.add {s x:Sr} {all:List Ent} {e:Ent} (h:Hist s all) (he:e.time=s.time+1) (hx:addR s e=some x):Hist x (all++[e])/\x.time=s.time+1:=by
 obtain⟨a,b,c,u,v,w,hv⟩:=h.val
 obtain⟨hxv,ht,hkp,htm,hek,y,hfd,hsub,hmem⟩:=add_V hv he hx
 have hy:∀ z∈entsR y,z.time<=s.time:=fun z hz=>h.val.late z (hsub z hz)
 refine⟨⟨hxv,?_,?_,?_,?_⟩,ht⟩
 ·exact List.pairwise_append.2 ⟨h.asc,List.pairwise_singleton _ _,fun p hp q hq=>by rw [List.mem_singleton.1 hq]; have:=h.old p hp; omega⟩
 ·intro z hz
  rcases (mem_snoc z).1 hz with rfl | hz
  ·omega
  ·have:=h.old z hz
   omega
 ·intro z hz
  rcases (mem_snoc z).1 hz with rfl | hz
  ·exact hek
  ·exact h.ok z hz
 ·intro t hk k f hf
  rw [best_snoc (l:=entsR y) (fun z hz=>by have:=hy z hz; omega) hmem,best_snoc (l:=all) (fun z hz=>by have:=h.old z hz; omega) mem_snoc]
  have core:Best (entsR y) k t f↔Best all k t f:=by
   rcases known_iff.1 hk with h1 | h1
   ·rw [htm] at h1
    rw [<- hfd t (.inl h1) k f hf]
    exact h.same t (known_iff.2 (.inl h1)) k f hf
   ·rw [best_late (t:=s.time) hy (by omega),best_late (t:=s.time) (l:=all) h.old (by omega),<- hfd s.time (.inr rfl) k f hf]
    exact h.same s.time (known_now s) k f hf
  rw [core]
theorem Hist.keep {s x:Sr} {all:List Ent} (h:Hist s all) (hx:Val x) (ht:x.time=s.time) (hk:∀ t,knownR x t=true->knownR s t=true) (hf:Found s x):Hist x all :=
 ⟨hx,h.asc,fun e he=>by rw [ht]; exact h.old e he,h.ok,fun t hkt k f hg=>by
  have h1:=hk t hkt
  rw [<- hfd_iff h1 hf k f hg]
  exact h.same t h1 k f hg⟩
where hfd_iff {s x:Sr} {t:Int} (h1:knownR s t=true) (hf:Found s x) (k:ByteArray) (f:Ent) (hg:f.gone=false):Best (entsR s) k t f↔Best (entsR x) k t f:=hf t (known_iff.1 h1) k f hg
theorem Found.self {s x:Sr} (h1:x.top=s.top) (h2:x.lev=s.lev):Found s x:=fun t _ k f _=>by
 unfold entsR
 rw [h1,h2]
theorem Hist.do {s x:Sr} {all:List Ent} {d:Dd} (h:Hist s all) (hx:doR s d=some x):Hist x (all++wr1 s d):=by
 have hw:wr1 s d=if d.kind=1 then [⟨d.key,d.num,false,x.time⟩] else if d.kind=2 then [⟨d.key,0,true,x.time⟩] else []:=by
  unfold wr1
  rw [hx]
 have hv0:=h.val
 obtain⟨a,b,c,u,v,w,hv⟩:=hv0
 unfold doR at hx
 by_cases k1:d.kind=1
 ·rw [if_pos k1] at hx
  obtain⟨h1,h2⟩:=h.add (e:=⟨d.key,d.num,false,s.time+1⟩) rfl hx
  rw [hw,if_pos k1,h2]
  exact h1
 rw [if_neg k1] at hx hw
 by_cases k2:d.kind=2
 ·rw [if_pos k2] at hx
  obtain⟨h1,h2⟩:=h.add (e:=⟨d.key,0,true,s.time+1⟩) rfl hx
  rw [hw,if_pos k2,h2]
  exact h1
 rw [if_neg k2] at hx hw
 rw [hw,List.append_nil]
 by_cases k3:d.kind=3
 ·rw [if_pos k3] at hx
  obtain⟨h1,h2,h3,h4,h5,h6,h7⟩:=hold_V hv hx
  refine h.keep ⟨a,b,c,u,v,w,h1⟩ h4 (fun t ht=>?_) (Found.self h2 h3)
  rcases known_iff.1 ht with hm | hm
  ·rcases h6 with h6 | h6
   ·rw [h6] at hm
    exact known_iff.2 (.inl hm)
   ·rw [h6] at hm
    rcases List.mem_append.1 hm with hm | hm
    ·exact known_iff.2 (.inl hm)
    ·exact known_iff.2 (.inr (List.mem_singleton.1 hm))
  ·exact known_iff.2 (.inr (by rw [hm,h4]))
 rw [if_neg k3] at hx
 by_cases k4:d.kind=4
 ·rw [if_pos k4] at hx
  obtain⟨h1,h2,h3,h4,h5,h6⟩:=free_V hv hx
  refine h.keep ⟨a,b,c,u,v,w,h1⟩ h4 (fun t ht=>?_) (Found.self h2 h3)
  rcases known_iff.1 ht with hm | hm
  ·rw [h6] at hm
   exact known_iff.2 (.inl (List.mem_filter.1 hm).1)
  ·exact known_iff.2 (.inr (by rw [hm,h4]))
 rw [if_neg k4] at hx
 by_cases k5:d.kind=5
 ·rw [if_pos k5] at hx
  unfold letR at hx
  rw [if_pos hv.ok] at hx
  obtain⟨h1,h2,h3,h4,h5,h6,h7⟩:=down_V hv hx
  refine h.keep h1 h3 (fun t ht=>?_) h7
  rcases known_iff.1 ht with hm | hm
  ·rw [h5] at hm
   exact known_iff.2 (.inl hm)
  ·exact known_iff.2 (.inr (by rw [hm,h3]))
 rw [if_neg k5] at hx
 by_cases k6:d.kind=6
 ·rw [if_pos k6] at hx
  obtain⟨h1,h2,h3,h4,h5,h6,h7⟩:=join_V hv hx
  refine h.keep h1 h3 (fun t ht=>?_) h7
  rcases known_iff.1 ht with hm | hm
  ·rw [h5] at hm
   exact known_iff.2 (.inl hm)
  ·exact known_iff.2 (.inr (by rw [hm,h3]))
 rw [if_neg k6] at hx
 cases hx
theorem Hist.start {s:Sr} (h:Val s) (ht:s.time<=0):Hist s []:=by
 have hn:entsR s=[]:=by
  cases he:entsR s with
  | nil=>rfl
  | cons e r =>
   have h1:=h.late e (by rw [he]; simp)
   have h2:=h.ent e (by rw [he]; simp)
   simp only [entOk,Bool.and_eq_true,decide_eq_true_eq] at h2
   omega
 exact⟨h,List.Pairwise.nil,(fun e he=>by cases he),(fun e he=>by cases he),fun t _ k f _=>by rw [hn]⟩
end Go.Proofs.YtepeokaplbbpoaaGreat.B

namespace Go.Proofs.YtepeokaplbbpoaaGreat.B
open Go.RowKit Go.Proofs
set_option linter.unusedVariables false
set_option linter.unusedSimpArgs false
variable {E:Env}
end Go.Proofs.YtepeokaplbbpoaaGreat.B

namespace Go.Proofs.YtepeokaplbbpoaaGreat.B
open Go.RowKit Go.Proofs
set_option linter.unusedVariables false
set_option linter.unusedSimpArgs false
variable {E:Env}
def RetF (H0 H:Hp) (u:AV) (o:Option Sr):Prop:=HLe H0 H/\match o with
 | some x=>∃ w,u=.tu [w,.bool true]/\FarS H0.length H w x
 | none=>u=.tu [zst,.bool false]
theorem FarS.shape {B:Nat} {H:Hp} {v:AV} {s:Sr} (h:FarS B H v s):∃ a b c d,v=.ag [a,b,c,.int .i64 s.keep,.int .i64 s.time,d]/\one a=true/\one b=true/\one c=true/\one d=true:=by
 obtain⟨a,b,c,d,lr,sr,e,h1,h2,h3,h4,h5,h6,h7⟩:=h
 exact⟨a,b,c,d,e,h1.one,h2.one,h4.one,h6.one⟩
theorem pastI_fst (s:Sr) (ds:List Dd):(pastI s ds).map (·.1)=pastR s ds:=by
 unfold pastI pastR
 split<;>rfl
theorem implPastDo_ok (v u:AV) (s:Sr) (ds:List Dd) (H:Hp) (hs:St H v s) (hb:StB s) (hu:Dds H u ds) (hk:∀ d∈ds,d.key.size<4611686018427387904) :
  AC Tryz.prog E 40 [v,u] H (fun w H'=>RetF H H' w (pastR s ds)):=by
 have hs0:=hs
 obtain⟨a,b,c,d,rfl,n1,n2,n3,n4,hea,hed⟩:=hs.shape
 refine AC_by fol (tC_le tabJ_ok) h_impl_PastDo ?_
 obtain⟨H1,hH1⟩:∃ H1:Hp,H1=H++[some ⟨[[a,b,c,.int .i64 s.keep,.int .i64 s.time,d]],6,28,false⟩,some ⟨[[.nils,.nils,.nils,.int .i64 0,.int .i64 0,.nils]],6,28,false⟩]:=⟨_,rfl⟩
 have hle1:HLe H H1:=by rw [hH1]; exact HLe.self _ _
 have b0:H1.at H.length=some ⟨[[a,b,c,.int .i64 s.keep,.int .i64 s.time,d]],6,28,false⟩:=by rw [hH1]; simp
 have b1:H1.at (H.length+1)=some ⟨[[.nils,.nils,.nils,.int .i64 0,.int .i64 0,.nils]],6,28,false⟩:=by rw [hH1]; simp
 simp [c_impl_PastDo,n1,n2,n3,n4,<- hH1,b0]
 refine cg_ex (past_ok _ u s ds H1 (hs0.le hle1) hb (Rows.le hu hle1) hk) ?_
 rintro v2 H2 hret
 have hp:=pastI_fst s ds
 obtain⟨hle2,hr⟩:=hret
 have b2:=hle2.2 _ _ b1
 have u2:=Hp.at_lt b2
 have hle:=hle1.trans hle2
 cases hx:pastI s ds with
 | none =>
  rw [hx] at hr hp
  obtain rfl:=hr
  rw [<- hp]
  simp [b2,u2,Hp.at_set,RetF,Hp.at_app,at_len,at_in,set_in']
  exact (hle.set (by omega) _).app _
 | some x =>
  rw [hx] at hr hp
  obtain⟨w,e,rfl,hw,he⟩:=hr
  rw [<- hp]
  obtain⟨a',b',c',d',rfl,o1,o2,o3,o4⟩:=hw.shape
  simp [b2,u2,o1,o2,o3,o4,he.1.rows.one,Hp.at_set,RetF,Hp.at_app,at_len,at_in,set_in']
  have F:=(Fr.one H2 (H.length+1) (some ⟨[[a',b',c',.int .i64 x.1.keep,.int .i64 x.1.time,d']],6,28,false⟩)).app [some ⟨[[a',b',c',.int .i64 x.1.keep,.int .i64 x.1.time,d']],6,28,false⟩]
  exact⟨(hle.set (by omega) _).app _,(hw.fr F (fun y hy=>.inr (fun ob ho=>by rw [hy,b2] at ho; cases ho; rfl))).base hle1.1⟩
theorem implPastAll_ok (v u:AV) (s:Sr) (ds:List Dd) (H:Hp) (hs:St H v s) (hb:StB s) (hu:Dds H u ds) (hk:∀ d∈ds,d.key.size<4611686018427387904) :
  AC Tryz.prog E 37 [v,u] H (fun w H'=>HLe H H'/\OwnE H H' w (((pastI s ds).map (·.2)).getD [])):=by
 have hs0:=hs
 obtain⟨a,b,c,d,rfl,n1,n2,n3,n4,hea,hed⟩:=hs.shape
 refine AC_by fol (tC_le tabJ_ok) h_impl_PastAll ?_
 obtain⟨H1,hH1⟩:∃ H1:Hp,H1=H++[some ⟨[[a,b,c,.int .i64 s.keep,.int .i64 s.time,d]],6,28,false⟩]:=⟨_,rfl⟩
 have hle1:HLe H H1:=by rw [hH1]; exact HLe.self _ _
 have b0:H1.at H.length=some ⟨[[a,b,c,.int .i64 s.keep,.int .i64 s.time,d]],6,28,false⟩:=by rw [hH1]; simp
 simp [c_impl_PastAll,n1,n2,n3,n4,<- hH1,b0]
 refine cg_ex (past_ok _ u s ds H1 (hs0.le hle1) hb (Rows.le hu hle1) hk) ?_
 rintro v2 H2 hret
 obtain⟨hle2,hr⟩:=hret
 have hle:=hle1.trans hle2
 cases hx:pastI s ds with
 | none =>
  rw [hx] at hr
  obtain rfl:=hr
  simp
  exact⟨hle.app _,OwnM.nils⟩
 | some x =>
  rw [hx] at hr
  obtain⟨w,e,rfl,hw,he⟩:=hr
  obtain⟨a',b',c',d',rfl,o1,o2,o3,o4⟩:=hw.shape
  simp [o1,o2,o3,o4,he.1.rows.one]
  exact⟨hle.app _,(he.le (HLe.self _ _)).base hle1.1⟩
end Go.Proofs.YtepeokaplbbpoaaGreat.B

namespace Go.Proofs.YtepeokaplbbpoaaGreat.B
open Go.RowKit Go.Proofs
set_option linter.unusedVariables false
set_option linter.unusedSimpArgs false
variable {E:Env}
theorem Rd.box {H:Hp} {o N n:Nat} (h:Rd H o N) (X:Option Ob) (hne:n≠o) (h1:∀ ob,H.at n=some ob->ob.esz≠1):Rd (List.set H n X) o N :=
 h.fr (Fr.one H n X) (fun e=>hne e.symm) (fun x ob hx ho=>by subst hx; exact h1 ob ho)
theorem l71Deed_ok (o N:Nat) (kv:AV) (ks:List ByteArray) (H:Hp) (hr:Rd H o N) (hk:Strs H kv ks) (hkl:ks.length<1099511627776) (hks:∀ s∈ks,s.size<=5) (hN:N<137438953472) :
  AC Tryz.prog E 127 [.pt o 0 0,kv] H (fun v H'=>∃ d,v=ddAV d/\d.key.size<=5/\Dr o H H'/\Rd H' o (N+9)):=by
 refine AC_by fol (tC_le tab2_ok) h_spec_l71Deed ?_
 have hol:=hr.lt
 have m0:H.length≠o:=by omega
 simp [c_spec_l71Deed]
 refine cg_ex (pick_ok o N 10 _ (hr.le (HLe.self _ _)) (by omega) (by omega)) ?_
 rintro v H1 ⟨n,rfl,hn,hd1,hr1,hlen⟩
 have b1:=hd1.2 H.length ⟨[[.int .i64 0,.str ⟨#[]⟩,.int .i64 0]],3,56,false⟩ (by omega) (by simp)
 have hD:Dr o H H1:=(Fr.app (Fr.refl _ H) _).same hd1
 have hk1:Strs H1 kv ks:=(Rows.dr (hr.le (HLe.self _ _)) (hk.le (HLe.self _ _)) (by decide) hd1)
 have fin:∀ (H2:Hp) (d:Dd) (M:Nat),d.key.size<=5->Dr o H1 H2->Rd H2 o M->M<=N+9->∃ d',ddAV d=ddAV d'/\d'.key.size<=5/\Dr o H (List.set H2 H.length (some ⟨[[.int .i64 d.kind,.str d.key,.int .i64 d.num]],3,56,false⟩))/\Rd (List.set H2 H.length (some ⟨[[.int .i64 d.kind,.str d.key,.int .i64 d.num]],3,56,false⟩)) o (N+9):=by
  intro H2 d M h1 h2 h3 h4
  have b2:=h2.2 _ _ m0 b1
  exact⟨d,rfl,h1,(hD.same h2).set (.inr (Nat.le_refl _)) _,(h3.box _ m0 (fun ob ho=>by rw [b2] at ho; cases ho; simp)).mono h4⟩
 have hcase:n=0\/n=1\/n=2\/n=3\/n=4\/n=5\/n=6\/n=7\/n=8\/n=9:=by omega
 have u1:=Hp.at_lt b1
 have put:∀ t:Tm,True:=fun _=>trivial
 simp
 refine c_split (fun q0=>?_) (fun q0=>?_)<;>simp at q0
 ·simp [q0]
  refine cg_ex (l71Near_ok o _ kv ks _ hr1 hk1 hkl hks (by omega)) ?_
  rintro _ H2 ⟨k,rfl,hk5,hd2,hr2⟩
  simp
  refine cg_ex (pick_ok o _ 100 _ hr2 (by omega) (by omega)) ?_
  rintro _ H3 ⟨m,rfl,hm,hd3,hr3,-⟩
  have hb:=(hd2.same hd3).2 _ _ m0 b1
  simp [hb,Hp.at_set,Hp.at_lt hb]
  exact fin _ ⟨1,k,m⟩ _ hk5 (hd2.same hd3) hr3 (by omega)
 simp
 refine c_split (fun q1=>?_) (fun q1=>?_)<;>simp at q1
 ·simp [q1]
  refine cg_ex (l71Near_ok o _ kv ks _ hr1 hk1 hkl hks (by omega)) ?_
  rintro _ H2 ⟨k,rfl,hk5,hd2,hr2⟩
  simp
  refine cg_ex (pick_ok o _ 100 _ hr2 (by omega) (by omega)) ?_
  rintro _ H3 ⟨m,rfl,hm,hd3,hr3,-⟩
  have hb:=(hd2.same hd3).2 _ _ m0 b1
  simp [hb,Hp.at_set,Hp.at_lt hb]
  exact fin _ ⟨1,k,m⟩ _ hk5 (hd2.same hd3) hr3 (by omega)
 simp
 refine c_split (fun q2=>?_) (fun q2=>?_)<;>simp at q2
 ·simp [q2]
  refine cg_ex (l71Near_ok o _ kv ks _ hr1 hk1 hkl hks (by omega)) ?_
  rintro _ H2 ⟨k,rfl,hk5,hd2,hr2⟩
  simp
  refine cg_ex (pick_ok o _ 100 _ hr2 (by omega) (by omega)) ?_
  rintro _ H3 ⟨m,rfl,hm,hd3,hr3,-⟩
  have hb:=(hd2.same hd3).2 _ _ m0 b1
  simp [hb,Hp.at_set,Hp.at_lt hb]
  exact fin _ ⟨1,k,m⟩ _ hk5 (hd2.same hd3) hr3 (by omega)
 simp
 refine c_split (fun q3=>?_) (fun q3=>?_)<;>simp at q3
 ·simp [q3]
  refine cg_ex (l71Near_ok o _ kv ks _ hr1 hk1 hkl hks (by omega)) ?_
  rintro _ H2 ⟨k,rfl,hk5,hd2,hr2⟩
  simp
  refine cg_ex (pick_ok o _ 100 _ hr2 (by omega) (by omega)) ?_
  rintro _ H3 ⟨m,rfl,hm,hd3,hr3,-⟩
  have hb:=(hd2.same hd3).2 _ _ m0 b1
  simp [hb,Hp.at_set,Hp.at_lt hb]
  exact fin _ ⟨1,k,m⟩ _ hk5 (hd2.same hd3) hr3 (by omega)
 simp
 refine c_split (fun q4=>?_) (fun q4=>?_)<;>simp at q4
 ·simp [q4]
  refine cg_ex (l71Near_ok o _ kv ks _ hr1 hk1 hkl hks (by omega)) ?_
  rintro _ H2 ⟨k,rfl,hk5,hd2,hr2⟩
  simp
  refine cg_ex (pick_ok o _ 100 _ hr2 (by omega) (by omega)) ?_
  rintro _ H3 ⟨m,rfl,hm,hd3,hr3,-⟩
  have hb:=(hd2.same hd3).2 _ _ m0 b1
  simp [hb,Hp.at_set,Hp.at_lt hb]
  exact fin _ ⟨1,k,m⟩ _ hk5 (hd2.same hd3) hr3 (by omega)
 simp [q4]
 refine c_split (fun q5=>?_) (fun q5=>?_)<;>simp at q5
 ·simp
  refine cg_ex (l71Near_ok o _ kv ks _ hr1 hk1 hkl hks (by omega)) ?_
  rintro _ H2 ⟨k,rfl,hk5,hd2,hr2⟩
  have hb:=hd2.2 _ _ m0 b1
  simp [hb,Hp.at_set,Hp.at_lt hb]
  exact fin _ ⟨2,k,0⟩ _ hk5 hd2 hr2 (by omega)
 simp
 refine c_split (fun q6=>?_) (fun q6=>?_)<;>simp at q6
 ·simp [b1,Hp.at_set,u1]
  exact fin H1 ⟨3,⟨#[]⟩,0⟩ _ (by decide) (Fr.refl _ _) hr1 (by omega)
 simp
 refine c_split (fun q7=>?_) (fun q7=>?_)<;>simp at q7
 ·simp
  refine cg_ex (pick_ok o _ 20 _ hr1 (by omega) (by omega)) ?_
  rintro _ H3 ⟨m,rfl,hm,hd3,hr3,-⟩
  have hb:=hd3.2 _ _ m0 b1
  simp [hb,Hp.at_set,Hp.at_lt hb]
  exact fin _ ⟨4,⟨#[]⟩,m⟩ _ (by show 0<=5; omega) hd3 hr3 (by omega)
 simp
 refine c_split (fun q8=>?_) (fun q8=>?_)<;>simp at q8
 ·simp [b1,Hp.at_set,u1]
  exact fin H1 ⟨5,⟨#[]⟩,0⟩ _ (by decide) (Fr.refl _ _) hr1 (by omega)
 simp
 refine cg_ex (pick_ok o _ 3 _ hr1 (by omega) (by omega)) ?_
 rintro _ H3 ⟨m,rfl,hm,hd3,hr3,-⟩
 have hb:=hd3.2 _ _ m0 b1
 simp [hb,Hp.at_set,Hp.at_lt hb]
 exact fin _ ⟨6,⟨#[]⟩,m⟩ _ (by show 0<=5; omega) hd3 hr3 (by omega)
end Go.Proofs.YtepeokaplbbpoaaGreat.B

namespace Go.Proofs.YtepeokaplbbpoaaGreat.B
open Go.RowKit Go.Proofs
set_option linter.unusedVariables false
set_option linter.unusedSimpArgs false
variable {E:Env}
def sv0 (keep:Int):Sv:=⟨⟨#[]⟩,⟨#[]⟩,⟨#[]⟩,[],keep⟩
theorem StoreNew_ok (keep:Int) (H:Hp):AC Tryz.prog E 85 [.int .i64 keep] H (fun u H'=>RetS H H' u (newR keep)):=by
 refine AC_by fol (tC_le tab2_ok) h_spec_StoreNew ?_
 simp [c_spec_StoreNew]
 refine c_split (fun hq=>?_) (fun hq=>?_)<;>simp at hq
 ·have hn:newR keep=none:=by unfold newR; rw [if_neg (by omega)]
  simp [hn,RetS]
 have hn:newR keep=some ⟨[],List.replicate 3 [],List.replicate 3 (sv0 keep),keep,0,[]⟩:=by
  unfold newR
  rw [if_pos (by omega)]
  rfl
 simp
 refine W_for (fun m t H'=>∃ i lv sv lr sr,i+m=3/\t 0=.int .i64 keep/\t 2=.pt H.length 0 0/\t 4=.pt (H.length+3) 0 0/\t 5=.int .i64 (i:Nat)/\HLe H H' /\
  H'.at H.length=some ⟨[[.nils,.nils,.nils,.int .i64 0,.int .i64 0,.nils]],6,28,false⟩ /\
  H'.at (H.length+3)=some ⟨[[.sl (H.length+1) 0 0,lv,sv,.int .i64 keep,.int .i64 0,.sl (H.length+2) 0 0]],6,28,false⟩ /\
  OwnE H H' (.sl (H.length+1) 0 0) []/\OwnI H H' (.sl (H.length+2) 0 0) []/\Own 1 23 H' lv lr/\(∀ x,lv.of x->H.length+4<=x)/\All2 (LvRow H') lr (List.replicate i [])/\OffB H (.sl (H.length+1) 0 0) lr /\
  Own 5 76 H' sv sr/\(∀ x,sv.of x->H.length+4<=x)/\All2 (SvRow H' (fun x=>lv.of x\/H.length+2=x)) sr (List.replicate i (sv0 keep))) 3 ?_ (tC_mono AC_mono) ?_
 ·refine⟨0,.nils,.nils,[],[],rfl,by simp,by simp,by simp,by simp,HLe.self _ _,by simp,by simp,⟨Own.obj (R:=[]) (by simp) rfl,fun x hx=>by simp at hx; omega⟩,⟨Own.obj (R:=[]) (by simp) rfl,fun x hx=>by simp at hx; omega⟩,Own.nils,fun x hx=>hx.elim,trivial,OffB.nil _ _,Own.nils,fun x hx=>hx.elim,trivial⟩
 rintro m t H' ⟨i,lv,sv,lr,sr,him,h0,h2,h4,h5,hle,k0,k3,htop,htms,hlv,hlva,hlvr,hoff,hsv,hsva,hsvr⟩
 simp [h0,h2,h4,h5]
 refine c_split (fun hq2=>?_) (fun hq2=>?_)<;>simp at hq2
 ·have hi3:i<3:=by omega
  have hw:=wrapN (i:=i) (by omega)
  have u0:=Hp.at_lt k0
  have u3:=Hp.at_lt k3
  simp [h0,h2,h4,h5,k3,Hp.at_app,u3]
  rw [List.append_cons]
  have hA:HLe H' (H'++[some ⟨[],4,45,false⟩]):=HLe.self _ _
  refine appG_one' (bytes:=24) (R:=lr) (by simp) (hlv.le hA) (by have:=All2.length hlvr; simp at this; omega) (fun v5 H5 g1 g2 g3=>?_)
  have hF5:Fr lv.of H' H5:=(hA.fr (S:=lv.of)).same g2
  have nlv:∀ x,x<H.length+4->¬lv.of x:=fun x h1 h2=>by have:=hlva x h2; omega
  have k05:=hF5.2 _ _ (nlv _ (by omega)) k0
  have k35:=hF5.2 _ _ (nlv _ (by omega)) k3
  have ktop:=g2.2 H'.length _ (fun h=>by have:=hlv.lt h; omega) (Hp.at_app_0.trans Hp.at_0)
  have u05:=Hp.at_lt k05
  have u35:=Hp.at_lt k35
  have m03:H.length≠H.length+3:=by omega
  have hl5:=g2.1
  simp at hl5
  simp [h0,h2,h4,h5,k35,g1.rows.one,g1.rows.cells,g1.rows.cells1,Hp.at_set,Hp.at_app,List.length_set,u35]
  obtain⟨X,hX⟩:∃ X:Option Ob,X=some ⟨[[.sl (H.length+1) 0 0,v5,sv,.int .i64 keep,.int .i64 0,.sl (H.length+2) 0 0]],6,28,false⟩:=⟨_,rfl⟩
  rw [<- hX]
  obtain⟨G5,hG5⟩:∃ G5:Hp,G5=List.set H5 (H.length+3) X:=⟨_,rfl⟩
  have hGl:H5.length=G5.length:=by rw [hG5]; simp
  have hG:Fr (fun x=>x=H.length+3) H5 G5:=by rw [hG5]; exact Fr.one _ _ _
  have kG3:G5.at (H.length+3)=X:=by rw [hG5]; exact Hp.at_set _ u35
  rw [<- hG5,hGl,List.append_cons]
  have hB:HLe G5 (G5++[some ⟨[],1,9,false⟩]):=HLe.self _ _
  have hsv5:Own 5 76 H5 sv sr:=hsv.fr hF5 (fun x hx h=>hlv.rows.apart hsv.rows (by simp) h hx)
  have hsvG:Own 5 76 G5 sv sr:=hsv5.fr hG (fun x hx=>by have:=hsva x hx; omega)
  refine appG_one' (bytes:=80) (R:=sr) (by simp) (hsvG.le hB) (by have:=All2.length hsvr; simp at this; omega) (fun v7 H7 p1 p2 p3=>?_)
  have hF7:Fr sv.of G5 H7:=(hB.fr (S:=sv.of)).same p2
  have nsv:∀ x,x<H.length+4->¬sv.of x:=fun x h1 h2=>by have:=hsva x h2; omega
  have kG0:=hG.2 _ _ m03 k05
  have k07:=hF7.2 _ _ (nsv _ (by omega)) kG0
  have k37:=hF7.2 _ _ (nsv _ (by omega)) (kG3.trans hX)
  have u37:=Hp.at_lt k37
  have hl7:=hF7.1
  have hsvl:∀ x,sv.of x->x<H'.length:=fun x hx=>hsv.lt hx
  have hlvl:∀ x,lv.of x->x<H'.length:=fun x hx=>hlv.lt hx
  have ktG:=hG.2 _ _ (show H'.length≠H.length+3 by omega) ktop
  have kt7:=hF7.2 _ _ (fun h=>by have:=hsvl _ h; omega) ktG
  have ks7:=p2.2 G5.length _ (fun h=>by have:=hsvl _ h; omega) (Hp.at_app_0.trans Hp.at_0)
  simp [h0,h2,h4,h5,k37,p1.rows.one,p1.rows.cells,p1.rows.cells1,hw]
  obtain⟨Z,hZ⟩:∃ Z:Option Ob,Z=some ⟨[[.sl (H.length+1) 0 0,v5,v7,.int .i64 keep,.int .i64 0,.sl (H.length+2) 0 0]],6,28,false⟩:=⟨_,rfl⟩
  rw [<- hZ]
  have hS:=Fr.one H7 (H.length+3) Z
  have hF58:Fr (fun x=>x=H.length+3\/sv.of x) H5 (List.set H7 (H.length+3) Z):=((hG.mono (fun x hx=>.inl (.inl hx))).trans hF7 (fun x hx=>.inl (.inr hx))).trans hS (fun x hx=>.inl (.inl hx))
  have hF8:Fr (fun x=>lv.of x\/sv.of x\/x=H.length+3) H' (List.set H7 (H.length+3) Z):=(hF5.mono (fun x hx=>.inl (.inl hx))).trans hF58 (fun x hx=>hx.elim (fun h=>.inl (.inr (.inr h))) (fun h=>.inl (.inr (.inl h))))
  have ns4:∀ x ob,(lv.of x\/sv.of x\/x=H.length+3)->H'.at x=some ob->ob.esz≠4:=fun x ob hs ho=>by
   rcases hs with h | h | h
   ·rw [hlv.esz h ho]; decide
   ·rw [hsv.esz h ho]; decide
   ·subst h; rw [k3] at ho; cases ho; simp
  have v5a:∀ x,v5.of x->lv.of x\/H'.length<=x:=fun x hx=>(g3 x hx).imp id (fun h=>by simp at h; omega)
  have v7a:∀ x,v7.of x->sv.of x\/H5.length<=x:=fun x hx=>(p3 x hx).imp id (fun h=>by simp at h; omega)
  have k0F:=hS.2 _ _ m03 k07
  have ktF:=hS.2 _ _ (show H'.length≠H.length+3 by omega) kt7
  have ksF:=hS.2 _ _ (show G5.length≠H.length+3 by omega) ks7
  refine⟨m-1,by omega,i+1,by omega,by omega,hle.fr_le hF8 (fun x hx=>by rcases hx with h | h | h; (have:=hlva x h; omega); (have:=hsva x h; omega); omega),k0F,v5,v7,(Hp.at_set _ u37).trans hZ,?_,?_,lr++[[.sl H'.length 0 0]],?_,?_,?_,hoff.add (fun y hy hy2=>by have h1:H.length+1=y:=hy; have h2:H'.length=y:=hy2; have:=Hp.at_lt k3; omega) (fun y hy=>by have h2:H'.length=y:=hy; have:=hle.1; omega),sr++[[.str ⟨#[]⟩,.str ⟨#[]⟩,.str ⟨#[]⟩,.sl G5.length 0 0,.int .i64 keep]],?_,?_,?_⟩
  ·exact htop.fr hF8 (fun x hx hs=>by
    have hx':H.length+1=x:=hx
    rcases hs with h | h | h
    ·have:=hlva x h; omega
    ·have:=hsva x h; omega
    ·omega)
  ·exact htms.fr hF8 (fun x hx hs=>by
    have hx':H.length+2=x:=hx
    rcases hs with h | h | h
    ·have:=hlva x h; omega
    ·have:=hsva x h; omega
    ·omega)
  ·exact g1.fr hF58 (fun x hx hs=>by
    rcases hs with h | h
    ·rcases v5a x hx with hh | hh
     ·have:=hlva x hh; omega
     ·omega
    ·exact g1.rows.apart hsv5.rows (by simp) hx h)
  ·intro x hx
   rcases v5a x hx with h | h
   ·exact hlva x h
   ·omega
  ·rw [List.replicate_succ']
   exact (All2.mono (fun row es h=>h.fr hF8 ns4) hlvr).append ⟨⟨_,rfl,Own.rows (ety:=45) (Own.obj (R:=[]) ktF rfl)⟩,trivial⟩
  ·exact p1.fr hS (fun x hx=>by
    rcases v7a x hx with h | h
    ·have:=hsva x h; omega
    ·omega)
  ·intro x hx
   rcases v7a x hx with h | h
   ·exact hsva x h
   ·omega
  ·rw [List.replicate_succ']
   refine (All2.mono (fun row sv' h=>?_) hsvr).append ⟨⟨.sl G5.length 0 0,rfl,Own.rows (ety:=9) (Own.obj (R:=[]) ksF rfl),fun x hx h=>?_⟩,trivial⟩
   ·refine SvRow.fr (X':=fun x=>v5.of x\/H.length+2=x) h hF8 (fun x ob hs ho=>?_) (fun x hx hx'=>hx'.elim (fun h=>(v5a x h).elim .inl (fun h=>by omega)) .inr)
    rcases hs with h | h | h
    ·exact .inr (.inl h)
    ·exact .inl (by rw [hsv.esz h ho]; decide)
    ·exact .inl (by subst h; rw [k3] at ho; cases ho; simp)
   ·have hx':G5.length=x:=hx
    rcases h with h | h
    ·have:=g1.lt h; omega
    ·omega
 ·have hi3:i=3:=by omega
  subst hi3
  have u0:=Hp.at_lt k0
  obtain⟨ol,rfl⟩:=hlv.sl (by rw [hlvr.length]; simp)
  obtain⟨os,rfl⟩:=hsv.sl (by rw [hsvr.length]; simp)
  have hl3:lr.length=3:=by rw [hlvr.length]; simp
  have hs3:sr.length=3:=by rw [hsvr.length]; simp
  rw [hl3] at hlv k3
  rw [hs3] at hsv k3
  simp [h2,h4,k0,k3,Hp.at_set,u0,hn]
  have hF:=Fr.one H' H.length (some ⟨[[.sl (H.length+1) 0 0,.sl ol 0 3,.sl os 0 3,.int .i64 keep,.int .i64 0,.sl (H.length+2) 0 0]],6,28,false⟩)
  have hm:MSt H H' (.ag [.sl (H.length+1) 0 0,.sl ol 0 3,.sl os 0 3,.int .i64 keep,.int .i64 0,.sl (H.length+2) 0 0]) ⟨[],List.replicate 3 [],List.replicate 3 (sv0 keep),keep,0,[]⟩ :=
   ⟨.sl (H.length+1) 0 0,ol,os,.sl (H.length+2) 0 0,lr,sr,rfl,htop,hlv,hlvr,hsv,All2.mono (fun _ _ h=>by
    obtain⟨r,e1,e2,e3⟩:=h
    rw [hl3] at e3
    exact⟨r,e1,e2,e3⟩) hsvr,htms,fun hx=>by have:=hlva ol rfl; simp at hx; omega,by have:=hlva ol rfl; omega,by have:=hsva os rfl; omega,rfl,rfl,hoff⟩
  exact⟨hle.fr_le hF (fun x hx=>by rw [hx]; exact Nat.le_refl _),_,rfl,hm.fr hF (fun y ob hy ho=>by rw [hy,k0] at ho; cases ho; rfl)⟩
end Go.Proofs.YtepeokaplbbpoaaGreat.B

namespace Go.Proofs.YtepeokaplbbpoaaGreat.B
open Go.RowKit Go.Proofs
set_option linter.unusedVariables false
set_option linter.unusedSimpArgs false
variable {E:Env}
abbrev OwnD:=OwnM (α:=Dd) 3 56 ddRow
theorem l71Deeds_ok (o N:Nat) (most:Nat) (H:Hp) (hr:Rd H o N) (hm:most<1000) (hN:N<68719476736) :
  AC Tryz.prog E 86 [.pt o 0 0,.int .i64 most] H (fun v H'=>∃ ds,OwnD H H' v ds/\ds.length<=most+1/\(∀ d∈ds,d.key.size<=5)/\Dr o H H'/\Rd H' o (N+39+10 * most)):=by
 refine AC_by fol (tC_le tab2_ok) h_spec_l71Deeds ?_
 have hw0:=wrapN (i:=most) (by omega)
 simp [c_spec_l71Deeds,hw0]
 refine cg_ex (l71Keys_ok o N 5 H hr (by omega) (by omega)) ?_
 rintro kv H1 ⟨ks,hks,hkl,hksz,hd1,hr1⟩
 simp [hw0]
 refine cg_ex (pick_ok o _ ((most:Int)+1) _ (hr1.le (HLe.self _ _)) (by omega) (by omega)) ?_
 rintro v H2 ⟨n,rfl,hn,hd2,hr2,hlen⟩
 have hd0:Dr o H H2:=(hd1.app _).same hd2
 have hn1:n<=most:=by omega
 have hks2:OwnS H H2 kv ks:=OwnM.dr (hr1.le (HLe.self _ _)) (hks.le (HLe.self _ _)) (by decide) hd2
 simp
 refine W_for (fun m t H'=>∃ ds v,m<=most/\t 0=.pt o 0 0/\t 5=kv/\t 6=v/\t 7=.int .i64 m/\OwnD H H' v ds/\OwnS H H' kv ks/\ds.length+m<=most/\(∀ d∈ds,d.key.size<=5)/\Dr o H H'/\Rd H' o (N+37+10 * (most-m))) n ?_ (tC_mono AC_mono) ?_
 ·refine⟨[],_,hn1,by simp,by simp,by simp; rfl,by simp,?_,hks2,by simpa using hn1,by simp,hd0,hr2.mono (by omega)⟩
  exact (OwnM.dr (hr1.le (HLe.self _ _)) (OwnM.lit0 (HLe.refl H1)) (by decide) hd2).base hd1.len
 rintro m t H' ⟨ds,v,hm5,h0,h5,h6,h7,hv,hkv,hdl,hdk,hd,hr⟩
 simp [h0,h5,h6,h7]
 refine c_split (fun hq=>?_) (fun hq=>?_)<;>simp at hq
 ·have hw:IntKind.i64.wrap ((m:Int)-1)=((m-1:Nat):Int):=by rw [wrap64 (by omega) (by omega)]; omega
  simp [h0,h5,h6,h7]
  refine cg_ex (l71Deed_ok o _ kv ks H' hr hkv.strs (by omega) hksz (by omega)) ?_
  rintro _ H2 ⟨e,rfl,hk5,hd2,hr2⟩
  have hkv2:=OwnM.dr hr hkv (by decide) hd2
  have hv2:=OwnM.dr hr hv (by decide) hd2
  simp [h0,h5,h6,h7,ddAV]
  have hla:=hd.len
  have hl2a:=hd2.len
  refine appG_one' (bytes:=32) (R:=ds.map ddRow) rfl hv2.1 (by simp; omega) (fun v5 H5 g1 g2 g3=>?_)
  have hv5:OwnD H H5 v5 (ds++[e]):=⟨by simpa [ddRow] using g1,fun x hx=>(g3 x hx).elim (hv2.2 x) (fun h=>by omega)⟩
  have hr5:=(hr2.fr g2 (fun h=>hr2.ne hv2.rows (by decide) h rfl) (fun x ob hx ho=>by rw [hv2.1.esz hx ho]; decide))
  have hd5:Dr o H H5:=(hd.same hd2).trans g2 (fun x hx=>.inr (hv2.2 x hx))
  have hkv5:=hkv2.fr g2 (fun x hx hs=>hkv2.rows.apart hv2.rows (by simp) hx hs)
  simp [h0,h5,h6,h7,hw]
  refine⟨m-1,by omega,by omega,rfl,ds++[e],hv5,hkv5,by simp; omega,fun d hd=>?_,hd5,hr5.mono (by omega)⟩
  rcases List.mem_append.1 hd with h | h
  ·exact hdk d h
  ·rw [List.mem_singleton.1 h]; exact hk5
 ·have:m=0:=by omega
  subst this
  simp [h0,h6]
  refine cg_ex (pick_ok o _ 24 _ hr (by omega) (by omega)) ?_
  rintro _ H2 ⟨c,rfl,hc,hd2,hr2,-⟩
  have hv2:=OwnM.dr hr hv (by decide) hd2
  simp [h0,h6]
  refine c_split (fun hq=>?_) (fun hq=>?_)<;>simp at hq
  ·simp [h0,h6]
   refine cg_ex (pick_ok o _ 9 _ hr2 (by omega) (by omega)) ?_
   rintro _ H3 ⟨q,rfl,hq9,hd3,hr3,-⟩
   have hv3:=OwnM.dr hr2 hv2 (by decide) hd3
   simp [h0,h6]
   have hlb:=hd.len
   have hl2b:=hd2.len
   have hl3b:=hd3.len
   refine appG_one' (bytes:=32) (R:=ds.map ddRow) rfl hv3.1 (by simp; omega) (fun v5 H5 g1 g2 g3=>?_)
   have hv5:OwnD H H5 v5 (ds++[⟨IntKind.i64.wrap ((q:Int)-1),⟨#[120]⟩,-1⟩]):=⟨by simpa [ddRow] using g1,fun x hx=>(g3 x hx).elim (hv3.2 x) (fun h=>by omega)⟩
   have hr5:=(hr3.fr g2 (fun h=>hr3.ne hv3.rows (by decide) h rfl) (fun x ob hx ho=>by rw [hv3.1.esz hx ho]; decide))
   have hd5:Dr o H H5:=((hd.same hd2).same hd3).trans g2 (fun x hx=>.inr (hv3.2 x hx))
   simp
   refine⟨_,hv5,by simp; omega,fun d hd=>?_,hd5,hr5.mono (by omega)⟩
   rcases List.mem_append.1 hd with h | h
   ·exact hdk d h
   ·rw [List.mem_singleton.1 h]; show 1<=5; omega
  ·simp [h0,h6]
   exact⟨ds,hv2,by omega,hdk,hd.same hd2,hr2.mono (by omega)⟩
end Go.Proofs.YtepeokaplbbpoaaGreat.B

namespace Go.Proofs.YtepeokaplbbpoaaGreat.B
open Go.RowKit Go.Proofs
set_option linter.unusedVariables false
set_option linter.unusedSimpArgs false
variable {E:Env}
theorem MSt.frn {S:Nat->Prop} {H0 H H':Hp} {v:AV} {s:Sr} (h:MSt H0 H v s) (hf:Fr S H H') (hS:∀ x ob,S x->H.at x=some ob->ob.esz=2\/ob.esz=6):MSt H0 H' v s:=by
 obtain⟨a,ol,os,d,lr,sr,rfl,ha,hlv,hlr,hsv,hsr,hd,hdo,hol,hos,hl3,hs3,hoff⟩:=h
 have no:∀ {esz ety:Nat} {v:AV} {R:List (List AV)},esz≠2/\esz≠6->Own esz ety H v R->∀ x,v.of x->¬S x:=by
  intro esz ety v R hne ho x hx hs
  rcases ho with ⟨rfl,_⟩ | ⟨rfl,_⟩ | ⟨o',ob,rfl,a2,a3,a4,_⟩
  ·exact hx.elim
  ·exact hx.elim
  ·have:o'=x:=hx
   subst this
   rcases hS _ _ hs a2 with h | h
   ·exact hne.1 (a4.symm.trans h)
   ·exact hne.2 (a4.symm.trans h)
 refine⟨a,ol,os,d,lr,sr,rfl,ha.fr hf (no (by omega) ha.1),hlv.fr hf (no (by omega) hlv),All2.mono (fun _ _ h=>h.fr hf (fun x ob hs ho=>by have:=hS x ob hs ho; omega)) hlr,hsv.fr hf (no (by omega) hsv),
  All2.mono (fun _ _ h=>h.fr hf (fun x ob hs ho=>.inl (by have:=hS x ob hs ho; omega)) (fun _ _ h=>h)) hsr,hd.fr hf (no (by omega) hd.1),hdo,hol,hos,hl3,hs3,hoff⟩
theorem doAll_small:∀ (ds:List Dd) {s:Sr},Small s->Small (doAll s ds)
 | [],s,h=>h
 | d :: ds,s,h=>by
  have:doAll s (d :: ds)=doAll ((doR s d).getD s) ds:=rfl
  rw [this]
  refine doAll_small ds ?_
  cases hd:doR s d with
  | none=>exact h
  | some x=>exact doR_small hd
theorem pastR_small {s x:Sr} {ds:List Dd} (h:pastR s ds=some x):Small x:=by
 unfold pastR at h
 split at h
 ·rename_i hc
  cases h
  simp only [Bool.and_eq_true] at hc
  exact doAll_small ds (storeOk_small hc.1)
 ·cases h
end Go.Proofs.YtepeokaplbbpoaaGreat.B

namespace Go.Proofs.YtepeokaplbbpoaaGreat.B
open Go.RowKit Go.Proofs
set_option linter.unusedVariables false
set_option linter.unusedSimpArgs false
variable {E:Env}
theorem l71StoreM_ok (o N:Nat) (H:Hp) (hr:Rd H o N) (hN:N<34359738368) :
  AC Tryz.prog E 101 [.pt o 0 0] H (fun v H'=>∃ s,MSt H H' v s/\Small s/\storeOk s=true/\Val s/\Dr o H H'/\Rd H' o (N+400)):=by
 refine AC_by fol (tC_le tab2_ok) h_spec_l71Store ?_
 have hol:=hr.lt
 simp [c_spec_l71Store]
 refine cg_ex (pick_ok o N 5 _ (hr.le (HLe.self _ _)) (by omega) (by omega)) ?_
 rintro v H1 ⟨n,rfl,hn,hd1,hr1,hlen⟩
 have b0:=hd1.2 H.length ⟨[[.nils,.nils,.nils,.int .i64 0,.int .i64 0,.nils]],6,28,false⟩ (by omega) (by simp)
 have bl:=hd1.2 (H.length+1) ⟨[[.int .i64 0],[.int .i64 1],[.int .i64 1],[.int .i64 2],[.int .i64 5]],1,3,false⟩ (by omega) (by simp)
 have hD1:Dr o H H1:=(Fr.app (Fr.refl _ H) _).same hd1
 have hn5:n<5:=by omega
 have hnI:(n:Int)<5:=by omega
 have hrow:∃ k:Int,(0<=k/\k<=5)/\([[.int .i64 0],[.int .i64 1],[.int .i64 1],[.int .i64 2],[.int .i64 5]]:List (List AV))[n]?=some [.int .i64 k]:=by
  have:n=0\/n=1\/n=2\/n=3\/n=4:=by omega
  rcases this with rfl | rfl | rfl | rfl | rfl<;>exact⟨_,by constructor<;>decide,rfl⟩
 obtain⟨k,hk05,hk⟩:=hrow
 simp [bl,hk,hnI]
 refine cg_ex (StoreNew_ok k H1) ?_
 intro v2 H2 hret
 obtain⟨s0,hs0⟩:∃ s0,newR k=some s0:=by
  unfold newR
  rw [if_pos hk05]
  exact⟨_,rfl⟩
 have hso:storeOk s0=true:=by
  obtain⟨a,b,c,u,v,w,hv⟩:=newR_V hs0
  exact hv.ok
 rw [hs0] at hret
 obtain⟨xa,xb,xc,xk,xt,xd,rfl,o1,o2,o3,o4,o5,o6⟩:=hret.shape
 simp [o1,o2,o3,o4,o5,o6]
 have hr2:=hr1.le hret.1
 have hl2:=hret.1.1
 have hl1:=hD1.len
 have hB:=HLe.self H2 [some ⟨[[xa,xb,xc,xk,xt,xd]],6,28,false⟩]
 refine cg_ex (l71Deeds_ok o _ 30 _ (hr2.le hB) (by omega) (by omega)) ?_
 rintro dv H3 ⟨ds,hds,hdl,hdk,hd3,hr3⟩
 have esz2:∀ x ob,x=o->H2.at x=some ob->ob.esz=2\/ob.esz=6:=by
  intro x ob hx ho
  obtain⟨b,bs,p,h1,_⟩:=hr2
  rw [hx,h1] at ho
  cases ho
  exact .inl rfl
 have hmm:MSt H1 H2 (.ag [xa,xb,xc,xk,xt,xd]) s0:=by
  obtain⟨_,w,hw,hm⟩:=hret
  cases hw
  exact hm
 have hm3:=hmm.frn ((Fr.app (Fr.refl (fun x=>x=o) H2) [some ⟨[[xa,xb,xc,xk,xt,xd]],6,28,false⟩]).same hd3) esz2
 have hsm:=newR_small hs0
 have c3:=hd3.2 H2.length _ (show ¬H2.length=o by omega) (Hp.at_app_0.trans Hp.at_0)
 have b03:=hd3.2 H.length _ (show ¬H.length=o by omega) (hB.2 _ _ (hret.1.2 _ _ b0))
 simp [c3]
 refine cg_ex (PastDo_ok _ dv s0 ds H3 hm3.st hsm.stB hds.rows (fun d hd=>by have:=hdk d hd; omega)) ?_
 intro v4 H4 hret4
 have hp:pastR s0 ds=some (doAll s0 ds):=by
  unfold pastR
  rw [if_pos (by rw [hso,Bool.true_and,decide_eq_true_iff]; omega)]
 rw [hp] at hret4
 obtain⟨ya,yb,yc,yk,yt,yd,rfl,p1,p2,p3,p4,p5,p6⟩:=hret4.shape
 have c4:=hret4.1.2 _ _ c3
 have b04:=hret4.1.2 _ _ b03
 have u4:=Hp.at_lt c4
 have u04:=Hp.at_lt b04
 have hl1':=Hp.at_lt b0
 have m0:H2.length≠H.length:=by omega
 simp [p1,p2,p3,p4,p5,p6,c4,b04,Hp.at_set,Hp.at_set_ne,List.length_set,u4,u04,m0,m0.symm]
 obtain⟨W,hW⟩:∃ W:Option Ob,W=some ⟨[[ya,yb,yc,yk,yt,yd]],6,28,false⟩:=⟨_,rfl⟩
 rw [<- hW]
 have hF:=((Fr.refl (fun x=>x=H2.length\/x=H.length) H4).set (o:=H2.length) (.inl (.inl rfl)) W).set (o:=H.length) (.inl (.inr rfl)) W
 have e6:∀ x ob,(x=H2.length\/x=H.length)->H4.at x=some ob->ob.esz=2\/ob.esz=6:=by
  intro x ob hx ho
  rcases hx with h | h
  ·rw [h,c4] at ho; cases ho; exact .inr rfl
  ·rw [h,b04] at ho; cases ho; exact .inr rfl
 have hm5:MSt H3 H4 (.ag [ya,yb,yc,yk,yt,yd]) (doAll s0 ds):=by
  obtain⟨_,w,hw,hm⟩:=hret4
  cases hw
  exact hm
 have hB1:=hB.1
 have hd31:=hd3.len
 refine⟨doAll s0 ds,(hm5.frn hF e6).base (by omega),pastR_small hp,(by
  obtain⟨a,b,c,u,v,w,hv⟩:=doAll_V ds (newR_V hs0)
  exact hv.ok),doAll_V ds (newR_V hs0),((((hD1.le_fr hret.1).app _).same hd3).le_fr hret4.1).trans hF (fun x hx=>.inr (by rcases hx with h | h<;>omega)),Rd.mono ((hr3.le hret4.1).fr hF (by omega) (fun x ob hx ho=>by have:=e6 x ob hx ho; omega)) (by omega)⟩
end Go.Proofs.YtepeokaplbbpoaaGreat.B

namespace Go.Proofs.YtepeokaplbbpoaaGreat.B
open Go.RowKit Go.Proofs
set_option linter.unusedVariables false
set_option linter.unusedSimpArgs false
variable {E:Env}
theorem addBs_l (d:Nat):∀ (gs:List (List ByteArray)) (b:Bool) (s:Sv),(addBs d b s gs).l.size<=s.l.size+gs.length
 | [],b,s=>Nat.le_refl _
 | g :: gs,b,s=>by
  have h:=addBs_l d gs false (addB d b s g)
  have h2:(addB d b s g).l.size=s.l.size+1:=by
   simp only [addB,ByteArray.size_append]
   rfl
  simp only [addBs,List.length_cons]
  omega
theorem bfs_l:∀ (n:Nat) (q:List Fk) (s:Sv),(∀ f∈q,f.1.length<=24)->(bfs n q s).l.size<=s.l.size+n * 24
 | 0,q,s,h=>by simp [bfs]
 | n+1,[],s,h=>by simp [bfs]
 | n+1,(ks,d) :: q,s,h=>by
  have hk:ks.length<=24:=h (ks,d) (List.mem_cons_self ..)
  have h1:=bfs_l n (q++subs d (brs d ks)) (addBs d true s (brs d ks)) (fun f hf=>(List.mem_append.1 hf).elim (fun hf=>h f (List.mem_cons_of_mem _ hf)) (subs_len hk f))
  have h2:=addBs_l d (brs d ks) true s
  have h3:=(brs_sum _ d ks (Nat.le_refl _)).2
  simp only [bfs]
  omega
theorem sieveO_l {ks:List ByteArray} {keep:Int} {x:Sv} (h:sieveO ks keep=some x):x.l.size<=12000:=by
 unfold sieveO at h
 split at h
 ·rename_i hc
  cases h
  have:=bfs_l 500 [(ks,0)] ⟨⟨#[]⟩,⟨#[]⟩,⟨#[]⟩,[],keep⟩ (fun f hf=>by
   simp at hf
   subst hf
   exact (keysOk_good hc.1).2)
  have e:(⟨#[]⟩:ByteArray).size=0:=rfl
  simp only [e] at this
  unfold sieveR
  omega
 ·cases h
theorem storeOk_l0 {s:Sr} (h:storeOk s=true) (h3:0<s.sv.length):s.sv[0].l.size<=12000:=by
 simp only [storeOk,Bool.and_eq_true,decide_eq_true_eq] at h
 have h0:=h.2.1.1
 simp only [levelOk,Bool.and_eq_true,decide_eq_true_eq] at h0
 have:=sieveO_l h0.2
 rwa [getD_get _ h3] at this
theorem MSt.appT {H0 H H':Hp} {a a' d:AV} {ol os:Nat} {s:Sr} {tp:List Ent} (h:MSt H0 H (.ag [a,.sl ol 0 3,.sl os 0 3,.int .i64 s.keep,.int .i64 s.time,d]) s) (hf:Fr a.of H H') (ha:Ents H' a' tp) :
  St H' (.ag [a',.sl ol 0 3,.sl os 0 3,.int .i64 s.keep,.int .i64 s.time,d]) { s with top:=tp }:=by
 obtain⟨a2,ol2,os2,d2,lr,sr,hv,ha2,hlv,hlr,hsv,hsr,hd2,hdo2,hol,hos,hl3,hs3,hoff⟩:=h
 simp only [stAV,hl3,hs3,AV.ag.injEq,List.cons.injEq,AV.sl.injEq,and_true,true_and] at hv
 obtain⟨rfl,rfl,rfl,rfl⟩:=hv
 have n4:∀ {e:Nat},e≠4->∀ x ob,a.of x->H.at x=some ob->ob.esz≠e:=fun he x ob hx ho=>by rw [ha2.1.esz hx ho]; exact he.symm
 refine⟨a',.sl ol 0 3,.sl os 0 3,d,lr,sr,rfl,ha,?_,?_,?_,All2.mono (fun row sv h=>?_) hsr,Rows.frz hd2.ints hf (n4 (by simp))⟩
 ·rw [<- hl3]
  exact Rows.frz hlv.rows hf (n4 (by simp))
 ·have key:∀ {lr:List (List AV)} {ls:List (List Ent)},All2 (LvRow H) lr ls->(∀ y,a.of y->∀ u,[u]∈lr->¬u.of y)->All2 (LvRow H') lr ls:=by
   intro lr
   induction lr with
   | nil=>intro ls h _; cases ls with
    | nil=>trivial
    | cons=>exact h.elim
   | cons r lr ih=>intro ls h ho; cases ls with
    | nil=>exact h.elim
    | cons l ls =>
     obtain⟨⟨u,rfl,hu⟩,h2⟩:=h
     exact⟨⟨u,rfl,Rows.fr hu hf (fun y hy hs=>ho y hs u (List.mem_cons_self ..) hy)⟩,ih h2 (fun y hy w hw=>ho y hy w (List.mem_cons_of_mem _ hw))⟩
  exact key hlr hoff.1
 ·rw [<- hs3]
  exact Rows.frz hsv.rows hf (n4 (by simp))
 ·obtain⟨r,e1,e2,_⟩:=h
  exact⟨r,e1,Rows.frz e2 hf (n4 (by simp)),fun _ _ h=>h⟩
def BoxS (H:Hp) (L:Nat) (s:Sr):Prop:=∃ a b c d,H.at L=some ⟨[[a,b,c,.int .i64 s.keep,.int .i64 s.time,d]],6,28,false⟩/\one a=true/\one b=true/\one c=true/\one d=true/\St H (.ag [a,b,c,.int .i64 s.keep,.int .i64 s.time,d]) s/\StB s
structure Spl (s:Sr):Prop where
 val:storeOk s=true->Val s
 key:∀ e∈s.top++s.lev.flatten,e.key.size<=5
 sml:s.top.length<=2000/\s.lev.length<=3/\∀ l∈s.lev,l.length<=1000
theorem Small.sml {s:Sr} (h:Small s):s.top.length<=2000/\s.lev.length<=3/\∀ l∈s.lev,l.length<=1000:=by
 obtain⟨h1,h2,h3,h4,h5,h6,h7,h8,h9⟩:=h
 exact⟨by have:=h1.1; omega,by omega,fun l hl=>(h2 l hl).1⟩
theorem runOk_key {r:List Ent} (h:runOk r=true):∀ e∈r,e.key.size<=5:=by
 simp only [runOk,decide_eq_true_eq] at h
 intro e he
 obtain⟨i,hi,rfl⟩:=List.getElem_of_mem he
 have:=(h.1 i hi).1
 simp only [entOk,Bool.and_eq_true] at this
 exact keyOk_size this.1.1.1
theorem Val.key {s:Sr} (h:Val s):∀ e∈s.top++s.lev.flatten,e.key.size<=5:=by
 obtain⟨a,b,c,u,v,w,h⟩:=h
 rw [h.lev]
 intro e he
 simp only [List.flatten_cons,List.flatten_nil,List.append_nil,List.mem_append] at he
 rcases he with he | he | he | he
 ·exact runOk_key h.top e he
 ·exact runOk_key h.la.run e he
 ·exact runOk_key h.lb.run e he
 ·exact runOk_key h.lc.run e he
def SpJ (o N:Nat) (H:Hp) (L:Nat) (t:Tm) (H':Hp):Prop:=t 2=.pt H.length 0 0/\t 3=.pt L 0 0/\H'.at H.length=some ⟨[[.nils,.nils,.nils,.int .i64 0,.int .i64 0,.nils]],6,28,false⟩/\(∃ s,BoxS H' L s/\Spl s)/\Dr o H H'/\Rd H' o (N+410)
theorem BoxS.of {H:Hp} {L:Nat} {a b c d:AV} {s:Sr} {R:List (List AV)} (hb:H.at L=some ⟨R,6,28,false⟩) (hs:St H (.ag [a,b,c,.int .i64 s.keep,.int .i64 s.time,d]) s) (hB:StB s) :
  BoxS (List.set H L (some ⟨[[a,b,c,.int .i64 s.keep,.int .i64 s.time,d]],6,28,false⟩)) L s:=by
 have hs2:=hs.fr6 (Fr.one H L (some ⟨[[a,b,c,.int .i64 s.keep,.int .i64 s.time,d]],6,28,false⟩)) (fun y ob hy ho=>by rw [hy,hb] at ho; cases ho; rfl)
 obtain⟨a',b',c',d',e,n1,n2,n3,n4,_⟩:=hs.shape
 simp only [stAV,AV.ag.injEq,List.cons.injEq,and_true,true_and] at e
 obtain⟨rfl,rfl,rfl,rfl⟩:=e
 exact⟨a,b,c,d,Hp.at_set _ (Hp.at_lt hb),n1,n2,n3,n4,hs2,hB⟩
theorem SpJ.put {o N:Nat} {H K:Hp} {L:Nat} {t:Tm} {a b c d:AV} {s:Sr} {R:List (List AV)} (t2:t 2=.pt H.length 0 0) (t3:t 3=.pt L 0 0) (hb:K.at H.length=some ⟨[[.nils,.nils,.nils,.int .i64 0,.int .i64 0,.nils]],6,28,false⟩)
  (hc:K.at L=some ⟨R,6,28,false⟩) (hL:H.length<L) (ho:o<H.length) (hs:St K (.ag [a,b,c,.int .i64 s.keep,.int .i64 s.time,d]) s) (hB:StB s) (hV:Spl s) (hD:Dr o H K) {M:Nat} (hr:Rd K o M) (hM:M<=N+410) :
  SpJ o N H L t (List.set K L (some ⟨[[a,b,c,.int .i64 s.keep,.int .i64 s.time,d]],6,28,false⟩)):=by
 have F:=Fr.one K L (some ⟨[[a,b,c,.int .i64 s.keep,.int .i64 s.time,d]],6,28,false⟩)
 exact⟨t2,t3,(Hp.at_set_ne (by omega)).trans hb,⟨s,BoxS.of hc hs hB,hV⟩,hD.trans F (fun x hx=>.inr (by omega)),Rd.mono (hr.fr F (by omega) (fun x ob hx ho=>by rw [hx,hc] at ho; cases ho; simp)) hM⟩
theorem ok_head {s:Sr} (h:storeOk s=true):s.lev.length=3/\s.sv.length=3/\(0<=s.keep/\s.keep<=5)/\(0<=s.time/\s.time<=999)/\timesR s.tms s.time=true/\runOk s.top=true:=by
 simp only [storeOk,headOk,Bool.and_eq_true,decide_eq_true_eq] at h
 obtain⟨⟨⟨⟨⟨⟨h1,h2⟩,h3⟩,h4⟩,h5⟩,h6,h7⟩,h8⟩:=h
 exact⟨h1,h2,h3,h4,h5,h6⟩
theorem spoil_tms {s:Sr} (h:storeOk { s with tms:=s.tms++[s.time+1] }=true):Val { s with tms:=s.tms++[s.time+1] }:=by
 have h5:=(ok_head h).2.2.2.2.1
 simp only [timesR,Bool.and_eq_true] at h5
 have:=asc1_bnd _ _ _ h5.1 (s.time+1) (by simp)
 omega
theorem spoil_sv {s:Sr} (h0:storeOk s=true) (hl:0<s.lev.length) (hv:0<s.sv.length) (h:storeOk { s with sv:=s.sv.set 0 { (s.sv[0]'hv) with l:=(s.sv[0]'hv).l++⟨#[97]⟩ } }=true):False:=by
 have lv:∀ {q:Sr},storeOk q=true->levelOk q 0=true:=fun {q} hq=>by
  simp only [storeOk,Bool.and_eq_true,decide_eq_true_eq] at hq
  exact hq.2.1.1
 have a1:=lv h0
 have a2:=lv h
 simp only [levelOk,Bool.and_eq_true,decide_eq_true_eq] at a1 a2
 have e:=a1.2.symm.trans a2.2
 rw [getD_get default hv,getD_get default (by simpa using hv)] at e
 simp only [List.getElem_set_self,Option.some.injEq] at e
 have e2:=congrArg (fun q:Sv=>q.l.size) e
 simp only [ByteArray.size_append] at e2
 have:(⟨#[97]⟩:ByteArray).size=1:=rfl
 omega
theorem spoil_top {s:Sr} (h:storeOk { s with top:=s.top++[⟨⟨#[]⟩,0,false,0⟩] }=true):False:=by
 have h6:=(ok_head h).2.2.2.2.2
 simp only [runOk,decide_eq_true_eq] at h6
 have:=(h6.1 s.top.length (by simp)).1
 simp [entOk] at this
theorem lit2 {z:Nat} (hz:z<2):∃ k:Int,(k<0\/999<k)/\I64 k/\([[.int .i64 (-1)],[.int .i64 1000]]:List (List AV))[z]?=some [.int .i64 k]:=by
 have:z=0\/z=1:=by omega
 rcases this with rfl | rfl
 ·exact⟨-1,.inl (by decide),⟨by decide,by decide⟩,rfl⟩
 ·exact⟨1000,.inr (by decide),⟨by decide,by decide⟩,rfl⟩
set_option maxHeartbeats 1600000 in
theorem l71Spoilt_ok (o N:Nat) (H:Hp) (hr:Rd H o N) (hN:N<34359738368) :
  AC Tryz.prog E 45 [.pt o 0 0] H (fun v H'=>∃ s,St H' v s/\StB s/\Spl s/\Dr o H H'/\Rd H' o (N+410)):=by
 refine AC_by fol (tC_le tab2_ok) h_spec_l71Spoilt ?_
 have hol:=hr.lt
 obtain⟨H1,hH1⟩:∃ H1:Hp,H1=H++[some ⟨[[.nils,.nils,.nils,.int .i64 0,.int .i64 0,.nils]],6,28,false⟩]:=⟨_,rfl⟩
 have hle1:HLe H H1:=by rw [hH1]; exact HLe.self _ _
 have b1:H1.at H.length=some ⟨[[.nils,.nils,.nils,.int .i64 0,.int .i64 0,.nils]],6,28,false⟩:=by rw [hH1]; simp
 have hD1:Dr o H H1:=hle1.fr
 simp [c_spec_l71Spoilt,<- hH1]
 refine cg_ex (l71StoreM_ok o N H1 (hr.le hle1) hN) ?_
 rintro v H2 ⟨s,hm2,hsm,hok,hval,hd2,hr2⟩
 obtain⟨xa,xl,xs,xd,rfl,xn1,xn2,xdi⟩:=hm2.shape
 have b2:=hd2.2 _ _ (show ¬H.length=o by omega) b1
 obtain⟨H3,hH3⟩:∃ H3:Hp,H3=H2++[some ⟨[[xa,.sl xl 0 3,.sl xs 0 3,.int .i64 s.keep,.int .i64 s.time,xd]],6,28,false⟩]:=⟨_,rfl⟩
 have hle3:HLe H2 H3:=by rw [hH3]; exact HLe.self _ _
 have c3:H3.at H2.length=some ⟨[[xa,.sl xl 0 3,.sl xs 0 3,.int .i64 s.keep,.int .i64 s.time,xd]],6,28,false⟩:=by rw [hH3]; simp
 have b3:=hle3.2 _ _ b2
 have hr3:=hr2.le hle3
 have hm3:=(hm2.le hle3).base hle1.1
 have hD3:Dr o H H3:=(hD1.same hd2).le_fr hle3
 simp [xn1,xn2,<- hH3]
 refine cg_ex (pick_ok o _ 14 _ hr3 (by omega) (by omega)) ?_
 rintro v H4 ⟨n,rfl,hn,hd4,hr4,hlen⟩
 have l21:H.length<H2.length:=Hp.at_lt b2
 have b4:=hd4.2 _ _ (show ¬H.length=o by omega) b3
 have c4:=hd4.2 _ _ (show ¬H2.length=o by omega) c3
 have e2:∀ x ob,x=o->H3.at x=some ob->ob.esz=2\/ob.esz=6:=by
  intro x ob hx ho
  obtain⟨b,bs,p,h1,_⟩:=hr3
  rw [hx,h1] at ho
  cases ho
  exact .inl rfl
 have hm4:=hm3.frn hd4 e2
 have hD4:Dr o H H4:=hD3.same hd4
 have u4:=Hp.at_lt b4
 have hS:∀ y ob,y=H.length->H4.at y=some ob->ob.esz=6:=fun y ob hy ho=>by rw [hy,b4] at ho; cases ho; rfl
 simp
 refine c_split (fun hq=>?_) (fun hq=>?_)<;>simp at hq
 ·simp [c4,b4,xn1,xn2,Hp.at_set,u4]
  have F:=Fr.one H4 H.length (some ⟨[[xa,.sl xl 0 3,.sl xs 0 3,.int .i64 s.keep,.int .i64 s.time,xd]],6,28,false⟩)
  exact⟨s,hm4.st.fr6 F hS,hsm.stB,⟨fun _=>hval,hval.key,hsm.sml⟩,hD4.trans F (fun x hx=>.inr (by omega)),Rd.mono (hr4.fr F (by omega) (fun x ob hx ho=>by have:=hS x ob hx ho; omega)) (by omega)⟩
 rw [W_skip]
 refine W_cut (tC_mono AC_mono) (SpJ o N H H2.length) ?_ ?_
 ·simp
  refine cg_ex (pick_ok o _ 6 _ hr4 (by omega) (by omega)) ?_
  rintro v H5 ⟨q,rfl,hq6,hd5,hr5,hlen5⟩
  have b5:=hd5.2 _ _ (show ¬H.length=o by omega) b4
  have c5:=hd5.2 _ _ (show ¬H2.length=o by omega) c4
  have e4:∀ x ob,x=o->H4.at x=some ob->ob.esz=2\/ob.esz=6:=by
   intro x ob hx ho
   obtain⟨b,bs,p,h1,_⟩:=hr4
   rw [hx,h1] at ho
   cases ho
   exact .inl rfl
  have hm5:=hm4.frn hd5 e4
  have hD5:Dr o H H5:=hD4.same hd5
  have u5:=Hp.at_lt c5
  simp
  refine c_split (fun q0=>?_) (fun q0=>?_)<;>simp at q0
  ·simp
   refine cg_ex (pick_ok o _ 2 _ (hr5.le (HLe.self _ _)) (by omega) (by omega)) ?_
   rintro v H6 ⟨z,rfl,hz,hd6,hr6,hlen6⟩
   have b6:=hd6.2 _ _ (show ¬H.length=o by omega) ((HLe.self _ _).2 _ _ b5)
   have c6:=hd6.2 _ _ (show ¬H2.length=o by omega) ((HLe.self _ _).2 _ _ c5)
   have l6:=hd6.2 _ _ (show ¬H5.length=o by omega) (Hp.at_app_0.trans Hp.at_0)
   have e5:∀ x ob,x=o->(H5++[some ⟨[[.int .i64 (-1)],[.int .i64 1000]],1,3,false⟩]:Hp).at x=some ob->ob.esz=2\/ob.esz=6:=by
    intro x ob hx ho
    obtain⟨b,bs,p,h1,_⟩:=hr5.le (HLe.self H5 [some ⟨[[.int .i64 (-1)],[.int .i64 1000]],1,3,false⟩])
    rw [hx,h1] at ho
    cases ho
    exact .inl rfl
   have hm6:=(hm5.le (HLe.self _ _)).frn hd6 e5
   have hD6:Dr o H H6:=(hD5.app _).same hd6
   have u6:=Hp.at_lt c6
   have hz2:z<2:=by omega
   have hzI:(z:Int)<2:=by omega
   obtain⟨k,hkb,hk64,hk⟩:=lit2 hz2
   obtain⟨p1,p2,p3⟩:=hm6.parts
   simp [l6,hk,hzI,c6,u6]
   have hBs:=hsm.stB
   exact SpJ.put (s:={ s with time:=k }) (by simp) (by simp) b6 c6 l21 hol (hm6.upd (tp:=s.top) (ts:=s.tms) k p1 p2 p3 (fun y h=>h) (fun lr h _=>h)).st ⟨hBs.1,hBs.2.1,hBs.2.2.1,hBs.2.2.2.1,hBs.2.2.2.2.1,hBs.2.2.2.2.2.1,hk64,hBs.2.2.2.2.2.2.2.1,hBs.2.2.2.2.2.2.2.2⟩ ⟨fun h=>by have:=(ok_head h).2.2.2.1; simp only at this; omega,hval.key,hsm.sml⟩ hD6 hr6 (by omega)
  simp
  refine c_split (fun q1=>?_) (fun q1=>?_)<;>simp at q1
  ·obtain⟨p1,p2,p3⟩:=hm5.parts
   have ht:=storeOk_time hok
   have hlt:=(headI_parts (storeOk_ok hok).1).2.2.2.2.1
   simp [c5,ht]
   refine appG_one (bytes:=8) (R:=s.tms.map intRow) p2.1 (by have:=hsm.2.2.1; simp; omega) (fun v6 H6 g1 g2 g3=>?_)
   have nd:∀ {x:Nat} {ob:Ob},H5.at x=some ob->ob.ety≠3->¬xd.of x:=fun ho he hx=>he (p2.1.ety hx ho)
   have b6:=g2.2 _ _ (nd b5 (by simp)) b5
   have c6:=g2.2 _ _ (nd c5 (by simp)) c5
   have u6:=Hp.at_lt c6
   have hl5:=hD5.len
   have g1':OwnI H H6 v6 (s.tms++[s.time+1]):=⟨by simpa [intRow] using g1,fun y hy=>(g3 y hy).elim (p2.2 y) (fun h=>by omega)⟩
   have hm6:=hm5.app (ts:=s.tms++[s.time+1]) g2 g1' g3
   have hBs:=hsm.stB
   simp [c6,u6,g1.rows.one,g1.rows.cells,g1.rows.cells1]
   refine SpJ.put (s:={ s with tms:=s.tms++[s.time+1] }) (by simp) (by simp) b6 c6 l21 hol hm6.st ⟨hBs.1,hBs.2.1,hBs.2.2.1,hBs.2.2.2.1,by have:=hsm.2.2.1; simp; omega,hBs.2.2.2.2.2.1,hBs.2.2.2.2.2.2.1,hBs.2.2.2.2.2.2.2.1,fun t ht=>?_⟩ ⟨spoil_tms,hval.key,hsm.sml⟩ (hD5.trans g2 (fun x hx=>.inr (p2.2 x hx))) (hr5.fr2 g2 (fun x hx=>by have:=p2.2 x hx; omega)) (by omega)
   rcases List.mem_append.1 ht with h | h
   ·exact hBs.2.2.2.2.2.2.2.2 t h
   ·rw [List.mem_singleton.1 h]
    exact⟨by omega,by omega⟩
  simp
  refine c_split (fun q2=>?_) (fun q2=>?_)<;>simp at q2
  ·obtain⟨a',b',c',d',lr,sr,e,f1,f2,f3,f4,f5,f6⟩:=hm5.st
   simp only [stAV,AV.ag.injEq,List.cons.injEq,and_true,true_and] at e
   obtain⟨rfl,rfl,rfl,rfl⟩:=e
   have hlr3:lr.length=3:=by rw [f3.length]; exact hsm.2.2.2.2.2.2.2.1
   have hBs:=hsm.stB
   simp [c5]
   refine cutG_from f2 1 rfl (by omega) (fun u g1 g2=>?_)
   simp [c5,u5,g1.one,g1.cells,g1.cells1]
   exact SpJ.put (s:={ s with lev:=s.lev.drop 1 }) (by simp) (by simp) b5 c5 l21 hol ⟨xa,u,.sl xs 0 3,xd,lr.drop 1,sr,rfl,f1,g1,All2.drop f3 1,f4,f5,f6⟩ ⟨hBs.1,fun es he=>hBs.2.1 es (List.mem_of_mem_drop he),by have:=hBs.2.2.1; simp; omega,hBs.2.2.2⟩ ⟨fun h=>by have:=(ok_head h).1; have h3:=hsm.2.2.2.2.2.2.2.1; simp at this; omega,fun e he=>hval.key e (by
    rcases List.mem_append.1 he with h | h
    ·exact List.mem_append_left _ h
    ·obtain⟨l,h1,h2⟩:=List.mem_flatten.1 h
     exact List.mem_append_right _ (List.mem_flatten.2 ⟨l,List.mem_of_mem_drop h1,h2⟩)),hsm.sml.1,by have:=hsm.sml.2.1; simp; omega,fun l hl=>hsm.sml.2.2 l (List.mem_of_mem_drop hl)⟩ hD5 hr5 (by omega)
  simp
  refine c_split (fun q3=>?_) (fun q3=>?_)<;>simp at q3
  ·obtain⟨a2,ol2,os2,d2,lr,sr,hv,ha2,hlv,hlr,hsv,hsr,hd2',hdo2,hol2,hos2,hl3,hs3,hoff⟩:=hm5
   simp only [stAV,hl3,hs3,AV.ag.injEq,List.cons.injEq,AV.sl.injEq,and_true,true_and] at hv
   obtain⟨rfl,rfl,rfl,rfl⟩:=hv
   have hsv':=hsv
   obtain⟨e2,obs,j1,j2,j3,j4,j5,j6⟩:=hsv'.ob
   have hsr3:sr.length=3:=by omega
   obtain⟨x0,hx0⟩:∃ x0,x0=s.sv[0]'(by omega):=⟨_,rfl⟩
   obtain⟨r0,hr0,hr1,_⟩:=hsr.get 0 (by omega) (by omega)
   rw [<- hx0] at hr0 hr1
   have hx0l:x0.l.size<=12000:=by rw [hx0]; exact storeOk_l0 hok (by omega)
   have hsz:x0.l.size+(⟨#[97]⟩:ByteArray).size<=9223372036854775807:=by
    have:(⟨#[97]⟩:ByteArray).size=1:=rfl
    omega
   have j7:obs.rows[0]?=some [.str x0.l,.str x0.m,.str x0.f,r0,.int .i64 x0.k]:=by
    have:(obs.rows.take sr.length)[0]?=sr[0]?:=by rw [j6]
    rw [List.getElem?_take,if_pos (by omega)] at this
    rw [this,List.getElem?_eq_getElem (by omega),hr0]
   have u1:=Hp.at_lt j1
   simp [c5,j1,j2,j3,j7,hsz,u1]
   obtain⟨K,hK⟩:∃ K:Hp,K=List.set H5 xs (some ⟨obs.rows.set 0 [.str (x0.l++⟨#[97]⟩),.str x0.m,.str x0.f,r0,.int .i64 x0.k],5,obs.ety,false⟩):=⟨_,rfl⟩
   rw [<- hK]
   have F:Fr (fun y=>y=xs) H5 K:=by rw [hK]; exact Fr.one _ _ _
   have jK:K.at xs=some { obs with rows:=obs.rows.set 0 [.str (x0.l++⟨#[97]⟩),.str x0.m,.str x0.f,r0,.int .i64 x0.k] }:=by rw [hK,Hp.at_set _ u1,<- j2,<- j3]
   have n5:∀ {e:Nat},e≠5->∀ x ob,x=xs->H5.at x=some ob->ob.esz≠e:=fun he x ob hx ho=>by
    rw [hx,j1] at ho
    cases ho
    omega
   have ne6:∀ {x:Nat} {ob:Ob},H5.at x=some ob->ob.esz=6->¬x=xs:=fun ho he hx=>by
    rw [hx,j1] at ho
    cases ho
    omega
   have hsvK:=hsv.setRow j1 0 _ jK
   have hBs:=hsm.stB
   refine⟨by simp,by simp,F.2 _ _ (ne6 b5 rfl) b5,⟨{ s with sv:=s.sv.set 0 { x0 with l:=x0.l++⟨#[97]⟩ } },⟨xa,.sl xl 0 3,.sl xs 0 3,xd,F.2 _ _ (ne6 c5 rfl) c5,xn1,by simp,by simp,xn2,?_,hBs.1,hBs.2.1,hBs.2.2.1,by simpa using hBs.2.2.2.1,hBs.2.2.2.2.1,fun y hy=>?_,hBs.2.2.2.2.2.2⟩,⟨fun h=>by rw [hx0] at h; exact (spoil_sv hok (by have:=hsm.2.2.2.2.2.2.2.1; omega) (by omega) h).elim,hval.key,hsm.sml⟩⟩,hD5.trans F (fun x hx=>.inr (by omega)),Rd.mono (hr5.fr2 F (fun x hx=>by omega)) (by omega)⟩
   ·refine⟨xa,.sl xl 0 3,.sl xs 0 3,xd,lr,sr.set 0 [.str (x0.l++⟨#[97]⟩),.str x0.m,.str x0.f,r0,.int .i64 x0.k],rfl,Rows.frz ha2.ents F (n5 (by simp)),?_,All2.mono (fun _ _ h=>h.fr F (n5 (by simp))) hlr,?_,All2.set (All2.mono (fun row sv h=>?_) hsr) 0 ⟨r0,rfl,Rows.frz hr1 F (n5 (by simp)),fun _ _ h=>h⟩,Rows.frz hd2'.ints F (n5 (by simp))⟩
    ·rw [<- hl3]
     exact Rows.frz hlv.rows F (n5 (by simp))
    ·rw [<- hs3]
     exact hsvK.rows
    ·obtain⟨r,e1,e2,_⟩:=h
     exact⟨r,e1,Rows.frz e2 F (n5 (by simp)),fun _ _ h=>h⟩
   ·rcases List.mem_or_eq_of_mem_set hy with h | h
    ·exact hBs.2.2.2.2.2.1 y h
    ·rw [h]
     exact hBs.2.2.2.2.2.1 x0 (by rw [hx0]; exact List.getElem_mem _)
  simp
  refine c_split (fun q4=>?_) (fun q4=>?_)<;>simp at q4
  ·obtain⟨a',b',c',d',lr,sr,e,f1,f2,f3,f4,f5,f6⟩:=hm5.st
   simp only [stAV,AV.ag.injEq,List.cons.injEq,and_true,true_and] at e
   obtain⟨rfl,rfl,rfl,rfl⟩:=e
   have hBs:=hsm.stB
   simp [c5,u5]
   exact SpJ.put (s:={ s with keep:=6 }) (by simp) (by simp) b5 c5 l21 hol ⟨xa,_,_,xd,lr,sr,rfl,f1,f2,f3,f4,f5,f6⟩ ⟨hBs.1,hBs.2.1,hBs.2.2.1,hBs.2.2.2.1,hBs.2.2.2.2.1,hBs.2.2.2.2.2.1,hBs.2.2.2.2.2.2.1,⟨by simp,by simp⟩,hBs.2.2.2.2.2.2.2.2⟩ ⟨fun h=>by have:=(ok_head h).2.2.1; simp at this,hval.key,hsm.sml⟩ hD5 hr5 (by omega)
  ·obtain⟨p1,p2,p3⟩:=hm5.parts
   simp [c5]
   refine appG_one (bytes:=40) (R:=s.top.map entRow) p1.1 (by have:=hsm.1.1; simp; omega) (fun v6 H6 g1 g2 g3=>?_)
   have nd:∀ {x:Nat} {ob:Ob},H5.at x=some ob->ob.ety≠45->¬xa.of x:=fun ho he hx=>he (p1.1.ety hx ho)
   have b6:=g2.2 _ _ (nd b5 (by simp)) b5
   have c6:=g2.2 _ _ (nd c5 (by simp)) c5
   have u6:=Hp.at_lt c6
   have g1':Ents H6 v6 (s.top++[⟨⟨#[]⟩,0,false,0⟩]):=by
    have:=g1.rows
    simpa [entRow,Ents] using this
   have hBs:=hsm.stB
   simp [c6,u6,g1.rows.one,g1.rows.cells,g1.rows.cells1]
   refine SpJ.put (s:={ s with top:=s.top++[⟨⟨#[]⟩,0,false,0⟩] }) (by simp) (by simp) b6 c6 l21 hol (hm5.appT g2 g1') ⟨⟨by have:=hsm.1.1; simp; omega,fun e he=>?_⟩,hBs.2⟩ ⟨fun h=>(spoil_top h).elim,fun e he=>by
    rcases List.mem_append.1 he with h | h
    ·rcases List.mem_append.1 h with h | h
     ·exact hval.key e (List.mem_append_left _ h)
     ·rw [List.mem_singleton.1 h]
      exact Nat.zero_le _
    ·exact hval.key e (List.mem_append_right _ h),by have:=hsm.1.1; simp; omega,hsm.sml.2⟩ (hD5.trans g2 (fun x hx=>.inr (p1.2 x hx))) (hr5.fr2 g2 (fun x hx=>by have:=p1.2 x hx; omega)) (by omega)
   rcases List.mem_append.1 he with h | h
   ·exact hBs.1.2 e h
   ·rw [List.mem_singleton.1 h]
    exact⟨by show (0:Nat)<_; omega,⟨by simp,by simp⟩,⟨by simp,by simp⟩⟩
 rintro t H5 ⟨t2,t3,b5,⟨s',⟨a',b',c',d',c5,n1,n2,n3,n4,hs5,hB5⟩,hV5⟩,hD5,hr5⟩
 have u5:=Hp.at_lt b5
 simp [t2,t3,c5,b5,n1,n2,n3,n4,Hp.at_set,u5]
 have F:=Fr.one H5 H.length (some ⟨[[a',b',c',.int .i64 s'.keep,.int .i64 s'.time,d']],6,28,false⟩)
 have hS5:∀ y ob,y=H.length->H5.at y=some ob->ob.esz=6:=fun y ob hy ho=>by rw [hy,b5] at ho; cases ho; rfl
 exact⟨s',hs5.fr6 F hS5,hB5,hV5,hD5.trans F (fun x hx=>.inr (by omega)),Rd.mono (hr5.fr F (by omega) (fun x ob hx ho=>by have:=hS5 x ob hx ho; omega)) (by omega)⟩
end Go.Proofs.YtepeokaplbbpoaaGreat.B

namespace Go.Proofs.YtepeokaplbbpoaaGreat.B
open Go.RowKit Go.Proofs
set_option linter.unusedVariables false
set_option linter.unusedSimpArgs false
variable {E:Env}
theorem toList_inj' {x y:ByteArray} (h:x.toList=y.toList):x=y:=by
 have:=toList_beq x y
 rw [h] at this
 simpa using this.symm
theorem ltRuns_ok (a b:AV) (xs ys:List Ent) (H:Hp) (ha:Ents H a xs) (hb:Ents H b ys) (hx:xs.length<9223372036854775807):AC Tryz.prog E 19 [a,b] H (fun v H'=>v=.bool (decide (xs=ys))/\H'=H):=by
 refine AC_byp (CLe.refl _) h_laws_ltRuns (by simp) ?_
 have l1:=ha.len
 have l2:=hb.len
 simp [c_laws_ltRuns,l1,l2,ha.slc,hb.slc]
 refine c_split (fun hq=>?_) (fun hq=>?_)<;>simp at hq<;>simp
 ·intro h
  subst h
  exact hq rfl
 ·refine W_for (fun k t H'=>∃ i:Nat,i+k=xs.length/\t 0=a/\t 1=b/\t 5=.int .i64 i/\(∀ j:Nat,j<i->xs[j]?=ys[j]?)/\HLe H H') xs.length ?_ AC_mono ?_
  ·exact⟨0,by simp⟩
  rintro k t H' ⟨i,hik,h0,h1,h5,hI,hle⟩
  simp [h0,h1,h5,l1,ha.slc]
  refine c_split (fun hq2=>?_) (fun hq2=>?_)<;>simp at hq2
  ·have hw:=wrapN (i:=i) (by omega)
   obtain⟨o1,i1,ob1,rfl,a1,a2,a3⟩:=(ha.le hle).get hq2
   obtain⟨o2,i2,ob2,rfl,b1,b2,b3⟩:=(hb.le hle).get (j:=i) (by omega)
   obtain⟨m,hm⟩:∃ m,m=xs[i]:=⟨_,rfl⟩
   obtain⟨n,hn⟩:∃ n,n=ys[i]'(by omega):=⟨_,rfl⟩
   rw [<- hm] at a3
   rw [<- hn] at b3
   simp [h0,h1,h5,a1,a2,a3,b1,b2,b3,hq2,<- hq,entRow]
   refine c_split (fun hq3=>?_) (fun hq3=>?_)<;>simp at hq3<;>simp [h0,h1,h5,hw,hle]
   ·intro h
    subst h
    rw [<- hn] at hm
    subst hm
    simp at hq3
   ·refine⟨k-1,by omega,i+1,by omega,by omega,fun j hj=>?_⟩
    rcases Nat.lt_or_ge j i with h | h
    ·exact hI j h
    ·have:j=i:=by omega
     subst this
     rw [List.getElem?_eq_getElem hq2,List.getElem?_eq_getElem (by omega),<- hm,<- hn]
     obtain⟨m1,m2,m3,m4⟩:=m
     obtain⟨n1,n2,n3,n4⟩:=n
     simp at hq3 ⊢
     exact⟨toList_inj' hq3.1,hq3.2.1,hq3.2.2.1,hq3.2.2.2⟩
  ·simp [hle]
   apply List.ext_getElem?
   intro j
   rcases Nat.lt_or_ge j i with h | h
   ·exact hI j h
   ·rw [List.getElem?_eq_none (by omega),List.getElem?_eq_none (by omega)]
end Go.Proofs.YtepeokaplbbpoaaGreat.B

namespace Go.Proofs.YtepeokaplbbpoaaGreat.B
open Go.RowKit Go.Proofs
set_option linter.unusedVariables false
set_option linter.unusedSimpArgs false
variable {E:Env}
end Go.Proofs.YtepeokaplbbpoaaGreat.B

namespace Go.Proofs.YtepeokaplbbpoaaGreat.B
open Go.RowKit
set_option linter.unusedVariables false
set_option linter.unusedSimpArgs false
end Go.Proofs.YtepeokaplbbpoaaGreat.B

namespace Go.Proofs.YtepeokaplbbpoaaGreat.B
open Go.RowKit Go.Proofs
set_option linter.unusedVariables false
set_option linter.unusedSimpArgs false
variable {E:Env}
theorem BoxS.mk' {K:Hp} {L:Nat} {a b c k t d:AV} {y:Sr} (hb:K.at L=some ⟨[[a,b,c,k,t,d]],6,28,false⟩) (hs:St K (.ag [a,b,c,k,t,d]) y) (hB:StB y):BoxS K L y:=by
 have hs0:=hs
 obtain⟨a',b',c',d',e,n1,n2,n3,n4,_⟩:=hs.shape
 simp only [stAV,AV.ag.injEq,List.cons.injEq,and_true,true_and] at e
 obtain⟨rfl,rfl,rfl,rfl,rfl,rfl⟩:=e
 exact⟨a,b,c,d,hb,n1,n2,n3,n4,hs0,hB⟩
theorem St.frE {S:Nat->Prop} {e:Nat} {H H':Hp} {v:AV} {s:Sr} (h:St H v s) (hf:Fr S H H') (he:e≠1/\e≠4/\e≠5) (hS:∀ y ob,S y->H.at y=some ob->ob.esz=e):St H' v s:=by
 obtain⟨a,b,c,d,lr,sr,e0,h1,h2,h3,h4,h5,h6⟩:=h
 have n:∀ {k:Nat},e≠k->∀ y ob,S y->H.at y=some ob->ob.esz≠k:=fun hk y ob hy ho=>by rw [hS y ob hy ho]; exact hk
 exact⟨a,b,c,d,lr,sr,e0,Rows.frz h1 hf (n he.2.1),Rows.frz h2 hf (n he.1),All2.mono (fun _ _ ⟨u,k1,k2⟩=>⟨u,k1,Rows.frz k2 hf (n he.2.1)⟩) h3,Rows.frz h4 hf (n he.2.2),All2.mono (fun _ _ ⟨u,k1,k2,k3⟩=>⟨u,k1,Rows.frz k2 hf (n he.1),k3⟩) h5,Rows.frz h6 hf (n he.1)⟩
end Go.Proofs.YtepeokaplbbpoaaGreat.B

namespace Go.Proofs.YtepeokaplbbpoaaGreat.B
open Go.RowKit Go.Proofs
set_option linter.unusedVariables false
set_option linter.unusedSimpArgs false
variable {E:Env}
end Go.Proofs.YtepeokaplbbpoaaGreat.B

namespace Go.Proofs.YtepeokaplbbpoaaGreat.B
open Go.RowKit Go.Proofs
set_option linter.unusedVariables false
set_option linter.unusedSimpArgs false
variable {E:Env}
theorem Rd.e2 {K:Hp} {r M:Nat} (hr:Rd K r M):∀ x ob,x=r->K.at x=some ob->ob.esz=2:=by
 intro x ob hx ho
 obtain⟨b,bs,p,h1,_⟩:=hr
 rw [hx,h1] at ho
 cases ho
 rfl
end Go.Proofs.YtepeokaplbbpoaaGreat.B

namespace Go.Proofs.YtepeokaplbbpoaaGreat.B
open Go.RowKit Go.Proofs
set_option linter.unusedVariables false
set_option linter.unusedSimpArgs false
variable {E:Env}
def sNil:Sr:=⟨[],[],[],0,0,[]⟩
theorem sNil_B:StB sNil:=⟨⟨by simp [sNil],by simp [sNil,Fits]⟩,by simp [sNil],by simp [sNil],by simp [sNil],by simp [sNil],by simp [sNil],by simp [sNil,I64],by simp [sNil,I64],by simp [sNil]⟩
theorem RetS.vl {H0 H:Hp} {u:AV} {o:Option Sr} (h:RetS H0 H u o) (hb:∀ x,o=some x->Small x):HLe H0 H/\StB (o.getD sNil)/\∃ a b c d,u=.tu [.ag [a,b,c,.int .i64 (o.getD sNil).keep,.int .i64 (o.getD sNil).time,d],.bool o.isSome]/\one a=true/\one b=true/\one c=true/\one d=true/\St H (.ag [a,b,c,.int .i64 (o.getD sNil).keep,.int .i64 (o.getD sNil).time,d]) (o.getD sNil):=by
 obtain⟨h1,h2⟩:=h
 cases o with
 | none=>exact⟨h1,sNil_B,.nils,.nils,.nils,.nils,h2,rfl,rfl,rfl,rfl,.nils,.nils,.nils,.nils,[],[],rfl,Rows.nil,Rows.nil,trivial,Rows.nil,trivial,Rows.nil⟩
 | some x =>
  obtain⟨w,e,hm⟩:=h2
  obtain⟨a,b,c,d,rfl,n1,n2,n3,n4,_⟩:=hm.st.shape
  exact⟨h1,(hb x rfl).stB,a,b,c,d,e,n1,n2,n3,n4,hm.st⟩
theorem St.box {H K:Hp} {a b c d:AV} {s:Sr} (h:St H (.ag [a,b,c,.int .i64 s.keep,.int .i64 s.time,d]) s) (hK:K=H++[some ⟨[[a,b,c,.int .i64 s.keep,.int .i64 s.time,d]],6,28,false⟩]) :
  HLe H K/\K.at H.length=some ⟨[[a,b,c,.int .i64 s.keep,.int .i64 s.time,d]],6,28,false⟩/\St K (.ag [a,b,c,.int .i64 s.keep,.int .i64 s.time,d]) s:=by
 have hle:HLe H K:=by rw [hK]; exact HLe.self _ _
 exact⟨hle,by rw [hK]; simp,h.le hle⟩
end Go.Proofs.YtepeokaplbbpoaaGreat.B

namespace Go.Proofs.YtepeokaplbbpoaaGreat.B
open Go.RowKit Go.Proofs
set_option linter.unusedVariables false
set_option linter.unusedSimpArgs false
variable {E:Env}
end Go.Proofs.YtepeokaplbbpoaaGreat.B

namespace Go.Proofs.YtepeokaplbbpoaaGreat.B
open Go.RowKit Go.Proofs
set_option linter.unusedVariables false
set_option linter.unusedSimpArgs false
variable {E:Env}
theorem intoR_time {n:Nat} {s x:Sr} {r:List Ent} (h:intoR n s r=some x):x.time=s.time:=(intoR_tms h).2.2.2
theorem doR_time {s y:Sr} {d:Dd} (h:doR s d=some y):((d.kind=1\/d.kind=2)/\y.time=s.time+1)\/(¬(d.kind=1\/d.kind=2)/\y.time=s.time):=by
 have add:∀ {e:Ent},addR s e=some y->y.time=e.time:=by
  intro e he
  unfold addR at he
  split at he
  ·split at he
   ·cases he
   ·cases he
    rfl
  ·cases he
 unfold doR at h
 by_cases h1:d.kind=1
 ·rw [if_pos h1] at h
  exact .inl ⟨.inl h1,add h⟩
 rw [if_neg h1] at h
 by_cases h2:d.kind=2
 ·rw [if_pos h2] at h
  exact .inl ⟨.inr h2,add h⟩
 rw [if_neg h2] at h
 refine .inr ⟨by simp [h1,h2],?_⟩
 by_cases h3:d.kind=3
 ·rw [if_pos h3] at h
  exact holdR_time h
 rw [if_neg h3] at h
 by_cases h4:d.kind=4
 ·rw [if_pos h4] at h
  unfold freeR at h
  split at h
  ·simp only at h
   split at h
   ·cases h
   ·cases h
    rfl
  ·cases h
 rw [if_neg h4] at h
 by_cases h5:d.kind=5
 ·rw [if_pos h5] at h
  unfold letR at h
  split at h
  ·exact (intoR_time h).trans rfl
  ·cases h
 rw [if_neg h5] at h
 by_cases h6:d.kind=6
 ·rw [if_pos h6] at h
  unfold joinR at h
  split at h
  ·split at h
   ·cases h
   ·rename_i x hx
    exact (intoR_time h).trans (setR_tms hx).2.2.2
  ·cases h
 rw [if_neg h6] at h
 cases h
theorem wr1_eq {s y:Sr} {d:Dd} (h:doR s d=some y):wr1 s d=if s.time<y.time then [if d.kind=2 then ⟨d.key,0,true,y.time⟩ else ⟨d.key,d.num,false,y.time⟩] else []:=by
 unfold wr1
 rw [h]
 simp only
 rcases doR_time h with ⟨hk,ht⟩ | ⟨hk,ht⟩
 ·rcases hk with hk | hk
  ·have:s.time<s.time+1:=by omega
   simp [hk,ht,this]
  ·have:s.time<s.time+1:=by omega
   simp [hk,ht,this]
 ·have h1:¬d.kind=1:=fun h=>hk (.inl h)
  have h2:¬d.kind=2:=fun h=>hk (.inr h)
  simp [h1,h2,ht]
def BoxM (K0 H:Hp) (L:Nat) (s:Sr):Prop:=∃ a b c d,H.at L=some ⟨[[a,b,c,.int .i64 s.keep,.int .i64 s.time,d]],6,28,false⟩/\one a=true/\one b=true/\one c=true/\one d=true/\MSt K0 H (.ag [a,b,c,.int .i64 s.keep,.int .i64 s.time,d]) s/\StB s
theorem BoxM.mk' {K0 K:Hp} {L:Nat} {a b c k t d:AV} {y:Sr} (hb:K.at L=some ⟨[[a,b,c,k,t,d]],6,28,false⟩) (hs:MSt K0 K (.ag [a,b,c,k,t,d]) y) (hB:StB y):BoxM K0 K L y:=by
 obtain⟨a',b',c',d',e,n1,n2,n3,n4,_⟩:=hs.st.shape
 simp only [stAV,AV.ag.injEq,List.cons.injEq,and_true,true_and] at e
 obtain⟨rfl,rfl,rfl,rfl,rfl,rfl⟩:=e
 exact⟨a,b,c,d,hb,n1,n2,n3,n4,hs,hB⟩
theorem MSt.far4 {S:Nat->Prop} {H0 H H':Hp} {v:AV} {s:Sr} (h:MSt H0 H v s) (hf:Fr S H H') (hS:∀ y,S y->y<H0.length) (h4:∀ y ob,S y->H.at y=some ob->ob.esz=4):St H' v s:=by
 obtain⟨a,ol,os,d,lr,sr,rfl,ha,hlv,hlr,hsv,hsr,hd,hdo,hol,hos,hl3,hs3,hoff⟩:=h
 have n4:∀ {e:Nat},e≠4->∀ x ob,S x->H.at x=some ob->ob.esz≠e:=fun he x ob hx ho=>by rw [h4 x ob hx ho]; exact he.symm
 refine⟨a,_,_,d,lr,sr,rfl,ha.ents.fr hf (fun y hy hs=>by have:=ha.2 y hy; have:=hS y hs; omega),Rows.frz hlv.rows hf (n4 (by simp)),?_,Rows.frz hsv.rows hf (n4 (by simp)),All2.mono (fun row sv h=>?_) hsr,Rows.frz hd.ints hf (n4 (by simp))⟩
 ·have key:∀ {lr:List (List AV)} {ls:List (List Ent)},All2 (LvRow H) lr ls->(∀ u,[u]∈lr->∀ y,u.of y->H0.length<=y)->All2 (LvRow H') lr ls:=by
   intro lr
   induction lr with
   | nil=>intro ls h _; cases ls with
    | nil=>trivial
    | cons=>exact h.elim
   | cons r lr ih=>intro ls h ho; cases ls with
    | nil=>exact h.elim
    | cons l ls =>
     obtain⟨⟨u,rfl,hu⟩,h2⟩:=h
     exact⟨⟨u,rfl,Rows.fr hu hf (fun y hy hs=>by have:=ho u (List.mem_cons_self ..) y hy; have:=hS y hs; omega)⟩,ih h2 (fun w hw=>ho w (List.mem_cons_of_mem _ hw))⟩
  exact key hlr hoff.2
 ·obtain⟨r,e1,e2,_⟩:=h
  exact⟨r,e1,Rows.frz e2 hf (n4 (by simp)),fun _ _ h=>h⟩
theorem RetS.mst {H0 H:Hp} {w ok:AV} {o:Option Sr} (h:RetS H0 H (.tu [w,ok]) o):∀ x,o=some x->MSt H0 H w x:=by
 rintro x rfl
 obtain⟨_,w',e,hm⟩:=h
 cases e
 exact hm
def PaI (H:Hp) (u:AV) (ds:List Dd) (s:Sr) (m:Nat) (t:Tm) (H':Hp):Prop:=∃ (i:Nat) (x:Sr) (v5:AV) (out:List Ent),i+m=ds.length/\t 1=u/\t 2=.pt H.length 0 0/\t 5=v5/\t 6=.int .i64 i/\HLe H H'/\BoxS H' H.length x/\OwnE H H' v5 out/\x=doAll s (ds.take i)/\out=wrAll s (ds.take i)
def PaJ (H H':Hp) (u v5:AV) (i:Nat) (r:Option Sr) (t:Tm) (H2:Hp):Prop:=t 1=u/\t 2=.pt H.length 0 0/\t 5=v5/\t 6=.int .i64 i/\HLe H' H2/\∃ L7,t 7=.pt L7 0 0/\H'.length<=L7/\t 8=.bool r.isSome/\(∀ y,r=some y->BoxM H' H2 L7 y)
set_option maxHeartbeats 1600000 in
theorem PastAll_ok (v u:AV) (s:Sr) (ds:List Dd) (H:Hp) (hs:St H v s) (hb:StB s) (hu:Dds H u ds) (hk:∀ d∈ds,d.key.size<4611686018427387904) :
  AC Tryz.prog E 38 [v,u] H (fun w H'=>HLe H H'/\OwnE H H' w (((pastI s ds).map (·.2)).getD [])):=by
 have hs0:=hs
 obtain⟨a,b,c,d,rfl,n1,n2,n3,n4,hea,hed⟩:=hs.shape
 refine AC_by fol (tC_le tab2_ok) h_spec_PastAll ?_
 obtain⟨H1,hH1⟩:∃ H1:Hp,H1=H++[some ⟨[[a,b,c,.int .i64 s.keep,.int .i64 s.time,d]],6,28,false⟩,some ⟨[],4,45,false⟩]:=⟨_,rfl⟩
 have hle1:HLe H H1:=by rw [hH1]; exact HLe.self _ _
 have b0:H1.at H.length=some ⟨[[a,b,c,.int .i64 s.keep,.int .i64 s.time,d]],6,28,false⟩:=by rw [hH1]; simp
 have b1:H1.at (H.length+1)=some ⟨[],4,45,false⟩:=by rw [hH1]; simp
 have hlit:OwnE H H1 (.sl (H.length+1) 0 0) []:=⟨Own.obj (R:=[]) b1 rfl,fun y hy=>by simp at hy; omega⟩
 have hlen:lenV u=.int .i64 ds.length:=by simpa using Rows.len hu
 have hslc:slC u:=Rows.slc hu
 simp [-RgP_both,c_spec_PastAll,n1,n2,n3,n4,<- hH1,b0]
 refine cg_use (StoreOk_ok _ s H1 (hs0.le hle1) hb) ?_
 cases hso:storeOk s with
 | false =>
  simp [pastI,hso]
  exact⟨hle1,hlit⟩
 | true =>
 simp [-RgP_both,hlen,hslc]
 refine c_split (fun hq=>?_) (fun hq=>?_)<;>simp at hq
 ·have hp:pastI s ds=none:=by simp [pastI,hso]; omega
  simp [hp]
  exact⟨hle1,hlit⟩
 have hp:pastI s ds=some (doAll s ds,wrAll s ds):=by simp [pastI,hso]; omega
 simp [-RgP_both]
 refine W_for (fun m t H'=>PaI H u ds s m t H') ds.length ?_ (tC_mono AC_mono) ?_
 ·exact⟨0,s,_,[],by omega,by simp,by simp,by simp,by simp,hle1,⟨a,b,c,d,b0,n1,n2,n3,n4,hs0.le hle1,hb⟩,hlit,by simp [doAll],by simp [wrAll]⟩
 rintro m t H' ⟨i,x,v5,out,him,t1,t2,t5,t6,hle,hbx,hv5,hx,hout⟩
 have hu':=Rows.le hu hle
 simp [-RgP_both,t1,t2,t5,t6,hlen,hslc]
 refine c_split (fun hq=>?_) (fun hq=>?_)<;>simp at hq
 ·have hi:i<ds.length:=by omega
  have hw:=wrapN (i:=i) (by omega)
  obtain⟨xa,xb,xc,xd,c0,m1,m2,m3,m4,hxs,hxb⟩:=hbx
  obtain⟨o,i0,ob,rfl,a1,a2,a3⟩:=Dds.get hu' hi
  obtain⟨dd,hdd⟩:∃ dd,dd=ds[i]:=⟨_,rfl⟩
  have hkd:dd.key.size<4611686018427387904:=by rw [hdd]; exact hk _ (List.getElem_mem hi)
  rw [<- hdd] at a3
  have hxs':doAll s (ds.take (i+1))=(doR x dd).getD x:=by rw [doAll_step s ds hi,<- hx,<- hdd]
  have hws:wrAll s (ds.take (i+1))=out++wr1 x dd:=by rw [wrAll_step s ds hi,<- hout,<- hx,<- hdd]
  have hol:out.length<=1000:=by
   have:=wrAll_len (ds.take i) s
   rw [<- hout,List.length_take] at this
   omega
  simp [-RgP_both,t1,t2,t5,t6,c0,a1,a2,a3,hi]
  refine RgP_then (tC_mono AC_mono) (PaJ H H' (.sl o i0 ds.length) v5 i (doR x dd)) ?_ ?_
  ·rw [RgP_both]
   refine⟨?_,?_⟩
   ·simp
    refine cg_ex (l13Do_ok _ x dd H' hxs hxb hkd) ?_
    rintro w H2 hret
    obtain⟨ya,yb,yc,yk,yt,yd,rfl,o1,o2,o3,o4,o5,o6⟩:=hret.shape
    have hmm:=hret.mst
    have hle2:=hret.1
    obtain⟨K,hK⟩:∃ K:Hp,K=H2++[some ⟨[[ya,yb,yc,yk,yt,yd]],6,28,false⟩]:=⟨_,rfl⟩
    have hleK:HLe H2 K:=by rw [hK]; exact HLe.self _ _
    simp [o1,o2,o3,o4,o5,o6,Hp.at_app,Hp.at_lt (hle2.2 _ _ c0),Hp.at_lt (hle2.2 _ _ a1),hle2.2 _ _ c0,hle2.2 _ _ a1,a2,a3,hq,t2,<- hK]
    exact⟨by simp [t1],by simp [t2],by simp [t5],by simp [t6],hle2.trans hleK,H2.length,by simp,hle2.1,by simp,fun z hz=>BoxM.mk' (by rw [hK]; simp) ((hmm z hz).le hleK) (doR_small hz).stB⟩
   ·obtain⟨K,hK⟩:∃ K:Hp,K=H'++[some ⟨[[.nils,.nils,.nils,.int .i64 0,.int .i64 0,.nils]],6,28,false⟩]:=⟨_,rfl⟩
    have hleK:HLe H' K:=by rw [hK]; exact HLe.self _ _
    have cK:=hleK.2 _ _ c0
    have aK:=hleK.2 _ _ a1
    have bK:K.at H'.length=some ⟨[[.nils,.nils,.nils,.int .i64 0,.int .i64 0,.nils]],6,28,false⟩:=by rw [hK]; simp
    simp [<- hK,cK,aK,a2,a3,hq,t2]
    refine cg_ex (l13Do_ok _ x dd K (hxs.le hleK) hxb hkd) ?_
    rintro w H2 hret
    obtain⟨ya,yb,yc,yk,yt,yd,rfl,o1,o2,o3,o4,o5,o6⟩:=hret.shape
    have hmm:=hret.mst
    have hle2:=hret.1
    have b2:=hle2.2 _ _ bK
    have u2:=Hp.at_lt b2
    simp [o1,o2,o3,o4,o5,o6,b2,u2,Hp.at_set]
    have F:=Fr.one H2 H'.length (some ⟨[[ya,yb,yc,yk,yt,yd]],6,28,false⟩)
    exact⟨by simp [t1],by simp [t2],by simp [t5],by simp [t6],(hleK.trans hle2).set (Nat.le_refl _) _,H'.length,by simp,Nat.le_refl _,by simp,fun z hz=>BoxM.mk' (Hp.at_set _ u2) (((hmm z hz).fr F (fun q ob hq ho=>by rw [hq,b2] at ho; cases ho; rfl)).base hleK.1) (doR_small hz).stB⟩
  rintro t H2 ⟨t1,t2,t5,t6,hle2,L7,t7,hL7,t8,hby⟩
  have c2:=hle2.2 _ _ c0
  have a12:=hle2.2 _ _ a1
  have u2:=Hp.at_lt c2
  have hleH:=hle.trans hle2
  cases hd:doR x dd with
  | none =>
   rw [hd] at t8 hxs'
   simp [t1,t2,t5,t6,t7,t8,hw]
   exact⟨m-1,by omega,i+1,x,v5,out,by omega,by simp [t1],by simp [t2],by simp [t5],by simp,hleH,BoxS.mk' c2 (hxs.le hle2) hxb,hv5.le hle2,hxs'.symm,by rw [hws]; simp [wr1,hd]⟩
  | some y =>
   rw [hd] at t8 hxs'
   obtain⟨ya,yb,yc,yd,d7,p1,p2,p3,p4,hym,hyb⟩:=hby y hd
   have hys:=hym.st
   have hw1:=wr1_eq hd
   by_cases ht:x.time<y.time
   ·rw [if_pos ht] at hw1
    obtain⟨G,hG⟩:∃ G:Hp,G=H2++[some ⟨[[.str ⟨#[]⟩,.int .i64 0,.bool false,.int .i64 0]],4,45,false⟩]:=⟨_,rfl⟩
    have hleG:HLe H2 G:=by rw [hG]; exact HLe.self _ _
    have bG:G.at H2.length=some ⟨[[.str ⟨#[]⟩,.int .i64 0,.bool false,.int .i64 0]],4,45,false⟩:=by rw [hG]; simp
    have dG:=hleG.2 _ _ d7
    have cG:=hleG.2 _ _ c2
    have aG:=hleG.2 _ _ a12
    have uG:=Hp.at_lt bG
    have neL:H2.length≠L7:=by have:=Hp.at_lt d7; omega
    have neo:H2.length≠o:=by have:=Hp.at_lt a12; omega
    by_cases hk2:dd.kind=2
    ·rw [if_pos hk2] at hw1
     have hE:wr1 x dd=[⟨dd.key,0,true,y.time⟩]:=hw1
     obtain⟨R,hR⟩:∃ R:Hp,R=List.set G H2.length (some ⟨[entRow ⟨dd.key,0,true,y.time⟩],4,45,false⟩):=⟨_,rfl⟩
     have bR:R.at H2.length=some ⟨[entRow ⟨dd.key,0,true,y.time⟩],4,45,false⟩:=by rw [hR]; exact Hp.at_set _ uG
     have hleR:HLe H2 R:=by rw [hR]; exact hleG.set (Nat.le_refl _) _
     have cR:=hleR.2 _ _ c2
     have dR:=hleR.2 _ _ d7
     have aR:=hleR.2 _ _ a12
     simp only [entRow] at hR bR
     simp [t1,t2,t5,t6,t7,t8,hw,d7,c2,ht,a12,a2,a3,hq,hk2,<- hG,bG,dG,cG,aG,uG,Hp.at_set,Hp.at_set_ne,neL,neo,<- hR,bR,aR,dR]
     refine appG_add (y:=⟨dd.key,0,true,y.time⟩) (row:=entRow) (bytes:=40) (H0:=H) (hv5.le (hle2.trans hleR)) (hleH.trans hleR) (by omega) rfl (fun v6 H6 g1 g2 g3 g4=>?_)
     have nd:∀ {z:Nat} {ob:Ob},R.at z=some ob->ob.esz=6->¬v5.of z:=fun ho he hz=>by
      have:=(hv5.le (hle2.trans hleR)).1.esz hz ho
      omega
     have c6:=g3.2 _ _ (nd cR rfl) cR
     have d6:=g3.2 _ _ (nd dR rfl) dR
     have u6:=Hp.at_lt c6
     have hS6:∀ q ob,q=H.length->H6.at q=some ob->ob.esz=6:=fun q ob hq ho=>by rw [hq,c6] at ho; cases ho; rfl
     have F:=Fr.one H6 H.length (some ⟨[[ya,yb,yc,.int .i64 y.keep,.int .i64 y.time,yd]],6,28,false⟩)
     have hys6:=(hym.le hleR).far4 g3 (fun z hz=>hv5.1.lt hz) (fun z ob hz ho=>(hv5.le (hle2.trans hleR)).1.esz hz ho)
     simp [t1,t2,t5,t6,t7,t8,hw,d6,c6,u6,p1,p2,p3,p4]
     exact⟨m-1,by omega,i+1,y,v6,_,by omega,by simp [t1],by simp [t2],by simp,by simp,g1.fr_le F (fun q hq=>by omega),BoxS.mk' (Hp.at_set _ u6) (hys6.frE F (e:=6) (by simp) hS6) hyb,g2.fr6 F hS6,hxs'.symm,by rw [hws,hE]⟩
    ·rw [if_neg hk2] at hw1
     have hE:wr1 x dd=[⟨dd.key,dd.num,false,y.time⟩]:=hw1
     obtain⟨R,hR⟩:∃ R:Hp,R=List.set G H2.length (some ⟨[entRow ⟨dd.key,dd.num,false,y.time⟩],4,45,false⟩):=⟨_,rfl⟩
     have bR:R.at H2.length=some ⟨[entRow ⟨dd.key,dd.num,false,y.time⟩],4,45,false⟩:=by rw [hR]; exact Hp.at_set _ uG
     have hleR:HLe H2 R:=by rw [hR]; exact hleG.set (Nat.le_refl _) _
     have cR:=hleR.2 _ _ c2
     have dR:=hleR.2 _ _ d7
     have aR:=hleR.2 _ _ a12
     simp only [entRow] at hR bR
     simp [t1,t2,t5,t6,t7,t8,hw,d7,c2,ht,a12,a2,a3,hq,hk2,<- hG,bG,dG,cG,aG,uG,Hp.at_set,Hp.at_set_ne,neL,neo,<- hR,bR,aR,dR]
     refine appG_add (y:=⟨dd.key,dd.num,false,y.time⟩) (row:=entRow) (bytes:=40) (H0:=H) (hv5.le (hle2.trans hleR)) (hleH.trans hleR) (by omega) rfl (fun v6 H6 g1 g2 g3 g4=>?_)
     have nd:∀ {z:Nat} {ob:Ob},R.at z=some ob->ob.esz=6->¬v5.of z:=fun ho he hz=>by
      have:=(hv5.le (hle2.trans hleR)).1.esz hz ho
      omega
     have c6:=g3.2 _ _ (nd cR rfl) cR
     have d6:=g3.2 _ _ (nd dR rfl) dR
     have u6:=Hp.at_lt c6
     have hS6:∀ q ob,q=H.length->H6.at q=some ob->ob.esz=6:=fun q ob hq ho=>by rw [hq,c6] at ho; cases ho; rfl
     have F:=Fr.one H6 H.length (some ⟨[[ya,yb,yc,.int .i64 y.keep,.int .i64 y.time,yd]],6,28,false⟩)
     have hys6:=(hym.le hleR).far4 g3 (fun z hz=>hv5.1.lt hz) (fun z ob hz ho=>(hv5.le (hle2.trans hleR)).1.esz hz ho)
     simp [t1,t2,t5,t6,t7,t8,hw,d6,c6,u6,p1,p2,p3,p4]
     exact⟨m-1,by omega,i+1,y,v6,_,by omega,by simp [t1],by simp [t2],by simp,by simp,g1.fr_le F (fun q hq=>by omega),BoxS.mk' (Hp.at_set _ u6) (hys6.frE F (e:=6) (by simp) hS6) hyb,g2.fr6 F hS6,hxs'.symm,by rw [hws,hE]⟩
   ·rw [if_neg ht] at hw1
    have F:=Fr.one H2 H.length (some ⟨[[ya,yb,yc,.int .i64 y.keep,.int .i64 y.time,yd]],6,28,false⟩)
    have hS2:∀ q ob,q=H.length->H2.at q=some ob->ob.esz=6:=fun q ob hq ho=>by rw [hq,c2] at ho; cases ho; rfl
    simp [t1,t2,t5,t6,t7,t8,hw,d7,c2,ht,p1,p2,p3,p4,u2]
    exact⟨m-1,by omega,i+1,y,v5,out,by omega,by simp [t1],by simp [t2],by simp [t5],by simp,hleH.set (Nat.le_refl _) _,BoxS.mk' (Hp.at_set _ u2) (hys.frE F (e:=6) (by simp) hS2) hyb,(hv5.le hle2).fr6 F hS2,hxs'.symm,by rw [hws,hw1]; simp⟩
 ·have hie:i=ds.length:=by omega
  subst hie
  rw [List.take_of_length_le (Nat.le_refl _)] at hx hout
  simp [t5,hp,<- hout]
  exact⟨hle,hv5⟩
end Go.Proofs.YtepeokaplbbpoaaGreat.B

namespace Go.Proofs.YtepeokaplbbpoaaGreat.B
open Go.RowKit Go.Proofs
set_option linter.unusedVariables false
set_option linter.unusedSimpArgs false
variable {E:Env}
theorem pastI_len {s:Sr} {ds:List Dd}:(((pastI s ds).map (·.2)).getD []).length<=ds.length:=by
 unfold pastI
 split
 ·simpa using wrAll_len ds s
 ·simp
theorem newR_spl {k:Int} {s:Sr} (h:newR k=some s):Spl s/\Small s:=⟨⟨fun _=>newR_V h,(newR_V h).key,(newR_small h).sml⟩,newR_small h⟩
def DrawnA (H H':Hp) (v:AV):Prop:=∃ w dv s ds,v=.tu [w,dv]/\HLe H H'/\St H' w s/\StB s/\Spl s/\Dds H' dv ds/\ds.length<=37/\∀ d∈ds,d.key.size<=5
theorem cG_then {C:CallP} (hm:CMono C) {q:Bool} {a b:CC} {K:Tm->Hp->Prop} {Q:Ex->Tm->Hp->Prop} {t:Tm} {H:Hp} (I:Tm->Hp->Prop) (h1:cG (.bool q) C a b (thenX I Q) t H) (h2:∀ t H,I t H->K t H):cG (.bool q) C a b (thenX K Q) t H:=by
 have key:∀ (e:Ex) (t:Tm) (H:Hp),thenX I Q e t H->thenX K Q e t H:=by
  intro e t H h
  cases e with
  | normal=>exact h2 _ _ h
  | exit id=>exact h
  | ret=>exact h
 exact⟨fun e=>W_mono hm a _ _ t H key (h1.1 e),fun e=>W_mono hm b _ _ t H key (h1.2 e)⟩
def DpJ (r:Nat) (H:Hp) (L:Nat) (t:Tm) (H':Hp):Prop:=t 2=.pt H.length 0 0/\t 4=.pt r 0 0/\t 5=.pt L 0 0/\H'.at H.length=some ⟨[[.nils,.nils,.nils,.int .i64 0,.int .i64 0,.nils]],6,28,false⟩/\(∃ s,BoxS H' L s/\Spl s)/\HLe H H'/\Rd H' r 1000
set_option maxHeartbeats 1600000 in
theorem DrawPastAll_ok (c:AV) (bs:List Int) (H:Hp) (hc:Bytes H c bs) (hn:bs.length<4611686018427387904) :
  AC Tryz.prog E 36 [c] H (fun v H'=>DrawnA H H' v):=by
 refine AC_by fol (tC_le tab2_ok) h_spec_DrawPastAll ?_
 obtain⟨H1,hH1⟩:∃ H1:Hp,H1=H++[some ⟨[[.nils,.nils,.nils,.int .i64 0,.int .i64 0,.nils]],6,28,false⟩]:=⟨_,rfl⟩
 have hle1:HLe H H1:=by rw [hH1]; exact HLe.self _ _
 have b1:H1.at H.length=some ⟨[[.nils,.nils,.nils,.int .i64 0,.int .i64 0,.nils]],6,28,false⟩:=by rw [hH1]; simp
 simp [c_spec_DrawPastAll,<- hH1]
 refine cg_ex (l6Open_ok c bs H1 ⟨hc.1.le hle1,hc.2⟩ hn) ?_
 rintro v H2 ⟨r,rfl,ho,hle2,hr2⟩
 have hol:=hr2.lt
 have lH:H.length<H1.length:=Hp.at_lt b1
 have b2:=hle2.2 _ _ b1
 simp
 obtain⟨G,hG⟩:∃ G:Hp,G=H2++[some ⟨[[.int .i64 0],[.int .i64 1],[.int .i64 2]],1,3,false⟩]:=⟨_,rfl⟩
 have hleG:HLe H2 G:=by rw [hG]; exact HLe.self _ _
 have aG:G.at H2.length=some ⟨[[.int .i64 0],[.int .i64 1],[.int .i64 2]],1,3,false⟩:=by rw [hG]; simp
 have bG:=hleG.2 _ _ b2
 rw [<- hG]
 refine cg_ex (pick_ok r 0 3 G (hr2.le hleG) (by omega) (by omega)) ?_
 rintro v H3 ⟨n,rfl,hn3,hd3,hr3,hlen3⟩
 have b3:=hd3.2 _ _ (show ¬H.length=r by omega) bG
 have a3:=hd3.2 _ _ (show ¬H2.length=r by omega) aG
 have hle3:HLe H H3:=((hle1.trans hle2).trans hleG).fr_le hd3 (fun x hx=>by omega)
 have hn':n<3:=by omega
 have hnI:(n:Int)<3:=by omega
 obtain⟨q,hq5,hq⟩:∃ q:Int,(0<=q/\q<=5)/\([[.int .i64 0],[.int .i64 1],[.int .i64 2]]:List (List AV))[n]?=some [.int .i64 q]:=by
  have:n=0\/n=1\/n=2:=by omega
  rcases this with rfl | rfl | rfl<;>exact⟨_,by constructor<;>decide,rfl⟩
 simp [a3,hq,hnI]
 refine cg_ex (StoreNew_ok q H3) ?_
 intro v H4 hret
 obtain⟨s0,hs0⟩:∃ s0,newR q=some s0:=by
  unfold newR
  rw [if_pos hq5]
  exact⟨_,rfl⟩
 obtain⟨hsp,hsm⟩:=newR_spl hs0
 rw [hs0] at hret
 obtain⟨hle4,hB,xa,xb,xc,xd,rfl,n1,n2,n3,n4,hs4⟩:=hret.vl (fun x hx=>by cases hx; exact hsm)
 simp only [Option.getD_some] at hB hs4 ⊢
 obtain⟨H5,hH5⟩:∃ H5:Hp,H5=H4++[some ⟨[[xa,xb,xc,.int .i64 s0.keep,.int .i64 s0.time,xd]],6,28,false⟩]:=⟨_,rfl⟩
 obtain⟨hle5,c5,hs5⟩:=St.box hs4 hH5
 have h35:=hle4.trans hle5
 have b5:=h35.2 _ _ b3
 have hr5:=hr3.le h35
 simp [n1,n2,n3,n4,<- hH5]
 have l4:r<H4.length:=by have:=hle4.1; have:=hd3.len; have:=hleG.1; omega
 have l45:=Hp.at_lt c5
 refine cg_ex (pick_ok r _ 8 H5 hr5 (by omega) (by omega)) ?_
 rintro v H6 ⟨y,rfl,hy,hd6,hr6,hlen6⟩
 have b6:=hd6.2 _ _ (show ¬H.length=r by omega) b5
 have c6:=hd6.2 _ _ (show ¬H4.length=r by omega) c5
 have hs6:=hs5.frE hd6 (e:=2) (by simp) hr5.e2
 have hle6:HLe H H6:=(hle3.trans h35).fr_le hd6 (fun x hx=>by omega)
 simp
 refine cG_then (tC_mono AC_mono) (DpJ r H H4.length) ?_ ?_
 ·refine c_split (fun q0=>?_) (fun q0=>?_)<;>simp at q0<;>simp
  ·refine cg_ex (l71Spoilt_ok r _ H6 hr6 (by omega)) ?_
   rintro w H7 ⟨s,hs7,hB7,hsp7,hd7,hr7⟩
   obtain⟨ya,yb,yc,yd,hw,m1,m2,m3,m4,_⟩:=hs7.shape
   have hw':=hw
   subst hw'
   have b7:=hd7.2 _ _ (show ¬H.length=r by omega) b6
   have c7:=hd7.2 _ _ (show ¬H4.length=r by omega) c6
   have u7:=Hp.at_lt c7
   have hle7:=hle6.fr_le hd7 (fun x hx=>by omega)
   simp [m1,m2,m3,m4,c7,u7]
   have F:=Fr.one H7 H4.length (some ⟨[[ya,yb,yc,.int .i64 s.keep,.int .i64 s.time,yd]],6,28,false⟩)
   exact⟨by simp,by simp,by simp,F.2 _ _ (by omega) b7,⟨s,BoxS.of c7 hs7 hB7,hsp7⟩,hle7.set (by have:=hle3.1; have:=hle4.1; omega) _,Rd.mono (hr7.fr F (by omega) (fun x ob hx ho=>by rw [hx,c7] at ho; cases ho; simp)) (by omega)⟩
  ·exact⟨by simp,by simp,by simp,b6,⟨s0,⟨xa,xb,xc,xd,c6,n1,n2,n3,n4,hs6,hB⟩,hsp⟩,hle6,Rd.mono hr6 (by omega)⟩
 rintro t K ⟨t2,t4,t5,bK,⟨s,⟨za,zb,zc,zd,cK,p1,p2,p3,p4,hsK,hBK⟩,hspK⟩,hleK,hrK⟩
 simp [t2,t4,t5,cK]
 refine cg_ex (l71Deeds_ok r _ 36 K hrK (by omega) (by omega)) ?_
 rintro dv K2 ⟨ds,hds,hdl,hdk,hd2,hr2'⟩
 have bK2:=hd2.2 _ _ (show ¬H.length=r by omega) bK
 have cK2:=hd2.2 _ _ (show ¬H4.length=r by omega) cK
 have hsK2:=hsK.frE hd2 (e:=2) (by simp) hrK.e2
 have hleK2:=hleK.fr_le hd2 (fun x hx=>by omega)
 have uK2:=Hp.at_lt bK2
 simp [t2,t4,t5,cK2,bK2,uK2,p1,p2,p3,p4,Hp.at_set]
 have F:=Fr.one K2 H.length (some ⟨[[za,zb,zc,.int .i64 s.keep,.int .i64 s.time,zd]],6,28,false⟩)
 have hS:∀ y ob,y=H.length->K2.at y=some ob->ob.esz=6:=fun y ob hy ho=>by
  rw [hy,bK2] at ho
  cases ho
  rfl
 exact⟨_,dv,s,ds,rfl,hleK2.fr_le F (fun x hx=>by omega),hsK2.frE F (e:=6) (by simp) hS,hBK,hspK,Rows.frz hds.rows F (fun y ob hy ho=>by rw [hS y ob hy ho]; simp),by omega,hdk⟩
end Go.Proofs.YtepeokaplbbpoaaGreat.B

namespace Go.Proofs.YtepeokaplbbpoaaGreat.B
open Go.RowKit Go.Proofs
set_option linter.unusedVariables false
set_option linter.unusedSimpArgs false
variable {E:Env}
theorem RetF.vl {H0 H:Hp} {u:AV} {o:Option Sr} (h:RetF H0 H u o) (hb:∀ x,o=some x->Small x):HLe H0 H/\StB (o.getD sNil)/\∃ a b c d,u=.tu [.ag [a,b,c,.int .i64 (o.getD sNil).keep,.int .i64 (o.getD sNil).time,d],.bool o.isSome]/\one a=true/\one b=true/\one c=true/\one d=true/\St H (.ag [a,b,c,.int .i64 (o.getD sNil).keep,.int .i64 (o.getD sNil).time,d]) (o.getD sNil):=by
 obtain⟨h1,h2⟩:=h
 cases o with
 | none=>exact⟨h1,sNil_B,.nils,.nils,.nils,.nils,h2,rfl,rfl,rfl,rfl,.nils,.nils,.nils,.nils,[],[],rfl,Rows.nil,Rows.nil,trivial,Rows.nil,trivial,Rows.nil⟩
 | some x =>
  obtain⟨w,e,hm⟩:=h2
  obtain⟨a,b,c,d,rfl,n1,n2,n3,n4,_⟩:=hm.st.shape
  exact⟨h1,(hb x rfl).stB,a,b,c,d,e,n1,n2,n3,n4,hm.st⟩
theorem ltRuns_same {v v':AV} {es:List Ent} {H:Hp} (hs:Ents H v es) (hs':Ents H v' es) (hb:es.length<4611686018427387904):AC Tryz.prog E 19 [v,v'] H (fun u H'=>u=.bool true/\H'=H) :=
 (ltRuns_ok v v' es es H hs hs' (by omega)).mono (fun u H' h=>⟨by rw [h.1]; simp,h.2⟩)
end Go.Proofs.YtepeokaplbbpoaaGreat.B

namespace Go.Proofs.YtepeokaplbbpoaaGreat.B
open Go.RowKit Go.Proofs
set_option linter.unusedVariables false
set_option linter.unusedSimpArgs false
def cutK (keep:Int) (z:ByteArray × Nat):ByteArray:=z.1.extract 0 (z.2+1+keep.toNat)
theorem cutK_size (keep:Int) (z:ByteArray × Nat):(cutK keep z).size=min (z.2+1+keep.toNat) z.1.size:=by
 unfold cutK
 rw [ByteArray.size_extract]
 omega
theorem cutK_letter (keep:Int) (z:ByteArray × Nat) {d:Nat} (h:d<=z.2):letter (cutK keep z) d=letter z.1 d:=by
 have hs:=cutK_size keep z
 rcases Nat.lt_or_ge d z.1.size with h1 | h1
 ·rw [letter_in h1,letter_in (by omega)]
  unfold cutK
  simp [ByteArray.data_extract]
 ·rw [letter_end h1,letter_end (by omega)]
theorem cutK_rest (keep:Int) (z:ByteArray × Nat) {d:Nat} (h:d<=z.2):restK (cutK keep z) (d+1) keep=restK z.1 (d+1) keep:=by
 have hs:=cutK_size keep z
 unfold restK
 rw [hs]
 unfold cutK
 apply ByteArray.ext
 simp only [ByteArray.data_extract,Array.extract_extract]
 congr 1
 ·omega
 ·omega
def grpG {α:Type} (f:α->ByteArray) (d:Nat) (l:List α):List α:=match l with
 | []=>[]
 | z :: _=>l.filter (fun y=>letter (f y) d==letter (f z) d)
theorem grpG_map {α:Type} (f:α->ByteArray) (d:Nat) (l:List α):(grpG f d l).map f=grp d (l.map f):=by
 cases l with
 | nil=>rfl
 | cons z l =>
  unfold grpG grp
  simp only [List.map_cons]
  rw [<- List.map_cons,List.filter_map]
  rfl
theorem grpG_pos {α:Type} (f:α->ByteArray) (d:Nat) (z:α) (l:List α):0<(grpG f d (z :: l)).length:=by
 simp [grpG]
def brsG {α:Type} (f:α->ByteArray) (d:Nat):List α->List (List α)
 | []=>[]
 | z :: l=>grpG f d (z :: l) :: brsG f d ((z :: l).drop (grpG f d (z :: l)).length)
termination_by l=>l.length
decreasing_by
 have:=grpG_pos f d z l
 simp only [List.length_drop,List.length_cons]
 omega
theorem brsG_cons {α:Type} (f:α->ByteArray) (d:Nat) (z:α) (l:List α):brsG f d (z :: l)=grpG f d (z :: l) :: brsG f d ((z :: l).drop (grpG f d (z :: l)).length):=by rw [brsG]
theorem brsG_map {α:Type} (f:α->ByteArray) (d:Nat):∀ (n:Nat) (l:List α),l.length<=n->(brsG f d l).map (List.map f)=brs d (l.map f)
 | _,[],_=>by rw [brsG,List.map_nil,List.map_nil,brs]
 | 0,z :: l,h=>by simp at h
 | n+1,z :: l,h=>by
  have hp:=grpG_pos f d z l
  have hm:=grpG_map f d (z :: l)
  rw [brsG_cons,List.map_cons,hm,List.map_cons,brs_cons]
  congr 1
  have hl:(grp d (f z :: l.map f)).length=(grpG f d (z :: l)).length:=by
   rw [<- List.map_cons,<- hm,List.length_map]
  rw [brsG_map f d n _ (by simp only [List.length_drop,List.length_cons] at h ⊢; omega),hl,List.map_drop,List.map_cons]
theorem brsG_same {α:Type} {f g:α->ByteArray} {d:Nat}:∀ (n:Nat) (l:List α),l.length<=n->(∀ z∈l,letter (f z) d=letter (g z) d)->brsG f d l=brsG g d l
 | _,[],_,_=>by rw [brsG,brsG]
 | 0,z :: l,h,_=>by simp at h
 | n+1,z :: l,h,hs=>by
  have he:grpG f d (z :: l)=grpG g d (z :: l):=by
   unfold grpG
   simp only
   apply List.filter_congr
   intro y hy
   rw [hs y hy,hs z (by simp)]
  have hp:=grpG_pos f d z l
  rw [brsG_cons,brsG_cons,<- he]
  congr 1
  refine brsG_same n _ (by simp only [List.length_drop,List.length_cons] at h ⊢; omega) (fun y hy=>hs y (List.mem_of_mem_drop hy))
theorem grpG_sub {α:Type} (f:α->ByteArray) (d:Nat) (l:List α):(grpG f d l).Sublist l:=by
 cases l with
 | nil=>exact List.Sublist.refl _
 | cons z l=>exact List.filter_sublist
theorem brsG_mem {α:Type} (f:α->ByteArray) (d:Nat):∀ (n:Nat) (l:List α),l.length<=n->∀ g∈brsG f d l,∀ z∈g,z∈l
 | _,[],_,g,hg,_,_=>by rw [brsG] at hg; cases hg
 | 0,z :: l,h,_,_,_,_=>by simp at h
 | n+1,z :: l,h,g,hg,y,hy=>by
  have hp:=grpG_pos f d z l
  rw [brsG_cons] at hg
  rcases List.mem_cons.1 hg with rfl | hg
  ·exact (grpG_sub f d _).subset hy
  ·exact List.mem_of_mem_drop (brsG_mem f d n _ (by simp only [List.length_drop,List.length_cons] at h ⊢; omega) g hg y hy)
abbrev FkG (α:Type):=List α × Nat
def manyG {α:Type} (g:List α):Bool:=decide (1<g.length)
def kidsG {α:Type} (f:α->ByteArray) (q:FkG α):List (FkG α):=((brsG f q.2 q.1).filter manyG).map (fun g=>(g,q.2+1))
def toFk {α:Type} (f:α->ByteArray) (q:FkG α):Fk:=(q.1.map f,q.2)
theorem kidsG_map {α:Type} (f:α->ByteArray) (q:FkG α):(kidsG f q).map (toFk f)=kids (toFk f q):=by
 unfold kidsG kids subs toFk
 simp only
 rw [<- brsG_map f q.2 q.1.length q.1 (Nat.le_refl _),List.filter_map,List.map_map,List.map_map]
 congr 1
 apply List.filter_congr
 intro g _
 simp [manyG,many]
def Deep:Nat->FkG (ByteArray × Nat)->Prop
 | 0,_=>True
 | n+1,q=>(∀ z∈q.1,q.2<=z.2)/\∀ k∈kidsG Prod.fst q,Deep n k
theorem addBs_same {keep:Int} (d:Nat):∀ (gs:List (List (ByteArray × Nat))) (b:Bool) (s:Sv),s.k=keep->(∀ g∈gs,g≠[]/\∀ z∈g,d<=z.2)->addBs d b s (gs.map (List.map (cutK keep)))=addBs d b s (gs.map (List.map Prod.fst))
 | [],b,s,_,_=>rfl
 | g :: gs,b,s,hk,h=>by
  obtain⟨h1,h2⟩:=h g (by simp)
  have e:addB d b s (g.map (cutK keep))=addB d b s (g.map Prod.fst):=by
   cases g with
   | nil=>exact absurd rfl h1
   | cons z g =>
    have hz:=h2 z (by simp)
    simp only [addB,List.map_cons,List.headD_cons,many,List.length_cons,List.length_map]
    rw [cutK_letter keep z hz,hk,cutK_rest keep z hz]
  rw [List.map_cons,List.map_cons,addBs,addBs,e]
  exact addBs_same d gs false _ (by simp [addB,hk]) (fun x hx=>h x (List.mem_cons_of_mem _ hx))
theorem brsG_ne {α:Type} (f:α->ByteArray) (d:Nat):∀ (n:Nat) (l:List α),l.length<=n->∀ g∈brsG f d l,g≠[]
 | _,[],_,g,hg=>by rw [brsG] at hg; cases hg
 | 0,z :: l,h,_,_=>by simp at h
 | n+1,z :: l,h,g,hg=>by
  have hp:=grpG_pos f d z l
  rw [brsG_cons] at hg
  rcases List.mem_cons.1 hg with rfl | hg
  ·exact List.length_pos_iff.1 hp
  ·exact brsG_ne f d n _ (by simp only [List.length_drop,List.length_cons] at h ⊢; omega) g hg
theorem addBs_k (d:Nat):∀ (gs:List (List ByteArray)) (b:Bool) (s:Sv),(addBs d b s gs).k=s.k
 | [],_,_=>rfl
 | g :: gs,b,s=>by
  rw [addBs,addBs_k d gs]
  rfl
theorem bfs_same {keep:Int}:∀ (n:Nat) (q:List (FkG (ByteArray × Nat))) (s:Sv),s.k=keep->(∀ f∈q,∀ m,Deep m f)->bfs n (q.map (toFk (cutK keep))) s=bfs n (q.map (toFk Prod.fst)) s
 | 0,q,s,_,_=>rfl
 | n+1,[],s,_,_=>rfl
 | n+1,f :: q,s,hk,hq=>by
  have h1:=(hq f (by simp) 1).1
  have h2:∀ k∈kidsG Prod.fst f,∀ m,Deep m k:=fun k hk m=>(hq f (by simp) (m+1)).2 k hk
  have hl:brsG (cutK keep) f.2 f.1=brsG Prod.fst f.2 f.1:=brsG_same f.1.length f.1 (Nat.le_refl _) (fun z hz=>cutK_letter keep z (h1 z hz))
  have hkids:(kidsG Prod.fst f).map (toFk (cutK keep))=kids (toFk (cutK keep) f):=by
   rw [<- kidsG_map]
   unfold kidsG
   rw [hl]
  have e1:brs f.2 (f.1.map (cutK keep))=(brsG Prod.fst f.2 f.1).map (List.map (cutK keep)):=by
   rw [<- brsG_map _ _ f.1.length f.1 (Nat.le_refl _),hl]
  have e2:brs f.2 (f.1.map Prod.fst)=(brsG Prod.fst f.2 f.1).map (List.map Prod.fst):=by
   rw [<- brsG_map _ _ f.1.length f.1 (Nat.le_refl _)]
  have ea:=addBs_same (keep:=keep) f.2 (brsG Prod.fst f.2 f.1) true s hk (fun g hg=>⟨brsG_ne _ _ f.1.length f.1 (Nat.le_refl _) g hg,fun z hz=>h1 z (brsG_mem _ _ f.1.length f.1 (Nat.le_refl _) g hg z hz)⟩)
  have eb:∀ (h:ByteArray × Nat->ByteArray),bfs (n+1) ((f :: q).map (toFk h)) s=bfs n (q.map (toFk h)++kids (toFk h f)) (addBs f.2 true s (brs f.2 (f.1.map h))):=fun h=>rfl
  rw [eb,eb,e1,e2,ea,<- hkids,<- kidsG_map,<- List.map_append,<- List.map_append]
  have hkk:∀ (gs:List (List ByteArray)),(addBs f.2 true s gs).k=keep:=fun gs=>by rw [addBs_k,hk]
  refine bfs_same n (q++kidsG Prod.fst f) _ (hkk _) (fun x hx=>?_)
  rcases List.mem_append.1 hx with hx | hx
  ·exact hq x (List.mem_cons_of_mem _ hx)
  ·exact h2 x hx
def leafs:Nat->List ByteArray->Nat->List (ByteArray × Nat)
 | 0,_,_=>[]
 | n+1,ks,d=>(brs d ks).flatMap (fun g=>if many g=true then leafs n g (d+1) else [(g.headD ⟨#[]⟩,d)])
theorem brs_flat {d:Nat}:∀ (n:Nat) {ks:List ByteArray},ks.length<=n->SP d ks->(brs d ks).flatten=ks
 | _,[],_,_=>by rw [brs]; rfl
 | 0,k :: ks,h,_=>by simp at h
 | n+1,k :: ks,h,hs=>by
  have hp:=grp_pos d k ks
  obtain⟨e1,e2⟩:=grp_take hs
  rw [brs_cons,List.flatten_cons,brs_flat n (by simp only [List.length_drop,List.length_cons] at h ⊢; omega) (hs.sub (List.drop_sublist _ _))]
  conv=>lhs; lhs; rw [e1,<- e2]
  exact List.take_append_drop _ _
theorem brs_ne:∀ (n d:Nat) (ks:List ByteArray),ks.length<=n->∀ g∈brs d ks,g≠[]
 | _,d,[],_,g,hg=>by rw [brs] at hg; cases hg
 | 0,d,k :: ks,h,_,_=>by simp at h
 | n+1,d,k :: ks,h,g,hg=>by
  have hp:=grp_pos d k ks
  rw [brs_cons] at hg
  rcases List.mem_cons.1 hg with rfl | hg
  ·exact List.length_pos_iff.1 hp
  ·exact brs_ne n d _ (by simp only [List.length_drop,List.length_cons] at h ⊢; omega) g hg
theorem mem_tw {α:Type} {p:α->Bool}:∀ {l:List α} {y:α},y∈l.takeWhile p->p y=true
 | a :: l,y,h=>by
  rw [List.takeWhile_cons] at h
  split at h
  ·rcases List.mem_cons.1 h with rfl | h
   ·assumption
   ·exact mem_tw h
  ·cases h
theorem leafs_fst:∀ (n:Nat) {ks:List ByteArray} {d:Nat},SP d ks->Good (ks,d)->7<=n+d->(leafs n ks d).map Prod.fst=ks
 | 0,ks,d,_,hg,hn=>by
  have:=hg.deep
  simp only at this
  omega
 | n+1,ks,d,hs,hg,hn=>by
  have key:∀ (gs:List (List ByteArray)),(∀ g∈gs,g∈brs d ks)->(gs.flatMap (fun g=>if many g=true then leafs n g (d+1) else [(g.headD ⟨#[]⟩,d)])).map Prod.fst=gs.flatten:=by
   intro gs
   induction gs with
   | nil=>intro _; rfl
   | cons g gs ih =>
    intro hm
    have hgm:=hm g (by simp)
    rw [List.flatMap_cons,List.map_append,List.flatten_cons,ih (fun x hx=>hm x (List.mem_cons_of_mem _ hx))]
    congr 1
    cases hmg:many g with
    | true =>
     rw [if_pos rfl]
     exact leafs_fst n (SP.of_brs ks.length d (Nat.le_refl _) hs g hgm) (kid_good hg hgm hmg) (by omega)
    | false =>
     rw [if_neg (by simp)]
     have hl:g.length<=1:=by simpa [many] using hmg
     have hne:g≠[]:=brs_ne ks.length d ks (Nat.le_refl _) g hgm
     match g,hl,hne with
     | [x],_,_=>rfl
  rw [leafs,key _ (fun g h=>h),brs_flat ks.length (Nat.le_refl _) hs]
theorem leafs_deep:∀ (n:Nat) (ks:List ByteArray) (d:Nat),∀ z∈leafs n ks d,d<=z.2
 | 0,_,_,z,hz=>by cases hz
 | n+1,ks,d,z,hz=>by
  rw [leafs] at hz
  obtain⟨g,hg,hz⟩:=List.mem_flatMap.1 hz
  split at hz
  ·have:=leafs_deep n g (d+1) z hz
   omega
  ·rw [List.mem_singleton.1 hz]
   exact Nat.le_refl _
theorem parts_eq {α:Type}:∀ {xs ys:List (List α)},xs.flatten=ys.flatten->xs.map List.length=ys.map List.length->xs=ys
 | [],[],_,_=>rfl
 | [],_ :: _,_,h=>by simp at h
 | _ :: _,[],_,h=>by simp at h
 | x :: xs,y :: ys,h,hl=>by
  simp only [List.map_cons,List.cons.injEq] at hl
  simp only [List.flatten_cons] at h
  have hxy:x=y:=by
   have:=congrArg (List.take x.length) h
   rw [List.take_left,hl.1,List.take_left] at this
   exact this
  subst hxy
  have:=List.append_cancel_left h
  rw [parts_eq this hl.2]
theorem brsG_flat {d:Nat}:∀ (n:Nat) {zs:List (ByteArray × Nat)},zs.length<=n->SP d (zs.map Prod.fst)->(brsG Prod.fst d zs).flatten=zs
 | _,[],_,_=>by rw [brsG]; rfl
 | 0,k :: ks,h,_=>by simp at h
 | n+1,z :: zs,h,hs=>by
  have hp:=grpG_pos Prod.fst d z zs
  have hm:=grpG_map Prod.fst d (z :: zs)
  have e:grpG Prod.fst d (z :: zs)=(z :: zs).take (grpG Prod.fst d (z :: zs)).length:=by
   rw [List.map_cons] at hs hm
   obtain⟨e1,e2⟩:=grp_take hs
   have hlen:(grpG Prod.fst d (z :: zs)).length=cnt d (z.1 :: zs.map Prod.fst):=by
    rw [<- e2,<- hm,List.length_map]
   unfold grpG at hlen ⊢
   simp only at hlen ⊢
   rw [List.filter_cons,if_pos (by simp)] at hlen ⊢
   have hf:zs.filter (fun y=>letter y.1 d==letter z.1 d)=zs.takeWhile (fun y=>letter y.1 d==letter z.1 d):=by
    have h3:((zs.map Prod.fst).filter (fun x=>letter x d==letter z.1 d)).length=((zs.map Prod.fst).takeWhile (fun x=>letter x d==letter z.1 d)).length:=by
     rw [cnt] at hlen
     simp only [List.length_cons] at hlen
     rw [List.filter_map,List.length_map]
     have:(zs.filter ((fun x=>letter x d==letter z.1 d) ∘ Prod.fst)).length=(zs.filter (fun y=>letter y.1 d==letter z.1 d)).length:=rfl
     omega
    have h4:(zs.takeWhile (fun y=>letter y.1 d==letter z.1 d)).length=((zs.map Prod.fst).takeWhile (fun x=>letter x d==letter z.1 d)).length:=by
     rw [List.takeWhile_map,List.length_map]
     rfl
    have h5:(zs.filter (fun y=>letter y.1 d==letter z.1 d)).length=((zs.map Prod.fst).filter (fun x=>letter x d==letter z.1 d)).length:=by
     rw [List.filter_map,List.length_map]
     rfl
    have hsub:(zs.takeWhile (fun y=>letter y.1 d==letter z.1 d)).Sublist (zs.filter (fun y=>letter y.1 d==letter z.1 d)):=by
     have:=(List.takeWhile_sublist (l:=zs) (fun y=>letter y.1 d==letter z.1 d)).filter (fun y=>letter y.1 d==letter z.1 d)
     rwa [List.filter_eq_self.2 (fun y hy=>mem_tw (p:=fun y:ByteArray × Nat=>letter y.1 d==letter z.1 d) hy)] at this
    exact (hsub.eq_of_length (by omega)).symm
   rw [hf,List.length_cons,List.take_succ_cons]
   congr 1
   exact List.prefix_iff_eq_take.1 (List.takeWhile_prefix _)
  rw [brsG_cons,List.flatten_cons,brsG_flat n (by simp only [List.length_drop,List.length_cons] at h ⊢; omega) (by rw [List.map_drop]; exact hs.sub (List.drop_sublist _ _))]
  conv=>lhs; lhs; rw [e]
  exact List.take_append_drop _ _
def sgm (n d:Nat) (g:List ByteArray):List (ByteArray × Nat):=if many g=true then leafs n g (d+1) else [(g.headD ⟨#[]⟩,d)]
theorem leafs_succ (n:Nat) (ks:List ByteArray) (d:Nat):leafs (n+1) ks d=((brs d ks).map (sgm n d)).flatten:=by
 rw [leafs,List.flatMap]
 rfl
theorem sgm_fst {n d:Nat} {ks g:List ByteArray} (hs:SP d ks) (hg:Good (ks,d)) (hn:7<=n+1+d) (hm:g∈brs d ks):(sgm n d g).map Prod.fst=g:=by
 unfold sgm
 cases hmg:many g with
 | true =>
  rw [if_pos rfl]
  exact leafs_fst n (SP.of_brs ks.length d (Nat.le_refl _) hs g hm) (kid_good hg hm hmg) (by omega)
 | false =>
  rw [if_neg (by simp)]
  have hl:g.length<=1:=by simpa [many] using hmg
  have hne:g≠[]:=brs_ne ks.length d ks (Nat.le_refl _) g hm
  match g,hl,hne with
  | [x],_,_=>rfl
theorem leafs_brs {n d:Nat} {ks:List ByteArray} (hs:SP d ks) (hg:Good (ks,d)) (hn:7<=n+1+d):brsG Prod.fst d (leafs (n+1) ks d)=(brs d ks).map (sgm n d):=by
 have hf:=leafs_fst (n+1) hs hg hn
 apply parts_eq
 ·rw [brsG_flat _ (Nat.le_refl _) (by rw [hf]; exact hs),leafs_succ]
 ·have h1:=brsG_map Prod.fst d _ (leafs (n+1) ks d) (Nat.le_refl _)
  rw [hf] at h1
  have h2:(brsG Prod.fst d (leafs (n+1) ks d)).map List.length=(brs d ks).map List.length:=by
   rw [<- h1,List.map_map]
   apply List.map_congr_left
   intro x _
   simp
  rw [h2,List.map_map]
  apply List.map_congr_left
  intro g hgm
  have:=congrArg List.length (sgm_fst hs hg hn hgm)
  rw [List.length_map] at this
  exact this.symm
theorem leafs_Deep:∀ (m n:Nat) (ks:List ByteArray) (d:Nat),SP d ks->Good (ks,d)->7<=n+d->Deep m (leafs n ks d,d)
 | 0,_,_,_,_,_,_=>trivial
 | m+1,0,ks,d,_,hg,hn=>by
  have:=hg.deep
  simp only at this
  omega
 | m+1,n+1,ks,d,hs,hg,hn=>by
  refine⟨fun z hz=>leafs_deep (n+1) ks d z hz,fun k hk=>?_⟩
  unfold kidsG at hk
  simp only at hk
  rw [leafs_brs hs hg hn] at hk
  obtain⟨x,hx,rfl⟩:=List.mem_map.1 hk
  obtain⟨hx1,hx2⟩:=List.mem_filter.1 hx
  obtain⟨g,hgm,rfl⟩:=List.mem_map.1 hx1
  have hlen:(sgm n d g).length=g.length:=by
   have:=congrArg List.length (sgm_fst hs hg hn hgm)
   rw [List.length_map] at this
   exact this
  have hmg:many g=true:=by
   have h3:1<(sgm n d g).length:=by simpa [manyG] using hx2
   simp only [many,decide_eq_true_eq]
   omega
  have e:sgm n d g=leafs n g (d+1):=by
   unfold sgm
   rw [if_pos hmg]
  rw [e]
  exact leafs_Deep m n g (d+1) (SP.of_brs ks.length d (Nat.le_refl _) hs g hgm) (kid_good hg hgm hmg) (by omega)
def headsR (ks:List ByteArray) (keep:Int):List ByteArray:=(leafs 7 ks 0).map (cutK keep)
theorem sieve_heads {ks:List ByteArray} {keep:Int} (h:keysOk ks=true):sieveR (headsR ks keep) keep=sieveR ks keep:=by
 have hs:=SP.of_keys h
 have hg:=(keysOk_good h).1
 have:=bfs_same (keep:=keep) 500 [(leafs 7 ks 0,0)] ⟨⟨#[]⟩,⟨#[]⟩,⟨#[]⟩,[],keep⟩ rfl (fun f hf m=>by
  rw [List.mem_singleton.1 hf]
  exact leafs_Deep m 7 ks 0 hs hg (by omega))
 have hf:=leafs_fst 7 hs hg (by omega)
 simp only [List.map_cons,List.map_nil,toFk] at this
 rw [hf] at this
 exact this
theorem keyOk_cut {keep:Int} {z:ByteArray × Nat} (h:keyOk z.1=true):keyOk (cutK keep z)=true:=by
 have hs:=cutK_size keep z
 simp only [keyOk,decide_eq_true_eq] at h ⊢
 refine⟨fun i hi=>?_,by omega⟩
 have h1:=h.1 i (by omega)
 have e:letter (cutK keep z) i=letter z.1 i:=by
  rw [letter_in hi,letter_in (show i<z.1.size by omega)]
  unfold cutK
  simp [ByteArray.data_extract]
 rw [<- letter_lt hi,e,letter_lt (show i<z.1.size by omega)]
 exact h1
theorem sless_of {a b:ByteArray} (ha:keyOk a=true) (hb:keyOk b=true) {j:Nat} (h1:∀ i,i<j->letter a i=letter b i) (h2:(letter a j).toNat<(letter b j).toNat):sless a b=true:=by
 rcases sless_total a b with h | h | h
 ·exact h
 ·rw [h] at h2
  omega
 ·have:=letters_le hb ha h (fun i hi=>(h1 i hi).symm)
  omega
theorem brs_pw {d:Nat}:∀ (n:Nat) {ks:List ByteArray},ks.length<=n->SP d ks->(brs d ks).Pairwise (fun g h=>∀ x∈g,∀ y∈h,(letter x d).toNat<(letter y d).toNat)
 | _,[],_,_=>by rw [brs]; exact List.Pairwise.nil
 | 0,k :: ks,h,_=>by simp at h
 | n+1,k :: ks,h,hs=>by
  have hp:=grp_pos d k ks
  obtain⟨e1,e2⟩:=grp_take hs
  have hdl:((k :: ks).drop (grp d (k :: ks)).length).length<=n:=by simp only [List.length_drop,List.length_cons] at h ⊢; omega
  rw [brs_cons]
  refine List.pairwise_cons.2 ⟨fun g hg x hx y hy=>?_,brs_pw n hdl (hs.sub (List.drop_sublist _ _))⟩
  obtain⟨ks',hsub,rfl⟩:=brs_sub _ d _ (Nat.le_refl _) g hg
  have hyd:y∈(k :: ks).drop (grp d (k :: ks)).length:=hsub.subset ((grp_sub d ks').subset hy)
  have hxt:x∈(k :: ks).take (grp d (k :: ks)).length:=by rw [e2,<- e1]; exact hx
  have hpw:=hs.pw
  rw [<- List.take_append_drop (grp d (k :: ks)).length (k :: ks)] at hpw
  have hxy:=(List.pairwise_append.1 hpw).2.2 x hxt y hyd
  have hxk:x∈k :: ks:=List.mem_of_mem_take hxt
  have hyk:y∈k :: ks:=List.mem_of_mem_drop hyd
  have hle:=letters_le (hs.ok x hxk) (hs.ok y hyk) hxy.1 hxy.2
  have hne:letter x d≠letter y d:=by
   intro e
   have hx3:letter x d=letter k d:=by
    unfold grp at hx
    simp only at hx
    simpa using (List.mem_filter.1 hx).2
   have hcount:(grp d (k :: ks)).length=(((k :: ks).take (grp d (k :: ks)).length).filter (fun z=>letter z d==letter k d)).length+(((k :: ks).drop (grp d (k :: ks)).length).filter (fun z=>letter z d==letter k d)).length:=by
    rw [<- List.length_append,<- List.filter_append,List.take_append_drop]
    rfl
   have h0:0<(((k :: ks).drop (grp d (k :: ks)).length).filter (fun z=>letter z d==letter k d)).length:=by
    apply List.length_pos_of_mem
    exact List.mem_filter.2 ⟨hyd,by simp [<- e,hx3]⟩
   have h3:((k :: ks).take (grp d (k :: ks)).length).filter (fun z=>letter z d==letter k d)=(k :: ks).take (grp d (k :: ks)).length:=by
    apply List.filter_eq_self.2
    intro z hz
    rw [e2,<- e1] at hz
    unfold grp at hz
    simp only at hz
    exact (List.mem_filter.1 hz).2
   rw [h3,List.length_take] at hcount
   have:=(grp_sub d (k :: ks)).length_le
   omega
  have:(letter x d).toNat≠(letter y d).toNat:=fun e=>hne (UInt8.toNat_inj.1 e)
  omega
def Told (z w:ByteArray × Nat):Prop:=∃ j,j<=z.2/\j<=w.2/\(∀ i,i<j->letter z.1 i=letter w.1 i)/\(letter z.1 j).toNat<(letter w.1 j).toNat
theorem leafs_told:∀ (n:Nat) (ks:List ByteArray) (d:Nat),SP d ks->Good (ks,d)->7<=n+d->(leafs n ks d).Pairwise Told
 | 0,_,_,_,_,_=>List.Pairwise.nil
 | n+1,ks,d,hs,hg,hn=>by
  rw [leafs_succ,List.pairwise_flatten]
  refine⟨fun l hl=>?_,?_⟩
  ·obtain⟨g,hgm,rfl⟩:=List.mem_map.1 hl
   unfold sgm
   cases hmg:many g with
   | true =>
    rw [if_pos rfl]
    exact leafs_told n g (d+1) (SP.of_brs ks.length d (Nat.le_refl _) hs g hgm) (kid_good hg hgm hmg) (by omega)
   | false =>
    rw [if_neg (by simp)]
    exact List.pairwise_singleton _ _
  ·rw [List.pairwise_map]
   refine (brs_pw ks.length (Nat.le_refl _) hs).imp_of_mem (fun {g h} hgm hhm hgh z hz w hw=>?_)
   have hzg:z.1∈g:=by rw [<- sgm_fst hs hg hn hgm]; exact List.mem_map_of_mem hz
   have hwh:w.1∈h:=by rw [<- sgm_fst hs hg hn hhm]; exact List.mem_map_of_mem hw
   have dz:d<=z.2:=leafs_deep (n+1) ks d z (by rw [leafs_succ]; exact List.mem_flatten.2 ⟨_,List.mem_map_of_mem hgm,hz⟩)
   have dw:d<=w.2:=leafs_deep (n+1) ks d w (by rw [leafs_succ]; exact List.mem_flatten.2 ⟨_,List.mem_map_of_mem hhm,hw⟩)
   have hzk:z.1∈ks:=by
    rw [<- brs_flat ks.length (Nat.le_refl _) hs]
    exact List.mem_flatten.2 ⟨g,hgm,hzg⟩
   have hwk:w.1∈ks:=by
    rw [<- brs_flat ks.length (Nat.le_refl _) hs]
    exact List.mem_flatten.2 ⟨h,hhm,hwh⟩
   exact⟨d,dz,dw,fun i hi=>hg.2.2.1 z.1 hzk w.1 hwk i hi,hgh _ hzg _ hwh⟩
theorem heads_pw {ks:List ByteArray} {keep:Int} (h:keysOk ks=true):(headsR ks keep).Pairwise (fun a b=>sless a b=true):=by
 have hs:=SP.of_keys h
 have hf:=leafs_fst 7 hs (keysOk_good h).1 (by omega)
 have hk:∀ z∈leafs 7 ks 0,keyOk z.1=true:=fun z hz=>hs.ok z.1 (by rw [<- hf]; exact List.mem_map_of_mem hz)
 unfold headsR
 rw [List.pairwise_map]
 refine (leafs_told 7 ks 0 hs (keysOk_good h).1 (by omega)).imp_of_mem (fun {z w} hz hw ⟨j,h1,h2,h3,h4⟩=>?_)
 refine sless_of (keyOk_cut (hk z hz)) (keyOk_cut (hk w hw)) (j:=j) (fun i hi=>?_) ?_
 ·rw [cutK_letter keep z (by omega),cutK_letter keep w (by omega)]
  exact h3 i hi
 ·rw [cutK_letter keep z h1,cutK_letter keep w h2]
  exact h4
end Go.Proofs.YtepeokaplbbpoaaGreat.B

namespace Go.Proofs.YtepeokaplbbpoaaGreat.B
open Go.RowKit Go.Proofs
set_option linter.unusedVariables false
set_option linter.unusedSimpArgs false
variable {E:Env}
theorem recs_d (d:Nat):∀ (gs:List (List ByteArray)) (b:Bool),∀ x∈recs d b gs,x.d=d
 | [],_,x,h=>by cases h
 | g :: gs,b,x,h=>by
  rw [recs] at h
  rcases List.mem_cons.1 h with rfl | h
  ·rfl
  ·exact recs_d d gs false x h
theorem Tr.lmono {ks:List ByteArray} {F:List Fk} {L:List Br} (h:Tr ks F L):L.Pairwise (fun a b=>a.d<=b.d):=by
 rw [h.l,List.pairwise_flatMap]
 refine⟨fun f _=>?_,h.mono.imp (fun {a b} hab x hx y hy=>?_)⟩
 ·refine List.pairwise_iff_forall_sublist.2 (fun {a b} hab=>?_)
  have ha:=recs_d f.2 _ _ a (hab.subset (by simp))
  have hb:=recs_d f.2 _ _ b (hab.subset (by simp))
  omega
 ·have hx:=recs_d a.2 _ _ x hx
  have hy:=recs_d b.2 _ _ y hy
  omega
theorem Tr.later {ks:List ByteArray} {F:List Fk} {L:List Br} (h:Tr ks F L) {p q:Nat} (hp:p<L.length) (hq:q<L.length) (hd:(L[q]).d=(L[p]).d+1):p<q:=by
 rcases Nat.lt_trichotomy p q with h1 | h1 | h1
 ·exact h1
 ·subst h1
  omega
 ·have:=List.pairwise_iff_getElem.1 h.lmono q p hq hp h1
  omega
theorem ba_toList (x:ByteArray) (a b:Nat):(x.extract a b).data.toList=(x.data.toList.drop a).take (b-a):=by
 rw [ByteArray.data_extract,Array.toList_extract]
theorem ba_ext {x y:ByteArray} (h:x.data.toList=y.data.toList):x=y:=ByteArray.ext (Array.toList_inj.1 h)
theorem ba_len (x:ByteArray):x.data.toList.length=x.size:=Array.length_toList
theorem letter_get {x:ByteArray} {d:Nat} (h:d<x.size):x.data.toList[d]'(by rw [ba_len]; exact h)=letter x d:=by
 rw [letter_in h]
 simp
theorem way_more {x:ByteArray} {d:Nat} (h:d<x.size):x.extract 0 d++lit1 (letter x d)=x.extract 0 (d+1):=by
 apply ba_ext
 rw [ba_app,ba_toList,ba_toList]
 simp only [List.drop_zero,Nat.sub_zero]
 rw [List.take_succ_eq_append_getElem (by rw [ba_len]; exact h),letter_get h]
 rfl
theorem leaf_text {keep:Int} {x way:ByteArray} {d:Nat} (hk:keyOk x=true) (h0:0<=keep) (hw:x.extract 0 d=way) (hs:way.size=d):(if letter x d=45 then way else way++lit1 (letter x d))++restK x (d+1) keep=cutK keep (x,d):=by
 have hxs:d<=x.size:=by
  rw [<- hw,ByteArray.size_extract] at hs
  omega
 have hrest:restK x (d+1) keep=(x.extract (d+1) x.size).extract 0 (min (x.size-(d+1)) keep.toNat):=rfl
 have hcut:cutK keep (x,d)=x.extract 0 (d+1+keep.toNat):=rfl
 rw [hrest,hcut]
 have hlen:=ba_len x
 by_cases hl:letter x d=45
 ·rw [if_pos hl,<- hw]
  have hxd:=(letter_ok hk d).1 hl
  apply ba_ext
  rw [ba_app,ba_toList,ba_toList,ba_toList,ba_toList]
  simp only [List.drop_zero,Nat.sub_zero]
  rw [List.drop_of_length_le (by omega),List.take_nil,List.take_nil,List.append_nil,List.take_of_length_le (by omega),List.take_of_length_le (by omega)]
 ·rw [if_neg hl]
  have hd:d<x.size:=by
   rcases Nat.lt_or_ge d x.size with h | h
   ·exact h
   ·exact absurd ((letter_ok hk d).2 h) hl
  rw [<- hw,way_more hd]
  apply ba_ext
  rw [ba_app,ba_toList,ba_toList,ba_toList,ba_toList]
  simp only [List.drop_zero,Nat.sub_zero]
  have e1:List.take (d+1+keep.toNat) x.data.toList=List.take (d+1) x.data.toList++List.take keep.toNat (List.drop (d+1) x.data.toList):=List.take_add
  rw [e1]
  congr 1
  rw [List.take_take,List.take_eq_take_iff,List.length_drop,hlen]
  omega
end Go.Proofs.YtepeokaplbbpoaaGreat.B

namespace Go.Proofs.YtepeokaplbbpoaaGreat.B
open Go.RowKit Go.Proofs
set_option linter.unusedVariables false
set_option linter.unusedSimpArgs false
variable {E:Env}
def partRow (keep:Int) (z:ByteArray × Nat):List AV:=[.str (cutK keep z),.bool (wholeK z.1 z.2 keep)]
def KeepP (H H':Hp):Prop:=H.length<=H'.length/\∀ y ob,H.at y=some ob->ob.ety≠147->H'.at y=some ob
theorem KeepP.trans {a b c:Hp} (h:KeepP a b) (k:KeepP b c):KeepP a c:=⟨Nat.le_trans h.1 k.1,fun y ob ho he=>k.2 y ob (h.2 y ob ho he) he⟩
theorem HLe.keepP {a b:Hp} (h:HLe a b):KeepP a b:=⟨h.1,fun y ob ho _=>h.2 y ob ho⟩
theorem g_more {ks g:List ByteArray} {d:Nat} (hs:SP d ks) (hg:g∈brs d ks) (hm:many g=true):∀ y∈g,d<y.size/\letter y d≠45/\letter y d=letter (g.headD ⟨#[]⟩) d:=by
 have h2:=SP.of_brs ks.length d (Nat.le_refl _) hs g hg
 have hlen:2<=g.length:=by
  have:1<g.length:=by simpa [many] using hm
  omega
 intro y hy
 have hsz:=h2.size hlen y hy
 have hne:letter y d≠45:=fun e=>by
  have:=(letter_ok (h2.ok y hy) d).1 e
  omega
 refine⟨by omega,hne,?_⟩
 obtain⟨ks',_,rfl⟩:=brs_sub ks.length d ks (Nat.le_refl _) g hg
 match hk:grp d ks',hy with
 | a :: r,hy =>
  refine grp_same (d:=d) (ks:=ks') (by rw [hk]; exact hy) (by rw [hk]; simp)
theorem cG_mid {C:CallP} (hm:CMono C) {q:Bool} {a b:CC} {K:Tm->Hp->Prop} {Q:Ex->Tm->Hp->Prop} {t:Tm} {H:Hp} (I:Tm->Hp->Prop) (h1:cG (.bool q) C a b (thenX I Q) t H) (h2:∀ t H,I t H->K t H):cG (.bool q) C a b (thenX K Q) t H:=by
 have key:∀ (e:Ex) (t:Tm) (H:Hp),thenX I Q e t H->thenX K Q e t H:=by
  intro e t H h
  cases e with
  | normal=>exact h2 _ _ h
  | exit id=>exact h
  | ret=>exact h
 exact⟨fun e=>W_mono hm a _ _ t H key (h1.1 e),fun e=>W_mono hm b _ _ t H key (h1.2 e)⟩
theorem Svt.cut1 {ks:List ByteArray} {keep:Int} {F:List Fk} {L:List Br} {s:Sv} (h:Svt ks keep F L s) {p:Nat} (hp:p<L.length):s.l.extract p (p+1)=lit1 (L[p].ltr):=by
 apply ba_ext
 rw [ba_toList,h.en.l,show p+1-p=1 by omega,List.drop_eq_getElem_cons (by simpa using hp),List.getElem_map]
 rfl
theorem flat_take {β:Type} {f:List ByteArray->List β}:∀ {gs:List (List ByteArray)} {i:Nat} (hi:i<gs.length),(∀ g∈gs,(f g).length=g.length)->((gs.take i).map f).flatten.length+gs[i].length<=gs.flatten.length
 | g :: gs,0,_,_=>by simp
 | g :: gs,i+1,hi,hf=>by
  have ih:=flat_take (f:=f) (gs:=gs) (i:=i) (by simpa using hi) (fun x hx=>hf x (List.mem_cons_of_mem _ hx))
  have h1:=hf g (by simp)
  simp only [List.take_succ_cons,List.map_cons,List.flatten_cons,List.length_append,List.getElem_cons_succ]
  omega
theorem flat_succ {β:Type} {f:List ByteArray->List β} {gs:List (List ByteArray)} {i:Nat} (hi:i<gs.length):((gs.take (i+1)).map f).flatten=((gs.take i).map f).flatten++f gs[i]:=by
 rw [List.take_succ_eq_append_getElem hi,List.map_append,List.flatten_append]
 simp
def PtK (p q:Nat) (way nx:ByteArray) (w:AV) (H H':Hp) (t:Tm) (K:Hp):Prop:=t 2=.str way/\t 3=w/\t 4=.pt H.length 0 0/\t 12=.int .i64 p/\t 11=.int .i64 q/\t 13=.str nx/\K=H'
def PtJ (keep:Int) (n d a q:Nat) (gs:List (List ByteArray)) (way:ByteArray) (out:List (ByteArray × Nat)) (s:Sv) (r:AV) (H0 H:Hp) (m:Nat) (t:Tm) (H':Hp):Prop:=∃ (i p:Nat) (w:AV),i+m=gs.length/\p=a+i/\t 2=.str way/\t 3=w/\t 4=.pt H.length 0 0/\t 12=.int .i64 p/\t 11=.int .i64 q/\HLe H0 H'/\KeepP H H' /\
 OwnM 2 147 (partRow keep) H0 H' w (out++((gs.take i).map (sgm n d)).flatten)/\H'.at H.length=some ⟨[[.str s.l,.str s.m,.str s.f,r,.int .i64 s.k]],5,76,false⟩
theorem leafs_len {n d:Nat} {ks:List ByteArray} (hs:SP d ks) (hg:Good (ks,d)) (hn:7<=n+d):(leafs n ks d).length=ks.length:=by
 have:=congrArg List.length (leafs_fst n hs hg hn)
 rwa [List.length_map] at this
set_option maxHeartbeats 3200000 in
theorem parts_ok (s:Sv) (r:AV) (ks:List ByteArray) (keep:Int) (F:List Fk) (L:List Br) (H0:Hp) (h:Svt ks keep F L s) (hke:ks≠[]) (hr:Strs H0 r s.r) :
  ∀ (n j d:Nat) (ks':List ByteArray) (way:ByteArray) (v:AV) (out:List (ByteArray × Nat)) (H:Hp),F[j]?=some (ks',d)->7<=n+d->way.size=d->(∀ x∈ks',x.extract 0 d=way)->HLe H0 H->OwnM 2 147 (partRow keep) H0 H v out->out.length+ks'.length<=1000000 ->
  AC Tryz.prog E 172 [svAV s r,.int .i64 j,.str way,v] H (fun u H'=>∃ w,u=.tu [w,.bool true]/\HLe H0 H'/\KeepP H H'/\OwnM 2 147 (partRow keep) H0 H' w (out++leafs n ks' d))
 | 0,j,d,ks',way,v,out,H,hj,hn,_,_,_,_,_=>by
  obtain⟨hjl,hje⟩:=List.getElem?_eq_some_iff.1 hj
  have hgd:=h.tr.good F[j] (List.getElem_mem hjl)
  rw [hje] at hgd
  have:=hgd.deep
  simp only at this
  omega
 | n+1,j,d,ks',way,v,out,H,hj,hn,hws,hway,hle0,hv,hlen=>by
  have ih:=parts_ok s r ks keep F L H0 h hke hr n
  obtain⟨hjl,hje⟩:=List.getElem?_eq_some_iff.1 hj
  have hgd:=h.tr.good F[j] (List.getElem_mem hjl)
  have hsp:=h.tr.sp F[j] (List.getElem_mem hjl)
  rw [hje] at hgd hsp
  have hd5:d<=5:=hgd.deep
  have hr1:=Rows.one hr
  have hll:=h.len
  have hjb:j<1099511627776:=by
   have e:=congrArg List.length h.tr.f
   rw [List.length_cons,List.length_map] at e
   have:=List.length_filter_le Br.many L
   omega
  refine AC_by fol (tC_le tabJ_ok) h_impl_Sieve_parts ?_
  obtain⟨H1,hH1,hle1,b0⟩:=svBox s r H
  have hwI:¬((5:Int)<way.size):=by omega
  simp [c_impl_Sieve_parts,svAV,hr1,<- hH1,hwI,b0]
  have cB:=branches_ok (E:=E) s r (L.map (·.fst)) j H1 hr1 h.bf (by rw [List.length_map]; omega) hjb
  simp only [svAV] at cB
  refine cg_use cB ?_
  obtain⟨a,p1,p2,p3,p4,p5⟩:=h.tr.span hke hjl
  have p6:∀ (i:Nat) (hi:i<(brs d ks').length) (hl:a+i<L.length),(L[a+i]).g=(brs d ks')[i]/\(L[a+i]).d=d:=by
   intro i hi hl
   have:=p5 i (by rw [hje]; exact hi) hl
   simp only [hje] at this
   exact this
  clear p5
  simp only [hje] at p2 p3 p4
  have hflat:=brs_flat ks'.length (Nat.le_refl _) hsp
  have hleafs:=leafs_succ n ks' d
  have hsf:∀ g∈brs d ks',(sgm n d g).map Prod.fst=g:=fun g hg=>sgm_fst hsp hgd (by omega) hg
  obtain⟨gs,hgs⟩:∃ gs,gs=brs d ks':=⟨_,rfl⟩
  have hgm:∀ g∈gs,g∈brs d ks':=by rw [hgs]; exact fun g h=>h
  simp only [<- hgs] at p2 p3 p4 p6 hflat hleafs hsf
  obtain⟨q,hqa⟩:∃ q:Nat,q=a+gs.length:=⟨_,rfl⟩
  have hspan:spanI (L.map (·.fst)) j=.tu [.int .i64 a,.int .i64 q]:=by
   unfold spanI nullsN
   rw [p1]
   simp only
   rw [p4,show a+1+(gs.length-1)=q by omega]
  rw [hspan]
  simp
  refine W_for (PtJ keep n d a q gs way out s r H0 H) gs.length ?_ (tC_mono AC_mono) ?_
  ·exact⟨0,a,v,by omega,by omega,by simp,by simp,by simp,by simp,by simp,hle0.trans hle1,hle1.keepP,by simpa using hv.le hle1,b0⟩
  rintro m t H' ⟨i,p,w,him,hp,t2,t3,t4,t12,t11,hle,hkp,hw,b0'⟩
  simp [t2,t3,t4,t12,t11]
  refine c_split (fun hq=>?_) (fun hq=>?_)<;>simp at hq
  ·have hi:i<gs.length:=by omega
   have hpq:p<q:=by omega
   have hpL:p<L.length:=by omega
   have hls:=h.ls
   obtain⟨z1,z2⟩:=p6 i hi (by omega)
   simp only [<- hp] at z1 z2
   have hlt:=h.lt hpL
   obtain⟨x,hx⟩:∃ x,x=gs[i].headD ⟨#[]⟩:=⟨_,rfl⟩
   have hltr:L[p].ltr=letter x d:=by
    unfold Br.ltr
    rw [z1,z2,hx]
   rw [hltr] at hlt
   have hw2:=wrapN (i:=p) (by omega)
   have hbm:=h.bm.bt (i:=p) (by rw [List.length_map]; omega)
   rw [List.getElem_map] at hbm
   have hms:s.m.size=L.length:=by rw [h.bm.size,List.length_map]
   have hmany:L[p].many=many gs[i]:=by unfold Br.many; rw [z1]
   have hgi:=hgm _ (List.getElem_mem hi)
   have hu8:decide (((letter x d).toNat:Int)=45)=decide (letter x d=45):=u8_eq (letter x d) 45
   simp [t2,t3,t4,t12,t11,b0',hlt,hls,hpL,hu8]
   obtain⟨nx,hnx⟩:∃ nx,nx=if letter x d=45 then way else way++lit1 (letter x d):=⟨_,rfl⟩
   have hl1:(lit1 (letter x d)).size=1:=rfl
   have hnxs:nx.size<=6:=by
    rw [hnx]
    split
    ·omega
    ·rw [ByteArray.size_append]
     omega
   have hcut:=h.cut1 hpL
   rw [hltr] at hcut
   refine cG_mid (tC_mono AC_mono) (PtK p q way nx w H H') ?_ ?_
   ·refine c_split (fun hq0=>?_) (fun hq0=>?_)<;>simp at hq0
    ·rw [if_neg hq0] at hnx
     have hwp:IntKind.i64.wrap ((p:Int)+1)=((p+1:Nat):Int):=hw2
     simp [t2,t3,t4,t12,t11,b0',hls,hwp]
     refine⟨⟨by omega,by omega⟩,by omega,by simp [t2],by simp [t3],by simp [t4],by simp [t12],by simp [t11],?_,rfl⟩
     simp [hnx,hcut]
    ·rw [if_pos hq0] at hnx
     simp
     exact⟨by simp [t2],by simp [t3],by simp [t4],by simp [t12],by simp [t11],by simp [hnx],rfl⟩
   clear t2 t3 t4 t12 t11
   rintro t K ⟨t2,t3,t4,t12,t11,t13,rfl⟩
   show W _ _ _ _ _
   cases hm:many gs[i] with
   | false =>
    rw [hm] at hmany
    rw [hmany] at hbm
    simp only [Bool.false_eq_true,if_false] at hbm
    have hrs:=h.rs hpL hmany
    have hrst:L[p].rst keep=restK x (d+1) keep:=by unfold Br.rst; rw [z1,z2,hx]
    rw [hrst] at hrs
    have hgl:gs[i].length<=1:=by simpa [many] using hm
    have hgne:gs[i]≠[]:=brs_ne ks'.length d ks' (Nat.le_refl _) _ hgi
    have hg1:gs[i]=[x]:=by
     match hgg:gs[i],hgl,hgne with
     | [y],_,_ =>
      rw [hgg] at hx
      rw [hx]
      rfl
    have hxk:x∈ks':=by
     rw [<- hflat]
     exact List.mem_flatten.2 ⟨gs[i],List.getElem_mem hi,by rw [hg1]; simp⟩
    have htx:nx++restK x (d+1) keep=cutK keep (x,d):=by
     rw [hnx]
     exact leaf_text (hsp.ok x hxk) h.kp.1 (hway x hxk) hws
    have hxs:(restK x (d+1) keep).size<1000:=by
     unfold restK
     rw [ByteArray.size_extract]
     have:=h.kp
     omega
    have cC:=complete_ok (E:=E) s r (L.map Br.many) p K (hr.le hle) h.bm (by rw [List.length_map]; omega) (by rw [List.length_map]; omega) (by rw [List.length_map]; exact hls) _ hrs _ hlt
    have cR:=rest_ok (E:=E) s r (L.map Br.many) p K (hr.le hle) h.bm (by rw [List.length_map]; omega) (by rw [List.length_map]; omega) _ hrs
    simp only [svAV] at cC cR
    have hwk:(decide (letter x d=45)||decide (((restK x (d+1) keep).size:Int)<s.k))=wholeK x d keep:=by rw [h.en.k]; rfl
    rw [hwk] at cC
    have hft:=flat_take (f:=sgm n d) hi (fun g hg=>by
     have:=congrArg List.length (hsf g hg)
     rwa [List.length_map] at this)
    rw [hflat] at hft
    simp [t2,t3,t4,t12,t11,t13,b0',hbm,hms,hpL]
    refine cg_use cR ?_
    have hsz9:nx.size+(restK x (d+1) keep).size<=9223372036854775807:=by omega
    simp [t2,t3,t4,t12,t11,t13,b0',hsz9,htx]
    refine cg_use cC ?_
    simp
    refine appG_add (y:=(x,d)) (row:=partRow keep) (bytes:=24) (H0:=H0) hw hle (by rw [List.length_append]; omega) rfl (fun v2 K2 g1 g2 g3 g4=>?_)
    simp [t2,t3,t4,t12,t11,hw2]
    have hkpK:KeepP K K2:=⟨g3.1,fun y ob ho he=>g3.2 y ob (fun hy=>he (hw.1.ety hy ho)) ho⟩
    have hkp2:KeepP H K2:=hkp.trans hkpK
    refine⟨m-1,by omega,i+1,p+1,v2,by omega,by omega,by simp [t2],by simp,by simp [t4],by simp,by simp [t11],g1,hkp2,?_,hkpK.2 _ _ b0' (by simp)⟩
    ·have e:sgm n d gs[i]=[(x,d)]:=by
      unfold sgm
      rw [hm,<- hx]
      rfl
     rw [flat_succ hi,e,<- List.append_assoc]
     exact g2
   | true =>
    rw [hm] at hmany
    rw [hmany,if_pos rfl] at hbm
    have cN:=node_ok (E:=E) s r (L.map Br.many) p K hr1 h.bm (by rw [List.length_map]; omega) (by rw [List.length_map]; omega)
    simp only [svAV] at cN
    simp [t2,t3,t4,t12,t11,t13,b0',hbm,hms,hpL]
    refine cg_use cN ?_
    have hkd:=h.kid hpL hmany
    obtain⟨j2,hj2⟩:∃ j2,j2=((L.map Br.many).take (p+1)).countP id:=⟨_,rfl⟩
    rw [<- hj2] at hkd cN ⊢
    have hkk:L[p].kid=(gs[i],d+1):=by unfold Br.kid; rw [z1,z2]
    rw [hkk] at hkd
    obtain⟨hj2l,hj2e⟩:=List.getElem?_eq_some_iff.1 hkd
    have hj2b:j2<1099511627776:=by
     have e:=congrArg List.length h.tr.f
     rw [List.length_cons,List.length_map] at e
     have:=List.length_filter_le Br.many L
     omega
    obtain⟨a2,s1,s2,s3,s4,s5⟩:=h.tr.span hke hj2l
    have s6:=s5 0 s3 (by omega)
    have hlater:p<a2:=by
     refine h.tr.later hpL (show a2<L.length by omega) ?_
     have:(L[a2+0]'(by omega)).d=F[j2].2:=s6.2
     simp only [Nat.add_zero] at this
     rw [this,hj2e,z2]
    have hspan2:∃ e2:Int,spanI (L.map (·.fst)) j2=.tu [.int .i64 a2,.int .i64 e2]:=by
     unfold spanI
     rw [s1]
     exact⟨_,rfl⟩
    obtain⟨e2,hspan2⟩:=hspan2
    have cB2:=branches_ok (E:=E) s r (L.map (·.fst)) j2 K hr1 h.bf (by rw [List.length_map]; omega) hj2b
    simp only [svAV] at cB2
    rw [hspan2] at cB2
    have hgmo:=g_more hsp hgi hm
    have hne45:letter x d≠45:=by
     match hgg:gs[i],hm,hgmo with
     | y :: g',_,hgmo =>
      have:=hgmo y (by simp)
      rw [hx,hgg]
      exact this.2.1
    have hnle:¬a2<=p:=by omega
    simp [t2,t3,t4,t12,t11,t13,b0']
    refine cg_use cB2 ?_
    simp [t2,t3,t4,t12,t11,t13,b0',hnle,hlt,hls,hpL,hu8,hne45]
    refine cg_use cN ?_
    have hnx2:nx=way++lit1 (letter x d):=by rw [hnx,if_neg hne45]
    have hft:=flat_take (f:=sgm n d) hi (fun g hg=>by
     have:=congrArg List.length (hsf g hg)
     rwa [List.length_map] at this)
    rw [hflat] at hft
    have cP:=ih j2 (d+1) gs[i] nx w _ K hkd (by omega) (by rw [hnx2,ByteArray.size_append]; omega) (fun y hy=>by
     obtain⟨m1,m2,m3⟩:=hgmo y hy
     have hyk:y∈ks':=by
      rw [<- hflat]
      exact List.mem_flatten.2 ⟨gs[i],List.getElem_mem hi,hy⟩
     rw [<- way_more m1,hway y hyk,hnx2,m3,hx]) hle hw (by rw [List.length_append]; omega)
    simp only [svAV] at cP
    simp [t2,t3,t4,t12,t11,t13,b0']
    refine cg_ex cP ?_
    rintro v2 K2 ⟨w2,rfl,g1,g2,g3⟩
    simp [t2,t3,t4,t12,t11,t13,hw2]
    refine⟨m-1,by omega,i+1,p+1,w2,by omega,by omega,by simp [t2],by simp,by simp [t4],by simp,by simp [t11],g1,hkp.trans g2,?_,g2.2 _ _ b0' (by simp)⟩
    have e:sgm n d gs[i]=leafs n gs[i] (d+1):=by
     unfold sgm
     rw [if_pos hm]
    rw [flat_succ hi,e,<- List.append_assoc]
    exact g3
  ·have hieq:i=gs.length:=by omega
   rw [hieq,List.take_length,<- hleafs] at hw
   simp [t2,t3,t4,t12,t11]
   exact⟨hle,hkp,hw⟩
end Go.Proofs.YtepeokaplbbpoaaGreat.B

namespace Go.Proofs.YtepeokaplbbpoaaGreat.B
open Go.RowKit Go.Proofs
set_option linter.unusedVariables false
set_option linter.unusedSimpArgs false
variable {E:Env}
def nu (q:List Fk):Nat:=(q.map fun f=>f.1.length * (7-f.2)).sum
theorem nu_subs (d:Nat) (gs:List (List ByteArray)):nu (subs d gs)<=(gs.map List.length).sum * (6-d):=by
 induction gs with
 | nil=>simp [subs,nu]
 | cons g gs ih =>
  have e:nu (subs d (g :: gs))=(if many g=true then g.length * (7-(d+1)) else 0)+nu (subs d gs):=by
   unfold subs nu
   rw [List.filter_cons]
   split<;>simp
  have h7:7-(d+1)=6-d:=by omega
  rw [e,h7]
  simp only [List.map_cons,List.sum_cons]
  rw [Nat.add_mul]
  split<;>omega
theorem allF_few:∀ (n:Nat) (q:List Fk),(∀ f∈q,Good f)->((allF n q).flatMap recF).length<=nu q
 | 0,q,_=>by simp [allF]
 | n+1,[],_=>by simp [allF]
 | n+1,(ks,d) :: q,hq=>by
  have hf:=hq (ks,d) (by simp)
  have hd:d<=5:=hf.deep
  have ih:=allF_few n (q++kids (ks,d)) (fun f h=>by
   rcases List.mem_append.1 h with h | h
   ·exact hq f (List.mem_cons_of_mem _ h)
   ·exact hf.subs f h)
  have h1:=nu_subs d (brs d ks)
  obtain⟨h2,h3⟩:=brs_sum ks.length d ks (Nat.le_refl _)
  rw [h2] at h1
  have e1:nu (q++kids (ks,d))=nu q+nu (subs d (brs d ks)):=by simp [nu,kids]
  have e2:nu ((ks,d) :: q)=ks.length * (7-d)+nu q:=by simp [nu]
  have e3:7-d=(6-d)+1:=by omega
  have e4:(recF (ks,d)).length=(brs d ks).length:=recs_len _ _ _
  rw [e2,e3,Nat.mul_add,allF,List.flatMap_cons,List.length_append,e4]
  rw [e1] at ih
  omega
theorem BitsOk_ok (s:ByteArray) (b:List Bool) (H:Hp) (hb:BitsIs s b) (hs:b.length<=400) :
  AC Tryz.prog E 170 [.str s] H (fun v H'=>v=.bool true/\H'=H):=by
 refine AC_byp (CLe.refl (AC Tryz.prog E)) h_impl_BitsOk (by simp) ?_
 have hsz:=hb.size
 simp [c_impl_BitsOk,hsz]
 refine W_for (fun k t H'=>∃ i:Nat,i+k=b.length/\t 0=.str s/\t 5=.int .i64 b.length/\t 6=.int .i64 i/\HLe H H') b.length ?_ AC_mono ?_
 ·exact⟨0,by simp,by simp,by simp [hsz],by simp,HLe.refl _⟩
 rintro k t H' ⟨i,hik,h0,h5,h6,hle⟩
 simp [h0,h5,h6]
 refine c_split (fun hq=>?_) (fun hq=>?_)<;>simp at hq
 ·have hi:i<b.length:=by omega
  have hw:=wrapN (i:=i) (by omega)
  have hbt:=hb.bt hi
  cases hbi:b[i] with
  | false =>
   rw [hbi] at hbt
   simp at hbt
   simp [h0,h5,h6,hbt,hsz,hi,hw]
   exact⟨k-1,by omega,i+1,by omega,by omega,hle⟩
  | true =>
   rw [hbi] at hbt
   simp at hbt
   simp [h0,h5,h6,hbt,hsz,hi,hw]
   exact⟨k-1,by omega,i+1,by omega,by omega,hle⟩
 ·have hI:(b.length:Int)<=400:=by omega
  simp [h0,hsz,hI,hs,hle]
def Parts (keep:Int) (H:Hp) (v:AV) (zs:List (ByteArray × Nat)):Prop:=Rows 2 H v (zs.map (partRow keep))
theorem Parts.get {keep:Int} {H:Hp} {v:AV} {zs:List (ByteArray × Nat)} (h:Parts keep H v zs) {j:Nat} (hj:j<zs.length):∃ o i ob,v=.sl o i zs.length/\H.at o=some ob/\ob.esz=2/\ob.rows[i+j]?=some [.str (cutK keep zs[j]),.bool (wholeK zs[j].1 zs[j].2 keep)]:=by
 obtain⟨o,i,ob,h1,h2,h3,h4⟩:=Rows.get h (j:=j) (by simpa using hj)
 exact⟨o,i,ob,by simpa using h1,h2,h3,by simpa [partRow] using h4⟩
theorem texts_ok (keep:Int) (a:AV) (zs:List (ByteArray × Nat)) (H:Hp) (ha:Parts keep H a zs) (hn:zs.length<1000000) :
  AC Tryz.prog E 173 [a] H (fun v H'=>HLe H H'/\OwnS H H' v (zs.map (cutK keep))):=by
 refine AC_by fol (tC_le tabJ_ok) h_impl_texts ?_
 have l1:lenV a=.int .i64 zs.length:=by simpa using Rows.len ha
 have hsl:slC a:=Rows.slc ha
 simp [c_impl_texts,l1,hsl]
 refine W_for (fun m t H'=>∃ (i:Nat) (w:AV),i+m=zs.length/\t 3=w/\t 6=a/\t 7=.int .i64 zs.length/\t 8=.int .i64 i/\HLe H H'/\OwnS H H' w ((zs.take i).map (cutK keep))) zs.length ?_ (tC_mono AC_mono) ?_
 ·exact⟨0,.nils,by simp,by simp,by simp,by simp,by simp,HLe.refl _,OwnM.nils⟩
 rintro m t H' ⟨i,w,him,t3,t6,t7,t8,hle,hw⟩
 simp [t3,t6,t7,t8]
 refine c_split (fun hq=>?_) (fun hq=>?_)<;>simp at hq
 ·have hi:i<zs.length:=by omega
  have hw2:=wrapN (i:=i) (by omega)
  obtain⟨o1,i1,ob1,rfl,x1,x2,x3⟩:=Parts.get ha hi
  have x1':=hle.2 _ _ x1
  obtain⟨G,hG⟩:∃ G:Hp,G=H'++[some ⟨[[.str (cutK keep zs[i]),.bool (wholeK zs[i].1 zs[i].2 keep)]],2,147,false⟩]:=⟨_,rfl⟩
  have hleG:HLe H' G:=by rw [hG]; exact HLe.self _ _
  have bG:G.at H'.length=some ⟨[[.str (cutK keep zs[i]),.bool (wholeK zs[i].1 zs[i].2 keep)]],2,147,false⟩:=by rw [hG]; simp
  have hlt:=Hp.at_lt x1'
  have x1G:(H'++[some ⟨[[.str ⟨#[]⟩,.bool false]],2,147,false⟩]:Hp).at o1=some ob1:=(HLe.self _ _).2 _ _ x1'
  simp [t3,t6,t7,t8,x1',x1G,x2,x3,hi]
  have hGl:H'.length+1=G.length:=by rw [hG]; simp
  rw [<- app2,<- hG,hGl]
  refine appG_add (y:=cutK keep zs[i]) (row:=strRow) (bytes:=16) (H0:=H) (hw.le hleG) (hle.trans hleG) (by rw [List.length_map,List.length_take]; omega) rfl (fun v2 K2 g1 g2 g3 g4=>?_)
  simp [t3,t6,t7,t8,hw2]
  refine⟨m-1,by omega,i+1,by omega,by omega,g1,?_⟩
  rw [List.take_succ_eq_append_getElem (by simpa using hi),List.getElem_map,<- List.map_take]
  exact g2
 ·have:i=zs.length:=by omega
  subst this
  simp [t3]
  exact⟨hle,by simpa using hw⟩
theorem keysOk_of {ks:List ByteArray} (h1:ks.Pairwise (fun a b=>sless a b=true)) (h2:∀ k∈ks,keyOk k=true) (h3:ks.length<=24):keysOk ks=true:=by
 simp only [keysOk,decide_eq_true_eq]
 refine⟨fun i hi=>⟨h2 _ (List.getElem_mem hi),fun h0=>?_⟩,h3⟩
 exact List.pairwise_iff_getElem.1 h1 (i-1) i (by omega) hi (by omega)
theorem heads_ok' {ks:List ByteArray} {keep:Int} (h:keysOk ks=true):keysOk (headsR ks keep)=true/\(headsR ks keep).length=ks.length:=by
 have hs:=SP.of_keys h
 have hf:=leafs_fst 7 hs (keysOk_good h).1 (by omega)
 have hlen:(headsR ks keep).length=ks.length:=by
  unfold headsR
  have:=congrArg List.length hf
  rw [List.length_map] at this ⊢
  exact this
 refine⟨keysOk_of (heads_pw h) (fun k hk=>?_) (by rw [hlen]; exact (keysOk_good h).2),hlen⟩
 unfold headsR at hk
 obtain⟨z,hz,rfl⟩:=List.mem_map.1 hk
 exact keyOk_cut (hs.ok z.1 (by rw [<- hf]; exact List.mem_map_of_mem hz))
theorem sieveR_few {ks:List ByteArray} {keep:Int} (h:keysOk ks=true):(sieveR ks keep).l.size<=400:=by
 obtain⟨hg,hl⟩:=keysOk_good h
 have h1:=allF_few 500 [(ks,0)] (fun f hf=>by rw [List.mem_singleton.1 hf]; exact hg)
 have h2:nu [(ks,0)]=ks.length * 7:=by simp [nu]
 have e:Enc [] keep ⟨⟨#[]⟩,⟨#[]⟩,⟨#[]⟩,[],keep⟩:=⟨rfl,rfl,rfl,rfl,rfl⟩
 have he:=(Enc.bfs 500 [(ks,0)] e).l
 rw [List.nil_append] at he
 have:=congrArg List.length he
 rw [List.length_map] at this
 have h3:(sieveR ks keep).l.data.toList.length=(sieveR ks keep).l.size:=Array.length_toList
 unfold sieveR at h3 ⊢
 omega
end Go.Proofs.YtepeokaplbbpoaaGreat.B

namespace Go.Proofs.YtepeokaplbbpoaaGreat.B
open Go.RowKit Go.Proofs
set_option linter.unusedVariables false
set_option linter.unusedSimpArgs false
variable {E:Env}
theorem parts0_ok (ks:List ByteArray) (keep:Int) (r:AV) (F:List Fk) (L:List Br) (H0 H:Hp) (h:Svt ks keep F L (sieveR ks keep)) (hk:keysOk ks=true) (hle:HLe H0 H) (hr:Strs H0 r (sieveR ks keep).r) :
  AC Tryz.prog E 172 [svAV (sieveR ks keep) r,.int .i64 0,.str ⟨#[]⟩,.nils] H (fun u H'=>∃ w,u=.tu [w,.bool true]/\HLe H0 H'/\KeepP H H'/\OwnM 2 147 (partRow keep) H0 H' w (leafs 7 ks 0)):=by
 by_cases hke:ks=[]
 ·have hL:=h.tr.z hke
  have hl7:leafs 7 ks 0=[]:=by rw [hke,leafs,brs]; rfl
  rw [hl7]
  refine AC_by fol (tC_le tabJ_ok) h_impl_Sieve_parts ?_
  obtain⟨H1,hH1,hle1,b0⟩:=svBox (sieveR ks keep) r H
  have hr1:=Rows.one hr
  have e0:(⟨#[]⟩:ByteArray).size=0:=rfl
  simp [c_impl_Sieve_parts,svAV,hr1,<- hH1,b0,e0]
  have e1:spanI (L.map (·.fst)) 0=.tu [.int .i64 0,.int .i64 0]:=by
   rw [hL]
   rfl
  have cB:=branches_ok (E:=E) (sieveR ks keep) r (L.map (·.fst)) 0 H1 hr1 h.bf (by rw [hL]; simp) (by omega)
  simp only [svAV] at cB
  rw [e1] at cB
  refine cg_use cB ?_
  simp
  refine W_for (fun m t H'=>t 3=.nils/\t 11=.int .i64 0/\t 12=.int .i64 0/\H'=H1) 0 ?_ (tC_mono AC_mono) ?_
  ·exact⟨by simp,by simp,by simp,rfl⟩
  rintro m t H' ⟨t3,t11,t12,rfl⟩
  simp [t3,t11,t12]
  exact⟨hle.trans hle1,hle1.keepP,OwnM.nils⟩
 ·have:=parts_ok (E:=E) (sieveR ks keep) r ks keep F L H0 h hke hr 7 0 0 ks ⟨#[]⟩ .nils [] H (by rw [h.tr.f]; rfl) (by omega) rfl (fun x _=>by
   apply ba_ext
   rw [ba_toList]
   rfl) hle OwnM.nils (by have:=(keysOk_good hk).2; simp; omega)
  simpa using this
def HdJ (s:Sv) (w:AV) (H H2:Hp) (t:Tm) (K:Hp):Prop:=t 1=.pt H.length 0 0/\t 5=w/\t 6=.bool true/\∃ L7 r2,t 7=.pt L7 0 0/\K.at L7=some ⟨[[.str s.l,.str s.m,.str s.f,r2,.int .i64 s.k]],5,76,false⟩/\Strs K r2 s.r/\HLe H2 K/\s.r.length<=12000
theorem Parts.le {keep:Int} {H H':Hp} {v:AV} {zs:List (ByteArray × Nat)} (h:Parts keep H v zs) (hle:HLe H H'):Parts keep H' v zs:=Rows.le h hle
set_option maxHeartbeats 3200000 in
theorem heads_ok (ks:List ByteArray) (keep:Int) (r:AV) (H:Hp) (hk:keysOk ks=true) (hkp:0<=keep/\keep<=5) (hr:Strs H r (sieveR ks keep).r) :
  AC Tryz.prog E 145 [svAV (sieveR ks keep) r] H (fun u H'=>∃ w,u=.tu [w,.bool true]/\HLe H H'/\Parts keep H' w (leafs 7 ks 0)):=by
 obtain⟨F,L,hsv⟩:=Svt.of hk hkp
 have hfew:=sieveR_few (keep:=keep) hk
 have hls:=hsv.ls
 have hso:=sieve_heads (keep:=keep) hk
 obtain⟨hhk,hhl⟩:=heads_ok' (keep:=keep) hk
 have hks:=(keysOk_good hk).2
 have hsk:(sieveR ks keep).k=keep:=hsv.en.k
 have hms:(sieveR ks keep).m.size=L.length:=by rw [hsv.bm.size,List.length_map]
 have hfs:(sieveR ks keep).f.size=L.length:=by rw [hsv.bf.size,List.length_map]
 have hrl:(sieveR ks keep).r.length=(sieveR ks keep).m.data.toList.count 48:=by
  have h1:=(bits_count hsv.bm L.length).2
  have h2:(sieveR ks keep).m.extract 0 L.length=(sieveR ks keep).m:=by rw [<- hms]; exact ba_whole _
  rw [h2,List.take_of_length_le (by simp),List.countP_map] at h1
  rw [h1,hsv.en.r,List.length_map,List.countP_eq_length_filter]
  rfl
 have hsvo:sieveO (headsR ks keep) keep=some (sieveR ks keep):=by
  unfold sieveO
  rw [if_pos ⟨hhk,hkp⟩,hso]
 obtain⟨s,hs⟩:∃ s,s=sieveR ks keep:=⟨_,rfl⟩
 have cP:∀ K:Hp,HLe H K->AC Tryz.prog E 172 [svAV s r,.int .i64 0,.str ⟨#[]⟩,.nils] K (fun u H'=>∃ w,u=.tu [w,.bool true]/\HLe H H'/\KeepP K H'/\OwnM 2 147 (partRow keep) H H' w (leafs 7 ks 0)):=fun K hK=>by
  rw [hs]
  exact parts0_ok ks keep r F L H K hsv hk hK hr
 rw [<- hs] at hsv hr hfew hls hsk hms hfs hrl hsvo ⊢
 clear hso
 clear hs
 subst hsk
 refine AC_by fol (tC_le tabJ_ok) h_impl_Sieve_heads ?_
 obtain⟨H1,hH1,hle1,b0⟩:=svBox s r H
 have hr1:=Rows.one hr
 have hk5:decide (0<=s.k/\s.k<=5)=true:=decide_eq_true hkp
 have hrlen:=Strs.len hr
 simp [-RgP_both,c_impl_Sieve_heads,svAV,hr1,<- hH1,b0,hls]
 refine cg_use (BitsOk_ok s.m _ H1 hsv.bm (by rw [List.length_map]; omega)) ?_
 simp [-RgP_both,b0]
 refine cg_use (BitsOk_ok s.f _ H1 hsv.bf (by rw [List.length_map]; omega)) ?_
 simp [-RgP_both,b0,hms,hfs]
 refine cg_use (isKeep_ok s.k H1) ?_
 rw [hk5]
 simp [-RgP_both,b0,hrlen,Strs.slc hr]
 refine cg_use (Count_ok s.m 48 H1) ?_
 rw [<- hrl]
 simp [-RgP_both,b0]
 have cP1:=cP H1 hle1
 simp only [svAV] at cP1
 refine cg_ex cP1 ?_
 rintro u H2 ⟨w,rfl,hle2,hkp2,hw⟩
 have b2:=hkp2.2 _ _ b0 (by simp)
 simp [-RgP_both,b2]
 have hwp:Parts s.k H2 w (leafs 7 ks 0):=hw.rows
 have hzl:(leafs 7 ks 0).length<1000000:=by
  have:(headsR ks s.k).length=(leafs 7 ks 0).length:=by unfold headsR; rw [List.length_map]
  omega
 have hhs:∀ k∈headsR ks s.k,k.size<4611686018427387904:=fun k hk=>by
  have:=keyOk_size ((SP.of_keys hhk).ok k hk)
  omega
 refine RgP_then (tC_mono AC_mono) (HdJ s w H H2) ?_ ?_
 ·obtain⟨G,hG⟩:∃ G:Hp,G=H2++[some ⟨[[.str ⟨#[]⟩,.str ⟨#[]⟩,.str ⟨#[]⟩,.nils,.int .i64 0]],5,76,false⟩]:=⟨_,rfl⟩
  have hleG:HLe H2 G:=by rw [hG]; exact HLe.self _ _
  have bG:=hleG.2 _ _ b2
  have cG:G.at H2.length=some ⟨[[.str ⟨#[]⟩,.str ⟨#[]⟩,.str ⟨#[]⟩,.nils,.int .i64 0]],5,76,false⟩:=by rw [hG]; simp
  rw [RgP_both]
  refine⟨?_,?_⟩
  ·simp [-RgP_both]
   refine cg_ex (texts_ok s.k w _ H2 hwp hzl) ?_
   rintro v3 H3 ⟨hle3,hv3⟩
   have b3:=hle3.2 _ _ b2
   simp [-RgP_both,b3]
   rw [RgP_both]
   refine⟨?_,?_⟩
   ·simp
    refine cg_ex (implSieveOf_ok v3 (headsR ks s.k) s.k H3 hv3.rows hhs (by omega)) ?_
    rintro v4 H4 ⟨hle4,hret⟩
    rw [hsvo] at hret
    obtain⟨r2,rfl,hr2,hr2l⟩:=hret
    have b4:=hle4.2 _ _ b3
    have b4':=(HLe.self H4 [some ⟨[[.str ⟨#[]⟩,.str ⟨#[]⟩,.str ⟨#[]⟩,.nils,.int .i64 0]],5,76,false⟩]).2 _ _ b4
    simp [svAV,b4,b4',Rows.one hr2.rows]
    exact⟨by simp,by simp,by simp,H4.length,r2,by simp,by simp,(hr2.le (HLe.self _ _)).rows,(hle3.trans hle4).app _,hr2l⟩
   ·obtain⟨G3,hG3⟩:∃ G:Hp,G=H3++[some ⟨[[.str ⟨#[]⟩,.str ⟨#[]⟩,.str ⟨#[]⟩,.nils,.int .i64 0]],5,76,false⟩]:=⟨_,rfl⟩
    have hleG3:HLe H3 G3:=by rw [hG3]; exact HLe.self _ _
    have bG3:=hleG3.2 _ _ b3
    have cG3:G3.at H3.length=some ⟨[[.str ⟨#[]⟩,.str ⟨#[]⟩,.str ⟨#[]⟩,.nils,.int .i64 0]],5,76,false⟩:=by rw [hG3]; simp
    simp [<- hG3,bG3]
    refine cg_ex (implSieveOf_ok v3 (headsR ks s.k) s.k G3 (hv3.le hleG3).rows hhs (by omega)) ?_
    rintro v4 H4 ⟨hle4,hret⟩
    rw [hsvo] at hret
    obtain⟨r2,rfl,hr2,hr2l⟩:=hret
    have b4:=hle4.2 _ _ bG3
    have c4:=hle4.2 _ _ cG3
    have u4:=Hp.at_lt c4
    have hl3:=hle3.1
    simp [svAV,b4,c4,u4,Rows.one hr2.rows,Hp.at_set]
    have hr5:=hr2.frE (Fr.one H4 H3.length (some ⟨[[.str s.l,.str s.m,.str s.f,r2,.int .i64 s.k]],5,76,false⟩)) (fun y ob hy ho=>by rw [hy,c4] at ho; cases ho; simp)
    exact⟨by simp,by simp,by simp,H3.length,r2,by simp,Hp.at_set _ u4,hr5.rows,((hle3.trans hleG3).trans hle4).set hl3 _,hr2l⟩
  ·simp [-RgP_both,<- hG,bG]
   refine cg_ex (texts_ok s.k w _ G (hwp.le hleG) hzl) ?_
   rintro v3 H3 ⟨hle3,hv3⟩
   have b3:=hle3.2 _ _ bG
   have c3:=hle3.2 _ _ cG
   simp [b3]
   refine cg_ex (implSieveOf_ok v3 (headsR ks s.k) s.k H3 hv3.rows hhs (by omega)) ?_
   rintro v4 H4 ⟨hle4,hret⟩
   rw [hsvo] at hret
   obtain⟨r2,rfl,hr2,hr2l⟩:=hret
   have b4:=hle4.2 _ _ b3
   have c4:=hle4.2 _ _ c3
   have u4:=Hp.at_lt c4
   simp [svAV,b4,c4,u4,Rows.one hr2.rows,Hp.at_set]
   have hr5:=hr2.frE (Fr.one H4 H2.length (some ⟨[[.str s.l,.str s.m,.str s.f,r2,.int .i64 s.k]],5,76,false⟩)) (fun y ob hy ho=>by rw [hy,c4] at ho; cases ho; simp)
   exact⟨by simp,by simp,by simp,H2.length,r2,by simp,Hp.at_set _ u4,hr5.rows,((hleG.trans hle3).trans hle4).set (Nat.le_refl _) _,hr2l⟩
 ·rintro t K ⟨t1,t5,t6,L7,r2,t7,hat,hr2,hleK,hr2l⟩
  have bK:=hleK.2 _ _ b2
  show W _ _ _ _ _
  have cS:=same_ok (E:=E) r2 r s s K hr2 (hr.le (hle2.trans hleK)) (by omega)
  simp only [svAV] at cS
  simp [t1,t5,t6,t7,hat,bK]
  refine cg_use cS ?_
  simp [t5]
  exact⟨hle2.trans hleK,hwp.le hleK⟩
end Go.Proofs.YtepeokaplbbpoaaGreat.B

namespace Go.Proofs.YtepeokaplbbpoaaGreat.B
open Go.RowKit Go.Proofs
set_option linter.unusedVariables false
set_option linter.unusedSimpArgs false
variable {E:Env}
def mayK (keep:Int) (fr:ByteArray) (z:ByteArray × Nat):Bool:=!sless (cutK keep z) fr||(!wholeK z.1 z.2 keep&&begins fr (cutK keep z))
def seekP (keep:Int) (fr:ByteArray) (zs:List (ByteArray × Nat)):Option ByteArray:=(zs.find? (mayK keep fr)).map (cutK keep)
def meetsR (ks:List ByteArray) (keep:Int) (fr to:ByteArray):Bool:=keyOk fr&&keyOk to&&!sless to fr&&(match seekP keep fr (leafs 7 ks 0) with
 | some h=>!sless to h
 | none=>false)
theorem find_drop {α:Type} {p:α->Bool} {l:List α} {i:Nat} (hi:i<l.length):(l.drop i).find? p=if p l[i]=true then some l[i] else (l.drop (i+1)).find? p:=by
 rw [List.drop_eq_getElem_cons hi,List.find?_cons]
 cases p l[i]<;>rfl
theorem SieveSeek_ok (ks:List ByteArray) (keep:Int) (r:AV) (fr:ByteArray) (H:Hp) (hk:keysOk ks=true) (hkp:0<=keep/\keep<=5) (hr:Strs H r (sieveR ks keep).r) (hf:keyOk fr=true) :
  AC Tryz.prog E 105 [svAV (sieveR ks keep) r,.str fr] H (fun u H'=>u=.tu [.str ((seekP keep fr (leafs 7 ks 0)).getD ⟨#[]⟩),.bool (seekP keep fr (leafs 7 ks 0)).isSome]/\H'=H):=by
 refine AC_byp (tC_le tabJ_ok) h_impl_SieveSeek (by simp) ?_
 obtain⟨H1,hH1,hle1,b0⟩:=svBox (sieveR ks keep) r H
 have hr1:=Rows.one hr
 have hfs:=keyOk_size hf
 have hkey:∀ {C:CallP} {d:Option Nat} {ag} {p:Plan} {t:Tm} {H:Hp} {K:Tm->Hp->Prop},_:=@fun C d ag p t H K=>tabJ_key C d ag p t H K fr (by omega)
 simp [c_impl_SieveSeek,svAV,hr1,<- hH1,b0]
 have cH:=heads_ok (E:=E) ks keep r H1 hk hkp (hr.le hle1)
 simp only [svAV] at cH
 refine cg_ex cH ?_
 rintro u H2 ⟨w,rfl,hle2,hw⟩
 have hlen:lenV w=.int .i64 (leafs 7 ks 0).length:=by simpa using Rows.len hw
 have hsl:slC w:=Rows.slc hw
 obtain⟨zs,hzs⟩:∃ zs,zs=leafs 7 ks 0:=⟨_,rfl⟩
 have hzk:∀ z∈zs,keyOk z.1=true:=fun z hz=>by
  have hs:=SP.of_keys hk
  have hfst:=leafs_fst 7 hs (keysOk_good hk).1 (by omega)
  exact hs.ok z.1 (by rw [<- hfst,<- hzs]; exact List.mem_map_of_mem hz)
 have hzl:zs.length<1000000:=by
  have hs:=SP.of_keys hk
  have:=leafs_len (n:=7) hs (keysOk_good hk).1 (by omega)
  have:=(keysOk_good hk).2
  rw [hzs]
  omega
 rw [<- hzs] at hw hlen ⊢
 simp [hkey,hf,hlen,hsl]
 refine W_for (fun m t H'=>∃ i:Nat,i+m=zs.length/\t 1=.str fr/\t 22=w/\t 23=.int .i64 zs.length/\t 24=.int .i64 i/\(zs.drop i).find? (mayK keep fr)=zs.find? (mayK keep fr)/\HLe H2 H') zs.length ?_ (tC_mono AC_mono) ?_
 ·exact⟨0,by simp,by simp,by simp,by simp,by simp,by simp,HLe.refl _⟩
 rintro m t H' ⟨i,him,t1,t22,t23,t24,hP,hle⟩
 have hleH:=(hle1.trans hle2).trans hle
 simp [t1,t22,t23,t24]
 refine c_split (fun hq=>?_) (fun hq=>?_)<;>simp at hq
 ·have hi:i<zs.length:=by omega
  have hw2:=wrapN (i:=i) (by omega)
  obtain⟨o1,i1,ob1,rfl,x1,x2,x3⟩:=Parts.get hw hi
  have x1':=hle.2 _ _ x1
  have hkz:=hzk _ (List.getElem_mem hi)
  rw [find_drop hi] at hP
  obtain⟨z,hz⟩:∃ z,z=zs[i]:=⟨_,rfl⟩
  rw [<- hz] at x3 hP hkz
  have hcs:(cutK keep z).size<=5:=keyOk_size (keyOk_cut hkz)
  have x1G:(H'++[some ⟨[[.str ⟨#[]⟩,.bool false]],2,147,false⟩]:Hp).at o1=some ob1:=(HLe.self _ _).2 _ _ x1'
  obtain⟨G,hG⟩:∃ G:Hp,G=H'++[some ⟨[[.str (cutK keep z),.bool (wholeK z.1 z.2 keep)]],2,147,false⟩]:=⟨_,rfl⟩
  have hleG:HLe H' G:=by rw [hG]; exact HLe.self _ _
  have bG:G.at H'.length=some ⟨[[.str (cutK keep z),.bool (wholeK z.1 z.2 keep)]],2,147,false⟩:=by rw [hG]; simp
  simp [t1,t22,t23,t24,x1',x1G,x2,x3,hi]
  simp only [<- hG]
  have fin:mayK keep fr z=true->seekP keep fr zs=some (cutK keep z):=fun hm=>by
   rw [hm,if_pos rfl] at hP
   unfold seekP
   rw [<- hP]
   rfl
  have go:mayK keep fr z=false->(zs.drop (i+1)).find? (mayK keep fr)=zs.find? (mayK keep fr):=fun hm=>by
   rw [hm] at hP
   simpa using hP
  cases hsl2:sless (cutK keep z) fr with
  | false =>
   have hm:mayK keep fr z=true:=by simp [mayK,hsl2]
   rw [fin hm]
   simp [bG]
   exact hleH.trans hleG
  | true =>
   cases hwh:wholeK z.1 z.2 keep with
   | true =>
    have hm:mayK keep fr z=false:=by simp [mayK,hsl2,hwh]
    rw [hwh] at bG
    simp [t1,t22,t23,t24,bG,hw2]
    exact⟨m-1,by omega,i+1,by omega,by omega,go hm,hle.trans hleG⟩
   | false =>
    rw [hwh] at bG
    simp [t1,t22,t23,t24,bG]
    refine cg_use (KeyBegins_ok fr (cutK keep z) G (by omega) (by omega)) ?_
    cases hbg:begins fr (cutK keep z) with
    | true =>
     have hm:mayK keep fr z=true:=by simp [mayK,hbg,hwh]
     rw [fin hm]
     simp [bG]
     exact hleH.trans hleG
    | false =>
     have hm:mayK keep fr z=false:=by simp [mayK,hsl2,hbg]
     simp [t1,t22,t23,t24,bG,hw2]
     exact⟨m-1,by omega,i+1,by omega,by omega,go hm,hle.trans hleG⟩
 ·have:i=zs.length:=by omega
  subst this
  rw [List.drop_length] at hP
  unfold seekP
  rw [<- hP]
  simp [hleH]
theorem SieveMeets_ok (ks:List ByteArray) (keep:Int) (r:AV) (fr to:ByteArray) (H:Hp) (hk:keysOk ks=true) (hkp:0<=keep/\keep<=5) (hr:Strs H r (sieveR ks keep).r) (hfs:fr.size<4611686018427387904) (hts:to.size<4611686018427387904) :
  AC Tryz.prog E 56 [svAV (sieveR ks keep) r,.str fr,.str to] H (fun u H'=>u=.bool (meetsR ks keep fr to)/\H'=H):=by
 refine AC_byp (tC_le tabJ_ok) h_impl_SieveMeets (by simp) ?_
 obtain⟨H1,hH1,hle1,b0⟩:=svBox (sieveR ks keep) r H
 have hr1:=Rows.one hr
 have hkeyF:∀ {C:CallP} {d:Option Nat} {ag} {p:Plan} {t:Tm} {H:Hp} {K:Tm->Hp->Prop},_:=@fun C d ag p t H K=>tabJ_key C d ag p t H K fr hfs
 have hkeyT:∀ {C:CallP} {d:Option Nat} {ag} {p:Plan} {t:Tm} {H:Hp} {K:Tm->Hp->Prop},_:=@fun C d ag p t H K=>tabJ_key C d ag p t H K to hts
 simp [c_impl_SieveMeets,svAV,hr1,<- hH1,hkeyF]
 unfold meetsR
 cases hf:keyOk fr with
 | false=>simp [hle1]
 | true =>
  simp [hkeyT]
  cases ht:keyOk to with
  | false=>simp [hle1]
  | true =>
   simp
   cases hl:sless to fr with
   | true=>simp [hle1]
   | false =>
    simp [b0]
    have cS:=SieveSeek_ok (E:=E) ks keep r fr H1 hk hkp (hr.le hle1) hf
    simp only [svAV] at cS
    refine cg_use cS ?_
    cases hsk:seekP keep fr (leafs 7 ks 0) with
    | none=>simp [hle1]
    | some h=>simp [hle1]
end Go.Proofs.YtepeokaplbbpoaaGreat.B

namespace Go.Proofs.YtepeokaplbbpoaaGreat.B
open Go.RowKit Go.Proofs
set_option linter.unusedVariables false
set_option linter.unusedSimpArgs false
theorem less_begins:∀ (t f s:List UInt8),Op.bytesLess t f=true->Op.bytesLess (t++s) f=false->∃ g,f=t++g
 | [],f,s,_,_=>⟨f,rfl⟩
 | a :: t,[],s,h,_=>by simp [Op.bytesLess] at h
 | a :: t,b :: f,s,h,k=>by
  rw [List.cons_append] at k
  simp only [Op.bytesLess,Bool.or_eq_true,Bool.and_eq_true,Bool.or_eq_false_iff,Bool.and_eq_false_iff,decide_eq_true_eq,decide_eq_false_iff_not,beq_iff_eq] at h k
  rcases h with h | ⟨rfl,h⟩
  ·exact absurd h k.1
  ·rcases k.2 with k2 | k2
   ·simp at k2
   ·obtain⟨g,rfl⟩:=less_begins t f s h k2
    exact⟨g,rfl⟩
theorem begins_of {t f x:ByteArray} {n:Nat} (ht:t=x.extract 0 n) (h1:sless t f=true) (h2:sless x f=false):begins f t=true:=by
 unfold sless at h1 h2
 rw [toList_ba,toList_ba] at h1 h2
 have hx:x.data.toList=t.data.toList++x.data.toList.drop n:=by
  rw [ht,ba_toList]
  simp
 rw [hx] at h2
 obtain⟨g,hg⟩:=less_begins _ _ _ h1 h2
 have hfl:=ba_len f
 have htl:=ba_len t
 have hl:=congrArg List.length hg
 rw [List.length_append] at hl
 unfold begins
 rw [decide_eq_true_eq]
 refine⟨by omega,?_⟩
 apply ba_ext
 rw [ba_toList,hg]
 simp only [List.drop_zero,Nat.sub_zero]
 rw [<- htl,List.take_left]
theorem whole_cut {keep:Int} {z:ByteArray × Nat} (hk:keyOk z.1=true) (h0:0<=keep) (hw:wholeK z.1 z.2 keep=true):cutK keep z=z.1:=by
 have hsz:z.1.size<=z.2+1+keep.toNat:=by
  simp only [wholeK,Bool.or_eq_true,decide_eq_true_eq] at hw
  rcases hw with h | h
  ·have:=(letter_ok hk z.2).1 h
   omega
  ·unfold restK at h
   rw [ByteArray.size_extract,ByteArray.size_extract] at h
   omega
 unfold cutK
 apply ba_ext
 rw [ba_toList]
 simp only [List.drop_zero,Nat.sub_zero]
 rw [List.take_of_length_le (by rw [ba_len]; exact hsz)]
theorem cut_le {keep:Int} {z:ByteArray × Nat}:sless z.1 (cutK keep z)=false:=by
 cases h:sless z.1 (cutK keep z) with
 | false=>rfl
 | true =>
  unfold sless at h
  rw [toList_ba,toList_ba] at h
  have e:(cutK keep z).data.toList=z.1.data.toList.take (z.2+1+keep.toNat):=by
   unfold cutK
   rw [ba_toList]
   simp
  rw [e] at h
  have h2:=bLess_app (z.1.data.toList.take (z.2+1+keep.toNat)) (z.1.data.toList.drop (z.2+1+keep.toNat)) []
  rw [List.take_append_drop,List.append_nil] at h2
  rw [h2] at h
  cases hd:z.1.data.toList.drop (z.2+1+keep.toNat) with
  | nil=>rw [hd] at h; simp [Op.bytesLess] at h
  | cons a l=>rw [hd] at h; simp [Op.bytesLess] at h
theorem not_less_trans {a b c:ByteArray} (h1:sless b a=false) (h2:sless c b=false):sless c a=false:=by
 cases h:sless c a with
 | false=>rfl
 | true =>
  rcases sless_total a b with h3 | h3 | h3
  ·have:=sless_trans h h3
   rw [h2] at this
   cases this
  ·rw [<- h3,h] at h2
   cases h2
  ·rw [h1] at h3
   cases h3
theorem meets_sound {ks:List ByteArray} {keep:Int} {fr to x:ByteArray} (hk:keysOk ks=true) (h0:0<=keep) (hf:keyOk fr=true) (ht:keyOk to=true) (hx:x∈ks) (h1:sless x fr=false) (h2:sless to x=false):meetsR ks keep fr to=true:=by
 have hs:=SP.of_keys hk
 have hfst:=leafs_fst 7 hs (keysOk_good hk).1 (by omega)
 rw [<- hfst] at hx
 obtain⟨z,hz,rfl⟩:=List.mem_map.1 hx
 have hkz:keyOk z.1=true:=hs.ok z.1 (by rw [<- hfst]; exact hx)
 have hmay:mayK keep fr z=true:=by
  unfold mayK
  cases hl:sless (cutK keep z) fr with
  | false=>rfl
  | true =>
   cases hw:wholeK z.1 z.2 keep with
   | true =>
    rw [whole_cut hkz h0 hw,h1] at hl
    cases hl
   | false =>
    have:=begins_of (t:=cutK keep z) (n:=z.2+1+keep.toNat) rfl hl h1
    simp [this]
 have htf:sless to fr=false:=not_less_trans h1 h2
 unfold meetsR
 rw [hf,ht,htf]
 cases hfd:(leafs 7 ks 0).find? (mayK keep fr) with
 | none =>
  have:=List.find?_eq_none.1 hfd z hz
  exact absurd hmay this
 | some y =>
  have hsk:seekP keep fr (leafs 7 ks 0)=some (cutK keep y):=by unfold seekP; rw [hfd]; rfl
  rw [hsk]
  obtain⟨hy,cs,bs,hab,hno⟩:=List.find?_eq_some_iff_append.1 hfd
  have hle:sless (cutK keep z) (cutK keep y)=false:=by
   have hzz:z=y\/z∈bs:=by
    rw [hab] at hz
    rcases List.mem_append.1 hz with h | h
    ·have:=hno z h
     rw [hmay] at this
     cases this
    ·exact List.mem_cons.1 h
   rcases hzz with rfl | hzb
   ·exact sless_irrefl _
   ·have hpw:=heads_pw (keep:=keep) hk
    unfold headsR at hpw
    rw [hab,List.map_append,List.map_cons] at hpw
    have h3:=(List.pairwise_cons.1 (List.pairwise_append.1 hpw).2.1).1 (cutK keep z) (List.mem_map_of_mem hzb)
    exact sless_asymm h3
  have h4:sless to (cutK keep y)=false:=not_less_trans (not_less_trans hle cut_le) h2
  simp [h4]
end Go.Proofs.YtepeokaplbbpoaaGreat.B

namespace Go.Proofs.YtepeokaplbbpoaaGreat.B
open Go.RowKit Go.Proofs
set_option linter.unusedVariables false
set_option linter.unusedSimpArgs false
variable {E:Env}
def strL (s:ByteArray):List UInt8:=s.data.toList
theorem strL_mk (s:ByteArray):(⟨(strL s).toArray⟩:ByteArray)=s:=by
 obtain⟨⟨l⟩⟩:=s
 rfl
theorem encStr_eq (s:ByteArray):encStr (strL s)=Value.string s:=by
 show Value.string ⟨(strL s).toArray⟩=_
 rw [strL_mk]
theorem HR.puts {φ:Phi} {H:Hp} {w:World} (h:HR E φ H w) {o:Nat} {p:Pl} (hp:φ o=some p) {rest:List (List AV)} {ety:Nat} (ys:List ByteArray) :
  ∀ (k:Nat) (xs:List ByteArray),H[o]?=some (some ⟨xs.map strRow++rest,1,ety,false⟩)->xs.length=ys.length->k<=ys.length->Sort.Holds encStr w p.b 0 (xs.map strL).toArray ->
   Below E.B0 w (Sort.putRow encStr w p.b 0 ((ys.take k++xs.drop k).map strL).toArray)/\HR E φ (H.set o (some ⟨(ys.take k++xs.drop k).map strRow++rest,1,ety,false⟩)) (Sort.putRow encStr w p.b 0 ((ys.take k++xs.drop k).map strL).toArray)
 | 0,xs,ho,hl,hk,hH=>by
  have e:Sort.putRow encStr w p.b 0 ((ys.take 0++xs.drop 0).map strL).toArray=w:=by
   simp only [List.take_zero,List.drop_zero,List.nil_append]
   exact Sort.putRow_self _ _ _ _ _ hH
  rw [e]
  refine⟨Below.refl _ _,?_⟩
  simp only [List.take_zero,List.drop_zero,List.nil_append]
  have e2:H.set o (some ⟨xs.map strRow++rest,1,ety,false⟩)=H:=Hp.set_self (by rw [Hp.at,ho]; rfl)
  rw [e2]
  exact h
 | k+1,xs,ho,hl,hk,hH=>by
  obtain⟨hb,ih⟩:=HR.puts h hp ys k xs ho hl (by omega) hH
  have hol:o<H.length:=(List.getElem?_eq_some_iff.1 ho).1
  have hky:k<ys.length:=by omega
  have hkx:k<xs.length:=by omega
  have e1:ys.take k++xs.drop k=ys.take k++xs[k] :: xs.drop (k+1):=by rw [List.drop_eq_getElem_cons hkx]
  have e2:ys.take (k+1)++xs.drop (k+1)=ys.take k++ys[k] :: xs.drop (k+1):=by
   rw [List.take_succ_eq_append_getElem hky,List.append_assoc]
   rfl
  have lt:(ys.take k).length=k:=by rw [List.length_take]; omega
  rw [e1] at hb ih
  rw [e2]
  have hro:=(ih.obj o _ (List.getElem?_set_self hol) p hp)
  have hpe:p.esz=1:=hro.esz
  obtain⟨_,_,cells,ee,fr,_,hrw,_⟩:=hro
  have hbase:p.base=0:=(hrw rfl).2.2.2.1
  obtain⟨_,_,hbel,hH2⟩:=ih.set1 (List.getElem?_set_self hol) rfl hp (i:=k) (row:=strRow xs[k]) (by
   simp only [List.map_append,List.map_cons,List.append_assoc]
   rw [List.getElem?_append_right (by rw [List.length_map]; omega),List.length_map,lt,Nat.sub_self]
   rfl) (f:=0) (by simp [strRow]) (a:=.str ys[k]) (v:=.string ys[k]) rfl rfl
  have eset:Sort.putRow encStr w p.b 0 ((ys.take k++ys[k] :: xs.drop (k+1)).map strL).toArray=(Sort.putRow encStr w p.b 0 ((ys.take k++xs[k] :: xs.drop (k+1)).map strL).toArray).setCell ⟨p.b,p.base+k * p.esz+0,none⟩ (.string ys[k]):=by
   rw [hbase,hpe,<- encStr_eq,show 0+k * 1+0=0+k by omega,Sort.putRow_set _ _ _ _ _ _ _ (by simp; omega)]
   congr 1
   simp only [List.map_append,List.map_cons]
   rw [List.setIfInBounds_toArray,List.set_append_right _ _ (by rw [List.length_map]; omega),List.length_map,lt,Nat.sub_self,List.set_cons_zero]
  rw [eset]
  refine⟨hb.trans hbel,?_⟩
  have er:(List.map strRow (ys.take k++xs[k] :: xs.drop (k+1))++rest).set k ((strRow xs[k]).set 0 (.str ys[k]))=List.map strRow (ys.take k++ys[k] :: xs.drop (k+1))++rest:=by
   simp only [List.map_append,List.map_cons,List.append_assoc,List.cons_append]
   rw [List.set_append_right _ _ (by rw [List.length_map]; omega),List.length_map,lt,Nat.sub_self,List.set_cons_zero]
   rfl
  simp only [er,List.set_set] at hH2
  exact hH2
theorem below_grown (w:World) (os:Array Obj):Below w.heap.size w (Sort.grow w os):=by
 refine⟨rfl,rfl,rfl,?_,fun i hi=>?_⟩
 ·show w.heap.size<=(w.heap++os).size
  rw [Array.size_append]
  omega
 ·show (w.heap++os)[i]?=w.heap[i]?
  rw [Array.getElem?_append_left hi]
theorem HR.ahead {φ:Phi} {H:Hp} {w:World} (h:HR E φ H w) (n:Nat):HR E φ H (Sort.ahead w n)/\Below E.B0 w (Sort.ahead w n) :=
 ⟨h.keep ⟨rfl,rfl,rfl,Nat.le_refl _,fun _ _=>rfl⟩ (fun _ _ _ _ _=>rfl),⟨rfl,rfl,rfl,Nat.le_refl _,fun _ _=>rfl⟩⟩
theorem HR.grew {φ:Phi} {H:Hp} {w w':World} (h:HR E φ H w) (hb:Below w.heap.size w w'):HR E φ H w'/\Below E.B0 w w':=by
 have hb':=hb.mono h.base
 exact⟨h.keep hb' (fun o ob p ho hp=>hb.block p.b (h.blk o p hp)),hb'⟩
theorem bLess_lt:∀ x y:List UInt8,Op.bytesLess x y=true↔x<y
 | [],[]=>by simp [Op.bytesLess]
 | [],b :: y=>by simp [Op.bytesLess]
 | a :: x,[]=>by simp [Op.bytesLess]
 | a :: x,b :: y=>by
  rw [List.cons_lt_cons_iff,<- bLess_lt x y]
  simp [Op.bytesLess]
def SortOf (xs ys:List ByteArray):Prop:=ys.Perm xs/\ys.Pairwise (fun a b=>sless b a=false)
theorem sort_of (xs:List ByteArray):∃ ys:List ByteArray,(xs.map strL).mergeSort (fun x y=>decide (x<=y))=ys.map strL/\SortOf xs ys:=by
 refine⟨((xs.map strL).mergeSort (fun x y=>decide (x<=y))).map (fun l=>⟨l.toArray⟩),?_,?_,?_⟩
 ·rw [List.map_map]
  conv=>lhs; rw [<- List.map_id ((xs.map strL).mergeSort _)]
  rfl
 ·have h:=(List.mergeSort_perm (xs.map strL) (fun x y=>decide (x<=y))).map (fun l=>(⟨l.toArray⟩:ByteArray))
  refine h.trans ?_
  rw [List.map_map]
  have:(xs.map ((fun l=>(⟨l.toArray⟩:ByteArray)) ∘ strL))=xs:=by
   conv=>rhs; rw [<- List.map_id xs]
   exact List.map_congr_left (fun s _=>strL_mk s)
  rw [this]
 ·rw [List.pairwise_map]
  have h:=List.pairwise_mergeSort (le:=fun x y:List UInt8=>decide (x<=y)) (fun a b c h1 h2=>by simp only [decide_eq_true_eq] at *; exact List.le_trans h1 h2) (fun a b=>by simp only [Bool.or_eq_true,decide_eq_true_eq]; exact List.le_total a b) (xs.map strL)
  refine h.imp (fun {a b} hab=>?_)
  have hab:a<=b:=of_decide_eq_true hab
  cases hl:sless (⟨b.toArray⟩:ByteArray) ⟨a.toArray⟩ with
  | false=>rfl
  | true =>
   unfold sless at hl
   rw [toList_ba,toList_ba] at hl
   have:b<a:=(bLess_lt _ _).1 hl
   exact absurd this hab
end Go.Proofs.YtepeokaplbbpoaaGreat.B

namespace Go.Proofs
open Go.Shelf
def Tryz.laysSort_ren:Go.Shelf.Ren:=⟨fun | 6=>106 | 8=>148 | 9=>147 | 19=>184 | 20=>185 | 21=>175 | 22=>176 | 23=>177 | 24=>178 | 25=>179 | 26=>180 | 27=>181 | 28=>182 | 29=>183 | 36=>200 | 31=>201 | 32=>202 | 37=>203 | 38=>204 | 39=>205 | 41=>210 | n=>n,fun | 27=>74 | 29=>9 | 3=>3 | 32=>151 | 26=>74 | 0=>0 | 44=>191 | 46=>193 | 4=>4 | 36=>185 | 35=>184 | 41=>49 | 5=>5 | 9=>9 | 53=>202 | 57=>206 | 63=>212 | 64=>152 | n=>n,fun | n=>n⟩
theorem Tryz.laysSort:Go.Proofs.SlLaysM.n6 Tryz.prog Tryz.laysSort_ren:={
 mixed:=by kernel_rfl
 f6:=⟨Tryz.f106.name,by decide,Tryz.func106.trans (congrArg some (by kernel_rfl))⟩
 f8:=Tryz.func148.trans (congrArg some (by kernel_rfl))
 f9:=⟨Tryz.f147.name,by decide,Tryz.func147.trans (congrArg some (by kernel_rfl))⟩
 f19:=Tryz.func184.trans (congrArg some (by kernel_rfl))
 f20:=Tryz.func185.trans (congrArg some (by kernel_rfl))
 f21:=⟨Tryz.f175.name,by decide,Tryz.func175.trans (congrArg some (by kernel_rfl))⟩
 f22:=⟨Tryz.f176.name,by decide,Tryz.func176.trans (congrArg some (by kernel_rfl))⟩
 f23:=⟨Tryz.f177.name,by decide,Tryz.func177.trans (congrArg some (by kernel_rfl))⟩
 f24:=⟨Tryz.f178.name,by decide,Tryz.func178.trans (congrArg some (by kernel_rfl))⟩
 f25:=⟨Tryz.f179.name,by decide,Tryz.func179.trans (congrArg some (by kernel_rfl))⟩
 f26:=⟨Tryz.f180.name,by decide,Tryz.func180.trans (congrArg some (by kernel_rfl))⟩
 f27:=⟨Tryz.f181.name,by decide,Tryz.func181.trans (congrArg some (by kernel_rfl))⟩
 f28:=⟨Tryz.f182.name,by decide,Tryz.func182.trans (congrArg some (by kernel_rfl))⟩
 f29:=⟨Tryz.f183.name,by decide,Tryz.func183.trans (congrArg some (by kernel_rfl))⟩
 f31:=Tryz.func201.trans (congrArg some (by kernel_rfl))
 f32:=Tryz.func202.trans (congrArg some (by kernel_rfl))
 f36:=⟨Tryz.f200.name,by decide,Tryz.func200.trans (congrArg some (by kernel_rfl))⟩
 f37:=⟨Tryz.f203.name,by decide,Tryz.func203.trans (congrArg some (by kernel_rfl))⟩
 f38:=⟨Tryz.f204.name,by decide,Tryz.func204.trans (congrArg some (by kernel_rfl))⟩
 f39:=⟨Tryz.f205.name,by decide,Tryz.func205.trans (congrArg some (by kernel_rfl))⟩
 f41:=⟨Tryz.f210.name,by decide,Tryz.func210.trans (congrArg some (by kernel_rfl))⟩
 t0:=Tryz.underlying0
 a0:=Tryz.isAgg0
 z0:=Tryz.sizeOf0
 v0:=Tryz.zeroValue0
 t3:=Tryz.underlying3
 a3:=Tryz.isAgg3
 z3:=Tryz.sizeOf3
 v3:=Tryz.zeroValue3
 t4:=Tryz.underlying4
 a4:=Tryz.isAgg4
 z4:=Tryz.sizeOf4
 v4:=Tryz.zeroValue4
 t5:=Tryz.underlying5
 a5:=Tryz.isAgg5
 z5:=Tryz.sizeOf5
 v5:=Tryz.zeroValue5
 t9:=Tryz.underlying9
 a9:=Tryz.isAgg9
 z9:=Tryz.sizeOf9
 v9:=Tryz.zeroValue9
 t26:=Tryz.underlying74
 a26:=Tryz.isAgg74
 z26:=Tryz.sizeOf74
 v26:=Tryz.zeroValue74
 t27:=Tryz.underlying74
 a27:=Tryz.isAgg74
 z27:=Tryz.sizeOf74
 v27:=Tryz.zeroValue74
 t29:=Tryz.underlying9
 a29:=Tryz.isAgg9
 z29:=Tryz.sizeOf9
 v29:=Tryz.zeroValue9
 t32:=Tryz.underlying151
 a32:=Tryz.isAgg151
 z32:=Tryz.sizeOf151
 v32:=Tryz.zeroValue151
 t35:=Tryz.underlying184
 a35:=Tryz.isAgg184
 z35:=Tryz.sizeOf184
 v35:=Tryz.zeroValue184
 t36:=Tryz.underlying185
 a36:=Tryz.isAgg185
 z36:=Tryz.sizeOf185
 v36:=Tryz.zeroValue185
 t41:=Tryz.underlying49
 a41:=Tryz.isAgg49
 z41:=Tryz.sizeOf49
 v41:=Tryz.zeroValue49
 t44:=Tryz.underlying191
 a44:=Tryz.isAgg191
 z44:=Tryz.sizeOf191
 v44:=Tryz.zeroValue191
 t46:=Tryz.underlying193
 a46:=Tryz.isAgg193
 z46:=Tryz.sizeOf193
 v46:=Tryz.zeroValue193
 t53:=Tryz.underlying202
 a53:=Tryz.isAgg202
 z53:=Tryz.sizeOf202
 v53:=Tryz.zeroValue202
 t57:=Tryz.underlying206
 a57:=Tryz.isAgg206
 z57:=Tryz.sizeOf206
 v57:=Tryz.zeroValue206
 t63:=Tryz.underlying212
 a63:=Tryz.isAgg212
 z63:=Tryz.sizeOf212
 v63:=Tryz.zeroValue212
 t64:=Tryz.underlying152
 a64:=Tryz.isAgg152
 z64:=Tryz.sizeOf152
 v64:=Tryz.zeroValue152 }
end Go.Proofs

namespace Go.Proofs.YtepeokaplbbpoaaGreat.B
open Go.RowKit Go.Proofs
set_option linter.unusedVariables false
set_option linter.unusedSimpArgs false
variable {E:Env}
theorem SortS_ok (v:AV) (xs:List ByteArray) (H:Hp) (h:Own 1 9 H v (xs.map strRow)) (hn:xs.length<4611686018427387904) :
  AC Tryz.prog E 106 [v] H (fun u H'=>u=.tu []/\∃ ys,SortOf xs ys/\Own 1 9 H' v (ys.map strRow)/\Fr v.of H H'):=by
 refine⟨⟨_,_,Tryz.func106,by kernel_rfl,rfl⟩,fun φ w vals hv hH=>?_⟩
 obtain⟨u,vs,rfl,h1,h2⟩:=hv
 have h2:vs=[]:=h2
 subst h2
 have none_case:∀ (a:Option Addr) (c:Nat),u=.slice a 0 c->xs=[]->Calls Tryz.prog 106 [u].toArray w (fun
  | .returned u,w'=>∃ φ' H' v',PLe φ φ'/\HR E φ' H' w'/\Below E.B0 w w'/\VR φ' v' u/\(v'=.tu []/\∃ ys,SortOf xs ys/\Own 1 9 H' v (ys.map strRow)/\Fr v.of H H')
  | _,_=>False):=by
  rintro a c rfl rfl
  refine Calls.mono (AnyM.slices_Sort_string_none Tryz.laysSort a c w) ?_
  rintro e w' ⟨rfl,rfl⟩
  exact⟨φ,H,.tu [],fun _ _ h=>h,hH,Below.refl _ _,⟨[],rfl,rfl⟩,rfl,[],⟨.refl _,.nil⟩,h,Fr.refl _ _⟩
 rcases h with ⟨rfl,hR⟩ | ⟨rfl,hR⟩ | ⟨o,ob,rfl,ho,hro,hes,het,hle,htk⟩
 ·have h1:u=.slice none 0 0:=h1
  exact none_case _ _ h1 (by simpa using hR)
 ·obtain⟨a,h1⟩:=h1
  exact none_case _ _ h1 (by simpa using hR)
 obtain⟨p,a,c,hp,h1,hnc,hc⟩:=h1
 rw [List.length_map] at h1 hnc hle htk
 by_cases hz:xs.length=0
 ·rw [hz] at h1
  exact none_case _ _ h1 (List.length_eq_zero_iff.1 hz)
 have hob:ob=⟨xs.map strRow++ob.rows.drop xs.length,1,9,false⟩:=by
  obtain⟨r,e1,e2,e3⟩:=ob
  subst hes het hro
  simp only at htk ⊢
  congr 1
  rw [<- htk,List.take_append_drop]
 have ho':=Hp.at_some ho
 rw [hob] at ho'
 obtain⟨q1,q2,cells,ee,fr,hblk,hrw,hrows⟩:=hH.obj _ _ ho' p hp
 obtain⟨rfl,rfl,hpsz,hbase,hB⟩:=hrw rfl
 have hpe:p.esz=1:=q2
 obtain⟨rfl,_⟩:a=⟨p.b,p.base+0 * p.esz,none⟩/\_:=by
  rcases hc with hc | hc
  ·omega
  ·exact hc
 rw [hbase] at h1
 simp only [Nat.zero_mul,Nat.add_zero] at h1
 subst h1
 have hHolds:Sort.Holds encStr w p.b 0 (xs.map strL).toArray:=by
  intro j hj
  simp only [List.size_toArray,List.length_map] at hj
  have hr:(xs.map strRow++ob.rows.drop xs.length)[j]?=some (strRow xs[j]):=by
   rw [List.getElem?_append_left (by simpa using hj),List.getElem?_map,List.getElem?_eq_getElem hj]
   rfl
  obtain⟨_,g⟩:=hrows j _ hr
  obtain⟨_,x,hx,hX⟩:=g 0 (.str xs[j]) rfl
  have hX:x=.string xs[j]:=hX
  subst hX
  rw [hbase] at hx
  simp only [Nat.zero_add,Nat.mul_one,Nat.add_zero] at hx
  refine⟨?_,by simp [World.frozen?,hblk]⟩
  rw [getElem!_pos (xs.map strL).toArray j (by simpa using hj)]
  simp only [List.getElem_toArray,List.getElem_map]
  rw [encStr_eq,Nat.zero_add]
  simp [World.cell?,hblk,hx]
 have hcall:=AnyM.slices_Sort_string Tryz.laysSort p.b 0 c (xs.map strL) w hHolds (hH.blk o p hp) (by simpa using hn)
 rw [List.length_map] at hcall
 refine Calls.mono hcall ?_
 rintro e w' ⟨rfl,n,os,rfl⟩
 obtain⟨ys,hys,hso⟩:=sort_of xs
 rw [hys]
 have hl:xs.length=ys.length:=hso.1.length_eq.symm
 obtain⟨hA,hbA⟩:=hH.ahead n
 obtain⟨hbP,hP⟩:=HR.puts hA hp ys ys.length xs ho' hl (Nat.le_refl _) (Sort.holds_ahead _ w n _ _ _ hHolds)
 rw [List.take_length,<- hl,List.drop_length,List.append_nil] at hbP hP
 obtain⟨hG,hbG⟩:=hP.grew (below_grown _ os)
 refine⟨φ,_,.tu [],fun _ _ h=>h,hG,(hbA.trans hbP).trans hbG,⟨[],rfl,rfl⟩,rfl,ys,hso,?_,?_⟩
 ·refine .inr (.inr ⟨o,⟨ys.map strRow++ob.rows.drop xs.length,1,9,false⟩,by simp [hl],Hp.at_set _ (Hp.at_lt ho),rfl,rfl,rfl,by simp,by simp⟩)
 ·exact (Fr.refl _ H).set (.inl rfl) _
end Go.Proofs.YtepeokaplbbpoaaGreat.B

/- A part of the proof: The way through a sieve, in plain Lean: what branches lead where. A contract of the library at this program. How Go merges in place, in plain Lean. How Go's merge in place cuts two sorted runs, in plain Lean. The program's small functions, and a table of calls that touch no memory. The program's runs: is one. Go's merge in place: parts are exchanged. Go's insertion sort of runs. Go's merge in place of two sorted parts. Go's merge in place of two sorted parts: the whole. Go's stable sort of runs. The program logic: what is guarded, and read again. The reference's StoreOk. The reference's stores: copies. Stores that are ok: the program's way and the reference's way, in plain Lean. The reference's stores: levels are set. The reference's stores: runs go down. The reference's stores: sizes. What the program makes of a store is what the reference makes of it, in plain Lean. The program's RunJoin. The program's RunJoin. The program's small functions for runs. The program's sieve: its bits, its branches. The program's sieve: where a branch leads, what is kept. The program's sieve: whether it lets a key. strings.Builder: its copies are looked for. strings.Builder: a string is written. There is no condition. -/
import Derived.Shelf.Strings.Count
import Derived.Shelf.Lays
import Derived.Ground.NamesProg
import Derived.Test.YtepeokaplbbpoaaGreatProg
import Derived.Shelf.Strings.Builder1
import Derived.Test.YtepeokaplbbpoaaGreatM0
import Derived.Test.YtepeokaplbbpoaaGreatM1
import Derived.Test.YtepeokaplbbpoaaGreatM2
namespace Go.Proofs.YtepeokaplbbpoaaGreat.B
open Go.RowKit Go.Proofs
set_option linter.unusedVariables false
set_option linter.unusedSimpArgs false
structure Br where
 g:List ByteArray
 d:Nat
 fst:Bool
def recs (d:Nat):Bool->List (List ByteArray)->List Br
 | _,[]=>[]
 | b,g :: gs=>⟨g,d,b⟩ :: recs d false gs
def recF (f:Fk):List Br:=recs f.2 true (brs f.2 f.1)
def kids (f:Fk):List Fk:=subs f.2 (brs f.2 f.1)
def allF:Nat->List Fk->List Fk
 | 0,_=>[]
 | _+1,[]=>[]
 | n+1,f :: q=>f :: allF n (q++kids f)
def Br.ltr (b:Br):UInt8:=letter (b.g.headD ⟨#[]⟩) b.d
def Br.rst (keep:Int) (b:Br):ByteArray:=restK (b.g.headD ⟨#[]⟩) (b.d+1) keep
def Br.many (b:Br):Bool:=B.many b.g
def Br.kid (b:Br):Fk:=(b.g,b.d+1)
def bitC (b:Bool):UInt8:=if b=true then 49 else 48
structure Enc (L:List Br) (keep:Int) (s:Sv):Prop where
 l:s.l.data.toList=L.map Br.ltr
 m:s.m.data.toList=L.map (fun b=>bitC b.many)
 f:s.f.data.toList=L.map (fun b=>bitC b.fst)
 r:s.r=(L.filter (fun b=>!b.many)).map (Br.rst keep)
 k:s.k=keep
theorem ba_app (x y:ByteArray):(x++y).data.toList=x.data.toList++y.data.toList:=by
 rw [ByteArray.data_append,Array.toList_append]
theorem Enc.add {L:List Br} {keep:Int} {s:Sv} (h:Enc L keep s) (d:Nat) (b:Bool) (g:List ByteArray):Enc (L++[⟨g,d,b⟩]) keep (addB d b s g):=by
 obtain⟨h1,h2,h3,h4,h5⟩:=h
 refine⟨?_,?_,?_,?_,h5⟩
 ·show (s.l++lit1 _).data.toList=_
  rw [ba_app,h1,List.map_append]
  rfl
 ·show (s.m++lit1 _).data.toList=_
  rw [ba_app,h2,List.map_append]
  rfl
 ·show (s.f++lit1 _).data.toList=_
  rw [ba_app,h3,List.map_append]
  rfl
 ·show (if many g=true then s.r else s.r++[restK (g.headD ⟨#[]⟩) (d+1) s.k])=_
  rw [List.filter_append,List.map_append,h4,h5]
  cases hm:many g with
  | true=>simp [Br.many,hm]
  | false=>simp [Br.many,hm,Br.rst]
theorem Enc.adds {keep:Int} (d:Nat):∀ (gs:List (List ByteArray)) (b:Bool) {L:List Br} {s:Sv},Enc L keep s->Enc (L++recs d b gs) keep (addBs d b s gs)
 | [],b,L,s,h=>by simpa [recs,addBs] using h
 | g :: gs,b,L,s,h=>by
  have:=Enc.adds d gs false (h.add d b g)
  simpa [recs,addBs,List.append_assoc] using this
theorem Enc.bfs {keep:Int}:∀ (n:Nat) (q:List Fk) {L:List Br} {s:Sv},Enc L keep s->Enc (L++(allF n q).flatMap recF) keep (bfs n q s)
 | 0,q,L,s,h=>by simpa [allF,B.bfs] using h
 | n+1,[],L,s,h=>by simpa [allF,B.bfs] using h
 | n+1,(ks,d) :: q,L,s,h=>by
  have:=Enc.bfs n (q++subs d (brs d ks)) (Enc.adds d (brs d ks) true h)
  simpa [allF,B.bfs,kids,recF,List.append_assoc] using this
theorem allF_kids:∀ (n:Nat) (q:List Fk),(∀ f∈q,Good f)->mu q<=n->allF n q=q++(allF n q).flatMap kids/\∀ f∈allF n q,Good f
 | 0,[],_,_=>by simp [allF]
 | 0,f :: q,_,hm=>by
  have:mu (f :: q)=1+2 * f.1.length * (7-f.2)+mu q:=by simp [mu]
  omega
 | n+1,[],_,_=>by simp [allF]
 | n+1,(ks,d) :: q,hg,hm=>by
  have hf:=hg (ks,d) (by simp)
  have hs:=mu_step (q:=q) hf
  obtain⟨h1,h2⟩:=allF_kids n (q++kids (ks,d)) (fun f h=>by
   rcases List.mem_append.1 h with h | h
   ·exact hg f (List.mem_cons_of_mem _ h)
   ·exact hf.subs f h) (by unfold kids; simp only; omega)
  refine⟨?_,fun f h=>?_⟩
  ·simp only [allF,List.flatMap_cons,List.cons_append,List.cons.injEq,true_and]
   rw [<- List.append_assoc]
   exact h1
  ·rcases List.mem_cons.1 h with rfl | h
   ·exact hf
   ·exact h2 f h
theorem recs_kids (d:Nat):∀ (gs:List (List ByteArray)) (b:Bool),((recs d b gs).filter Br.many).map Br.kid=subs d gs
 | [],b=>rfl
 | g :: gs,b=>by
  have ih:=recs_kids d gs false
  unfold subs at ih ⊢
  rw [recs,List.filter_cons,List.filter_cons]
  cases hm:many g with
  | true=>simp [Br.many,hm,ih,Br.kid]
  | false=>simp [Br.many,hm,ih]
theorem flat_kids:∀ (F:List Fk),F.flatMap kids=((F.flatMap recF).filter Br.many).map Br.kid
 | []=>rfl
 | f :: F=>by
  rw [List.flatMap_cons,List.flatMap_cons,List.filter_append,List.map_append,flat_kids F]
  congr 1
  exact (recs_kids f.2 (brs f.2 f.1) true).symm
theorem filter_at {α:Type} (p:α->Bool):∀ (L:List α) (i:Nat) (h:i<L.length),p L[i]=true->(L.filter p)[(L.take i).countP p]?=some L[i]
 | a :: L,0,_,hp=>by
  rw [List.getElem_cons_zero] at hp
  simp [List.filter_cons,hp]
 | a :: L,i+1,h,hp=>by
  have hp':p (L[i]'(by simpa using h))=true:=by simpa using hp
  have ih:=filter_at p L i (by simpa using h) hp'
  rw [List.filter_cons,List.take_succ_cons,List.countP_cons]
  split
  ·simpa using ih
  ·simpa using ih
theorem allF_mono:∀ (n:Nat) (q:List Fk) (m:Nat),q.Pairwise (fun a b=>a.2<=b.2)->(∀ f∈q,m<=f.2/\f.2<=m+1)->(allF n q).Pairwise (fun a b=>a.2<=b.2)/\∀ f∈allF n q,m<=f.2
 | 0,q,m,_,_=>⟨List.Pairwise.nil,fun f h=>(by cases h)⟩
 | n+1,[],m,_,_=>⟨List.Pairwise.nil,fun f h=>(by cases h)⟩
 | n+1,f :: q,m,h1,h2=>by
  obtain⟨h3,h4⟩:=List.pairwise_cons.1 h1
  have hf:=h2 f (by simp)
  have hk:∀ g∈kids f,g.2=f.2+1:=by
   intro g hg
   simp only [kids,subs,List.mem_map] at hg
   obtain⟨x,_,rfl⟩:=hg
   rfl
  have hq:∀ g∈q,f.2<=g.2/\g.2<=f.2+1:=fun g hg=>⟨h3 g hg,by have:=h2 g (List.mem_cons_of_mem _ hg); omega⟩
  have hkp:(kids f).Pairwise (fun a b=>a.2<=b.2):=by
   refine List.pairwise_iff_forall_sublist.2 (fun {a b} hab=>?_)
   have ha:=hk a (hab.subset (by simp))
   have hb:=hk b (hab.subset (by simp))
   omega
  obtain⟨h5,h6⟩:=allF_mono n (q++kids f) f.2 (List.pairwise_append.2 ⟨h4,hkp,fun a ha b hb=>by have:=hq a ha; have:=hk b hb; omega⟩) (fun g hg=>by
   rcases List.mem_append.1 hg with hg | hg
   ·exact hq g hg
   ·have:=hk g hg
    omega)
  refine⟨List.pairwise_cons.2 ⟨h6,h5⟩,fun g hg=>?_⟩
  rcases List.mem_cons.1 hg with rfl | hg
  ·exact hf.1
  ·have:=h6 g hg
   omega
structure Tr (ks:List ByteArray) (F:List Fk) (L:List Br):Prop where
 f:F=(ks,0) :: (L.filter Br.many).map Br.kid
 l:L=F.flatMap recF
 good:∀ f∈F,Good f
 sp:∀ f∈F,SP f.2 f.1
 z:ks=[]->L=[]
 mono:F.Pairwise (fun a b=>a.2<=b.2)
theorem allF_sp:∀ (n:Nat) (q:List Fk),(∀ f∈q,SP f.2 f.1)->∀ f∈allF n q,SP f.2 f.1
 | 0,q,_,f,h=>by cases h
 | n+1,[],_,f,h=>by cases h
 | n+1,g :: q,hq,f,h=>by
  rcases List.mem_cons.1 h with rfl | h
  ·exact hq _ (by simp)
  ·refine allF_sp n (q++kids g) (fun x hx=>?_) f h
   rcases List.mem_append.1 hx with hx | hx
   ·exact hq x (List.mem_cons_of_mem _ hx)
   ·exact (hq g (by simp)).of_subs x hx
theorem kids_len {f:Fk} {B:Nat} (h:f.1.length<=B):∀ g∈kids f,g.1.length<=B:=by
 intro g hg
 simp only [kids,subs,List.mem_map,List.mem_filter] at hg
 obtain⟨x,⟨hx,_⟩,rfl⟩:=hg
 obtain⟨ks',h1,rfl⟩:=brs_sub f.1.length f.2 f.1 (Nat.le_refl _) x hx
 have:=((grp_sub f.2 ks').trans h1).length_le
 simp only
 omega
theorem allF_len {B:Nat}:∀ (n:Nat) (q:List Fk),(∀ f∈q,f.1.length<=B)->(∀ f∈allF n q,f.1.length<=B)/\(allF n q).length<=n
 | 0,q,_=>⟨(fun _ h=>by cases h),Nat.le_refl _⟩
 | n+1,[],_=>⟨(fun _ h=>by cases h),Nat.zero_le _⟩
 | n+1,f :: q,h=>by
  obtain⟨h1,h2⟩:=allF_len n (q++kids f) (fun x hx=>by
   rcases List.mem_append.1 hx with hx | hx
   ·exact h x (List.mem_cons_of_mem _ hx)
   ·exact kids_len (h f (by simp)) x hx)
  refine⟨fun x hx=>?_,?_⟩
  ·rcases List.mem_cons.1 hx with rfl | hx
   ·exact h _ (by simp)
   ·exact h1 x hx
  ·rw [allF,List.length_cons]
   omega
theorem recs_len (d:Nat):∀ (gs:List (List ByteArray)) (b:Bool),(recs d b gs).length=gs.length
 | [],_=>rfl
 | g :: gs,b=>by rw [recs,List.length_cons,List.length_cons,recs_len d gs false]
theorem flat_sum {B:Nat}:∀ (F:List Fk),(∀ f∈F,f.1.length<=B)->(F.flatMap recF).length<=B * F.length
 | [],_=>by simp
 | f :: F,h=>by
  have ih:=flat_sum F (fun x hx=>h x (List.mem_cons_of_mem _ hx))
  have h1:=(brs_sum f.1.length f.2 f.1 (Nat.le_refl _)).2
  have h2:=h f (by simp)
  have h3:(recF f).length=(brs f.2 f.1).length:=recs_len _ _ _
  rw [List.flatMap_cons,List.length_append,List.length_cons,Nat.mul_add,Nat.mul_one]
  omega
theorem flat_len {ks:List ByteArray} (h:ks.length<=24):((allF 500 [(ks,0)]).flatMap recF).length<=12000:=by
 obtain⟨h1,h2⟩:=allF_len (B:=24) 500 [(ks,0)] (fun f hf=>by rw [List.mem_singleton.1 hf]; exact h)
 have h3:=flat_sum _ h1
 have:24 * (allF 500 [(ks,0)]).length<=24 * 500:=Nat.mul_le_mul_left _ h2
 omega
theorem Tr.of {ks:List ByteArray} (h:keysOk ks=true) (keep:Int):∃ F L,Tr ks F L/\Enc L keep (sieveR ks keep)/\L.length<=12000:=by
 obtain⟨hg,hl⟩:=keysOk_good h
 have hm:mu [(ks,0)]<=500:=by
  simp [mu]
  omega
 obtain⟨h1,h2⟩:=allF_kids 500 [(ks,0)] (fun f hf=>by rw [List.mem_singleton.1 hf]; exact hg) hm
 refine⟨allF 500 [(ks,0)],(allF 500 [(ks,0)]).flatMap recF,⟨?_,rfl,h2,?_,?_,(allF_mono 500 [(ks,0)] 0 (List.pairwise_singleton _ _) (fun f hf=>by rw [List.mem_singleton.1 hf]; exact⟨Nat.zero_le _,Nat.zero_le _⟩)).1⟩,?_,flat_len hl⟩
 ·rw [flat_kids] at h1
  exact h1
 ·exact allF_sp 500 [(ks,0)] (fun f hf=>by rw [List.mem_singleton.1 hf]; exact SP.of_keys h)
 ·intro e
  subst e
  have e0:brs 0 []=[]:=by rw [brs]
  have e1:kids ([],0)=[]:=by
   unfold kids
   simp only [e0]
   rfl
  have e2:allF 500 [([],0)]=([],0) :: allF 499 ([]++kids ([],0)):=rfl
  have e3:allF 499 []=[]:=rfl
  rw [e2,e1,List.append_nil,e3,List.flatMap_cons,List.flatMap_nil,List.append_nil]
  unfold recF
  simp only [e0]
  rfl
 ·have e:Enc [] keep ⟨⟨#[]⟩,⟨#[]⟩,⟨#[]⟩,[],keep⟩:=⟨rfl,rfl,rfl,rfl,rfl⟩
  have:=Enc.bfs 500 [(ks,0)] e
  rw [List.nil_append] at this
  exact this
theorem Tr.kid {ks:List ByteArray} {F:List Fk} {L:List Br} (h:Tr ks F L) {i:Nat} (hi:i<L.length) (hm:L[i].many=true):F[(L.take (i+1)).countP Br.many]?=some L[i].kid:=by
 rw [h.f,List.take_succ_eq_append_getElem hi,List.countP_append,List.countP_singleton,if_pos hm,List.getElem?_cons_succ,List.getElem?_map,filter_at _ _ _ hi hm]
 rfl
theorem Tr.at {ks:List ByteArray} {F:List Fk} {L:List Br} (h:Tr ks F L) {j:Nat} (hj:j<F.length):L=(F.take j).flatMap recF++(recF F[j]++(F.drop (j+1)).flatMap recF):=by
 rw [h.l]
 conv=>lhs; rw [<- List.take_append_drop j F]
 rw [List.flatMap_append]
 congr 1
 rw [List.drop_eq_getElem_cons hj,List.flatMap_cons]
theorem recs_fst (d:Nat):∀ (gs:List (List ByteArray)),(recs d false gs).countP (·.fst)=0/\(∀ b∈recs d false gs,b.fst=false)
 | []=>⟨rfl,fun _ h=>by cases h⟩
 | g :: gs=>by
  obtain⟨h1,h2⟩:=recs_fst d gs
  rw [recs]
  refine⟨by rw [List.countP_cons,h1]; rfl,fun b hb=>?_⟩
  rcases List.mem_cons.1 hb with rfl | hb
  ·rfl
  ·exact h2 b hb
theorem recF_cons {f:Fk} (h:f.1≠[]):∃ b r,recF f=b :: r/\b.fst=true/\(∀ x∈r,x.fst=false)/\(recF f).countP (·.fst)=1:=by
 obtain⟨ks,d⟩:=f
 cases ks with
 | nil=>exact absurd rfl h
 | cons k ks =>
  unfold recF
  simp only [brs_cons,recs]
  obtain⟨h1,h2⟩:=recs_fst d (brs d ((k :: ks).drop (grp d (k :: ks)).length))
  exact⟨_,_,rfl,rfl,h2,by rw [List.countP_cons,h1]; rfl⟩
theorem flat_fst:∀ (F:List Fk),(∀ f∈F,f.1≠[])->(F.flatMap recF).countP (·.fst)=F.length
 | [],_=>rfl
 | f :: F,h=>by
  obtain⟨b,r,_,_,_,e⟩:=recF_cons (h f (by simp))
  rw [List.flatMap_cons,List.countP_append,e,flat_fst F (fun x hx=>h x (List.mem_cons_of_mem _ hx)),List.length_cons]
  omega
theorem Tr.ne {ks:List ByteArray} {F:List Fk} {L:List Br} (h:Tr ks F L) (hk:ks≠[]):∀ f∈F,f.1≠[]:=by
 intro f hf
 have hg:=h.good f hf
 rw [h.f] at hf
 rcases List.mem_cons.1 hf with rfl | hf
 ·exact hk
 ·obtain⟨b,hb,rfl⟩:=List.mem_map.1 hf
  have h2:=hg.2.2.2
  intro e
  rw [e] at h2
  simp [Br.kid] at h2
def oneP:List Bool->Nat->Option Nat
 | [],_=>none
 | true :: _,0=>some 0
 | true :: r,n+1=>(oneP r n).map (·+1)
 | false :: r,n=>(oneP r n).map (·+1)
theorem oneP_app:∀ (A R:List Bool),oneP (A++true :: R) (A.countP id)=some A.length
 | [],R=>rfl
 | true :: A,R=>by
  have ih:=oneP_app A R
  rw [List.cons_append,List.countP_cons_of_pos (by rfl),oneP,ih]
  rfl
 | false :: A,R=>by
  have ih:=oneP_app A R
  rw [List.cons_append,List.countP_cons_of_neg (by simp),oneP,ih]
  rfl
theorem recF_len (f:Fk):(recF f).length=(brs f.2 f.1).length:=recs_len _ _ _
theorem recs_get (d:Nat):∀ (gs:List (List ByteArray)) (b:Bool) (i:Nat) (h:i<(recs d b gs).length) (h':i<gs.length),((recs d b gs)[i]).g=gs[i]/\((recs d b gs)[i]).d=d
 | g :: gs,b,0,_,_=>⟨rfl,rfl⟩
 | g :: gs,b,i+1,h,h'=>by
  have:=recs_get d gs false i (by simpa [recs] using h) (by simpa using h')
  simpa [recs] using this
theorem Tr.span {ks:List ByteArray} {F:List Fk} {L:List Br} (h:Tr ks F L) (hk:ks≠[]) {j:Nat} (hj:j<F.length):∃ a,oneP (L.map (·.fst)) j=some a/\a+(brs F[j].2 F[j].1).length<=L.length/\0<(brs F[j].2 F[j].1).length /\
  (((L.map (·.fst)).drop (a+1)).takeWhile (fun b=>!b)).length=(brs F[j].2 F[j].1).length-1 /\
  ∀ (i:Nat) (hi:i<(brs F[j].2 F[j].1).length) (hl:a+i<L.length),(L[a+i]).g=(brs F[j].2 F[j].1)[i]/\(L[a+i]).d=F[j].2:=by
 have hne:=h.ne hk
 have hat:=h.at hj
 obtain⟨b,r,e,hb,hr,hc⟩:=recF_cons (hne F[j] (List.getElem_mem hj))
 have hlen:=recF_len F[j]
 have hr1:r.length+1=(brs F[j].2 F[j].1).length:=by rw [<- hlen,e,List.length_cons]
 have hA:=flat_fst (F.take j) (fun f hf=>hne f (List.mem_of_mem_take hf))
 rw [List.length_take,Nat.min_eq_left (by omega)] at hA
 have hL:=congrArg List.length hat
 rw [List.length_append,List.length_append] at hL
 refine⟨((F.take j).flatMap recF).length,?_,by omega,by omega,?_,fun i hi hl=>?_⟩
 ·have e2:L.map (·.fst)=((F.take j).flatMap recF).map (·.fst)++true :: (r.map (·.fst)++((F.drop (j+1)).flatMap recF).map (·.fst)):=by
   conv=>lhs; rw [hat]
   rw [e,List.map_append,List.map_append,List.map_cons,hb,List.cons_append]
  have e3:(((F.take j).flatMap recF).map (·.fst)).countP id=j:=by
   rw [List.countP_map]
   exact hA
  have:=oneP_app (((F.take j).flatMap recF).map (·.fst)) (r.map (·.fst)++((F.drop (j+1)).flatMap recF).map (·.fst))
  rw [e3,List.length_map] at this
  rw [e2]
  exact this
 ·have e2:(L.map (·.fst)).drop (((F.take j).flatMap recF).length+1)=r.map (·.fst)++((F.drop (j+1)).flatMap recF).map (·.fst):=by
   conv=>lhs; rw [hat]
   rw [e,List.map_append,List.map_append,List.map_cons,List.cons_append,List.drop_append,List.length_map,show ((F.take j).flatMap recF).length+1-((F.take j).flatMap recF).length=1 by omega,List.drop_of_length_le (by simp),List.nil_append]
   rfl
  rw [e2]
  have e4:∀ x∈r.map (·.fst),(!x)=true:=by
   intro x hx
   obtain⟨y,hy,rfl⟩:=List.mem_map.1 hx
   simp [hr y hy]
  rw [List.takeWhile_append_of_pos e4,List.length_append,List.length_map]
  have e5:((((F.drop (j+1)).flatMap recF).map (·.fst)).takeWhile (fun b=>!b))=[]:=by
   cases hd:F.drop (j+1) with
   | nil=>rfl
   | cons f F' =>
    obtain⟨b',r',e',hb',_⟩:=recF_cons (hne f (List.mem_of_mem_drop (by rw [hd]; simp)))
    rw [List.flatMap_cons,e',List.cons_append,List.map_cons,hb']
    rfl
  rw [e5]
  simp
  omega
 ·have hi2:i<(recF F[j]).length:=by omega
  have e6:L[((F.take j).flatMap recF).length+i]=(recF F[j])[i]:=by
   apply Option.some.inj
   rw [<- List.getElem?_eq_getElem hl,<- List.getElem?_eq_getElem hi2]
   conv=>lhs; rw [hat]
   rw [List.getElem?_append_right (by omega),show ((F.take j).flatMap recF).length+i-((F.take j).flatMap recF).length=i by omega,List.getElem?_append_left hi2]
  rw [e6]
  exact recs_get _ _ _ _ hi2 hi
def pickG (d:Nat) (c:UInt8):List (List ByteArray)->Option (List ByteArray)
 | []=>none
 | g :: gs=>if letter (g.headD ⟨#[]⟩) d=c then some g else pickG d c gs
def tailK (k:ByteArray) (d:Nat):ByteArray:=k.extract (min (d+1) k.size) k.size
def wholeK (x:ByteArray) (d:Nat) (keep:Int):Bool:=decide (letter x d=45)||decide (((restK x (d+1) keep).size:Int)<keep)
def begins (k p:ByteArray):Bool:=decide (p.size<=k.size/\k.extract 0 p.size=p)
def leafHas (k:ByteArray) (d:Nat) (keep:Int) (x:ByteArray):Bool:=if wholeK x d keep=true then decide (tailK k d=restK x (d+1) keep) else begins (tailK k d) (restK x (d+1) keep)
def hasF (keep:Int) (k:ByteArray):Nat->List ByteArray->Nat->Bool
 | 0,_,_=>false
 | n+1,ks,d=>match pickG d (letter k d) (brs d ks) with
  | none=>false
  | some g=>if many g=true then hasF keep k n g (d+1) else leafHas k d keep (g.headD ⟨#[]⟩)
def hasR (ks:List ByteArray) (keep:Int) (k:ByteArray):Bool:=hasF keep k 7 ks 0
theorem restK_tail (k:ByteArray) (d:Nat) (keep:Int) (hk:0<=keep):restK k (d+1) keep=(tailK k d).extract 0 (min keep.toNat (tailK k d).size):=by
 have e:k.extract (d+1) k.size=tailK k d:=by
  unfold tailK
  rcases Nat.lt_or_ge (d+1) k.size with h | h
  ·rw [Nat.min_eq_left (by omega)]
  ·rw [Nat.min_eq_right h]
   apply ByteArray.ext
   simp [ByteArray.data_extract]
   omega
 have e2:(tailK k d).size=k.size-(d+1):=by
  unfold tailK
  rw [ByteArray.size_extract]
  omega
 unfold restK
 rw [e,e2,Nat.min_comm]
theorem ba_whole (x:ByteArray):x.extract 0 x.size=x:=by
 apply ByteArray.ext
 simp [ByteArray.data_extract]
theorem leafHas_self (k:ByteArray) (d:Nat) (keep:Int) (hk:0<=keep) (hok:keyOk k=true):leafHas k d keep k=true:=by
 have e:=restK_tail k d keep hk
 have e2:(tailK k d).size=k.size-(d+1):=by
  unfold tailK
  rw [ByteArray.size_extract]
  omega
 unfold leafHas
 split
 ·rename_i h
  rw [decide_eq_true_eq]
  simp only [wholeK,Bool.or_eq_true,decide_eq_true_eq] at h
  rw [e]
  have hle:(tailK k d).size<=keep.toNat:=by
   rcases h with h | h
   ·have:=(letter_ok hok d).1 h
    omega
   ·rw [e,ByteArray.size_extract] at h
    omega
  rw [Nat.min_eq_right hle,ba_whole]
 ·unfold begins
  rw [decide_eq_true_eq,e]
  refine⟨by rw [ByteArray.size_extract]; omega,?_⟩
  rw [ByteArray.size_extract]
  congr 1
  omega
theorem grp_hd {d:Nat} {k:ByteArray} {ks:List ByteArray}:(grp d (k :: ks)).headD ⟨#[]⟩=k:=by
 unfold grp
 simp only
 rw [List.filter_cons,if_pos (by simp)]
 rfl
theorem pick_mem:∀ (n:Nat) {d:Nat} {ks:List ByteArray} {k:ByteArray},ks.length<=n->SP d ks->k∈ks->∃ g,pickG d (letter k d) (brs d ks)=some g/\k∈g/\g∈brs d ks
 | n,d,[],k,_,_,hk=>by cases hk
 | 0,d,k0 :: ks,k,hn,_,_=>by simp at hn
 | n+1,d,k0 :: ks,k,hn,h,hk=>by
  rw [brs_cons,pickG,grp_hd]
  by_cases he:letter k0 d=letter k d
  ·rw [if_pos he]
   refine⟨_,rfl,?_,by simp⟩
   unfold grp
   simp only
   rw [List.mem_filter]
   exact⟨hk,by simp [he]⟩
  ·rw [if_neg he]
   obtain⟨e1,e2⟩:=grp_take h
   have hp:=grp_pos d k0 ks
   have hd:k∈(k0 :: ks).drop (grp d (k0 :: ks)).length:=by
    rw [<- List.take_append_drop (grp d (k0 :: ks)).length (k0 :: ks)] at hk
    rcases List.mem_append.1 hk with h1 | h1
    ·exfalso
     rw [e2,<- e1] at h1
     unfold grp at h1
     simp only at h1
     have:=(List.mem_filter.1 h1).2
     simp only [beq_iff_eq] at this
     exact he this.symm
    ·exact h1
   obtain⟨g,g1,g2,g3⟩:=pick_mem n (by simp only [List.length_drop,List.length_cons] at hn ⊢; omega) (h.sub (List.drop_sublist _ _)) hd
   exact⟨g,g1,g2,List.mem_cons_of_mem _ g3⟩
theorem kid_good {ks g:List ByteArray} {d:Nat} (h:Good (ks,d)) (hg:g∈brs d ks) (hm:many g=true):Good (g,d+1) :=
 h.subs _ (List.mem_map.2 ⟨g,List.mem_filter.2 ⟨hg,hm⟩,rfl⟩)
theorem hasF_self {keep:Int} {k:ByteArray} (hk0:0<=keep) (hok:keyOk k=true):∀ (n:Nat) {ks:List ByteArray} {d:Nat},SP d ks->Good (ks,d)->k∈ks->7<=n+d->hasF keep k n ks d=true
 | 0,ks,d,_,hg,_,hn=>by
  have:=hg.deep
  simp only at this
  omega
 | n+1,ks,d,hs,hg,hk,hn=>by
  obtain⟨g,g1,g2,g3⟩:=pick_mem ks.length (Nat.le_refl _) hs hk
  rw [hasF,g1]
  simp only
  cases hm:many g with
  | true =>
   rw [if_pos rfl]
   exact hasF_self hk0 hok n (SP.of_brs ks.length d (Nat.le_refl _) hs g g3) (kid_good hg g3 hm) g2 (by omega)
  | false =>
   rw [if_neg (by simp)]
   have hl:g.length<=1:=by simpa [many] using hm
   match g,g2,hl with
   | [x],g2,_ =>
    rw [List.mem_singleton] at g2
    subst g2
    exact leafHas_self k d keep hk0 hok
theorem hasR_self {ks:List ByteArray} {keep:Int} {k:ByteArray} (h:keysOk ks=true) (hk0:0<=keep) (hk:k∈ks):hasR ks keep k=true :=
 hasF_self hk0 ((SP.of_keys h).ok k hk) 7 (SP.of_keys h) (keysOk_good h).1 hk (by omega)
end Go.Proofs.YtepeokaplbbpoaaGreat.B

namespace Go.Proofs
open Go.Shelf
def Tryz.laysCount_ren:Go.Shelf.Ren:=⟨fun | 138=>171 | 195=>196 | 218=>197 | 143=>198 | 219=>209 | 217=>212 | 225=>213 | 224=>214 | 267=>215 | 266=>217 | 314=>218 | n=>n,fun | 9=>9 | 3=>3 | 4=>4 | 5=>5 | 0=>0 | 46=>151 | 146=>214 | 51=>191 | n=>n,fun | 1=>0 | n=>n⟩
theorem Tryz.laysCount:Go.Proofs.Lays.n138 Tryz.prog Tryz.laysCount_ren:={
 mixed:=by kernel_rfl
 f138:=Tryz.func171.trans (congrArg some (by kernel_rfl))
 f143:=Tryz.func198.trans (congrArg some (by kernel_rfl))
 f195:=Tryz.func196.trans (congrArg some (by kernel_rfl))
 f217:=Tryz.func212.trans (congrArg some (by kernel_rfl))
 f218:=Tryz.func197.trans (congrArg some (by kernel_rfl))
 f219:=Tryz.func209.trans (congrArg some (by kernel_rfl))
 f224:=Tryz.func214.trans (congrArg some (by kernel_rfl))
 f225:=Tryz.func213.trans (congrArg some (by kernel_rfl))
 f266:=Tryz.func217.trans (congrArg some (by kernel_rfl))
 f267:=Tryz.func215.trans (congrArg some (by kernel_rfl))
 f314:=Tryz.func218.trans (congrArg some (by kernel_rfl))
 t0:=Tryz.underlying0
 a0:=Tryz.isAgg0
 z0:=Tryz.sizeOf0
 v0:=Tryz.zeroValue0
 t3:=Tryz.underlying3
 a3:=Tryz.isAgg3
 z3:=Tryz.sizeOf3
 v3:=Tryz.zeroValue3
 t4:=Tryz.underlying4
 a4:=Tryz.isAgg4
 z4:=Tryz.sizeOf4
 v4:=Tryz.zeroValue4
 t5:=Tryz.underlying5
 a5:=Tryz.isAgg5
 z5:=Tryz.sizeOf5
 v5:=Tryz.zeroValue5
 t9:=Tryz.underlying9
 a9:=Tryz.isAgg9
 z9:=Tryz.sizeOf9
 v9:=Tryz.zeroValue9
 t46:=Tryz.underlying151
 a46:=Tryz.isAgg151
 z46:=Tryz.sizeOf151
 v46:=Tryz.zeroValue151
 t51:=Tryz.underlying191
 a51:=Tryz.isAgg191
 z51:=Tryz.sizeOf191
 v51:=Tryz.zeroValue191
 t146:=Tryz.underlying214
 a146:=Tryz.isAgg214
 z146:=Tryz.sizeOf214
 v146:=Tryz.zeroValue214
 g1:=by kernel_rfl }
end Go.Proofs

namespace Go.Proofs.YtepeokaplbbpoaaGreat.B
open Go.RowKit
set_option linter.unusedVariables false
set_option linter.unusedSimpArgs false
theorem srt_get {l:List Ent} (h:Srt l) {i j:Nat} (hij:i<=j) (hj:j<l.length):Le (l[i]'(by omega)) l[j]:=by
 rcases Nat.lt_or_ge i j with hlt | hge
 ·exact List.pairwise_iff_getElem.1 h i j (by omega) hj hlt
 ·have:i=j:=by omega
  subst this
  exact Le.refl _
theorem bnd_lt {l:List Ent} (h:Srt l) {k:Nat} (hk:k<=l.length) {x:Ent} (hb:k=0\/∃ g:k-1<l.length,ahead l[k-1] x=true):∀ y∈l.take k,ahead y x=true:=by
 intro y hy
 obtain⟨i,hi,rfl⟩:=List.mem_iff_getElem.1 hy
 rw [List.length_take] at hi
 rcases hb with rfl | ⟨g,hb⟩
 ·omega
 ·rw [List.getElem_take]
  exact le_ahead (srt_get h (show i<=k-1 by omega) g) hb
theorem bnd_ge {l:List Ent} (h:Srt l) {k:Nat} {x:Ent} (hb:k=l.length\/∃ g:k<l.length,Le x l[k]):∀ y∈l.drop k,Le x y:=by
 intro y hy
 obtain⟨i,hi,rfl⟩:=List.mem_iff_getElem.1 hy
 rw [List.length_drop] at hi
 rcases hb with rfl | ⟨g,hb⟩
 ·omega
 ·rw [List.getElem_drop]
  exact hb.trans (srt_get h (Nat.le_add_right k i) (by omega))
theorem bnd_gt {l:List Ent} (h:Srt l) {k:Nat} {x:Ent} (hb:k=l.length\/∃ g:k<l.length,ahead x l[k]=true):∀ y∈l.drop k,ahead x y=true:=by
 intro y hy
 obtain⟨i,hi,rfl⟩:=List.mem_iff_getElem.1 hy
 rw [List.length_drop] at hi
 rcases hb with rfl | ⟨g,hb⟩
 ·omega
 ·rw [List.getElem_drop]
  exact ahead_le hb (srt_get h (Nat.le_add_right k i) (by omega))
theorem bnd_le {l:List Ent} (h:Srt l) {k:Nat} (hk:k<=l.length) {x:Ent} (hb:k=0\/∃ g:k-1<l.length,Le l[k-1] x):∀ y∈l.take k,Le y x:=by
 intro y hy
 obtain⟨i,hi,rfl⟩:=List.mem_iff_getElem.1 hy
 rw [List.length_take] at hi
 rcases hb with rfl | ⟨g,hb⟩
 ·omega
 ·rw [List.getElem_take]
  exact (srt_get h (show i<=k-1 by omega) g).trans hb
theorem one_left {x:Ent} {r:List Ent} (hr:Srt r) {k:Nat} (hk:k<=r.length) (h1:k=0\/∃ g:k-1<r.length,ahead r[k-1] x=true) (h2:k=r.length\/∃ g:k<r.length,ahead r[k] x=false) :
  Srt (r.take k++x :: r.drop k)/\(r.take k++x :: r.drop k).Perm ([x]++r):=by
 have a1:=bnd_lt hr hk h1
 have a2:=bnd_ge hr (x:=x) h2
 have hr':=hr
 rw [<- List.take_append_drop k r] at hr'
 refine⟨hr'.left.app (List.pairwise_cons.2 ⟨a2,hr'.right⟩) (fun y hy z hz=>?_),?_⟩
 ·rcases List.mem_cons.1 hz with rfl | hz
  ·exact Le.of (a1 y hy)
  ·exact hr'.cross y hy z hz
 ·refine List.perm_middle.trans ?_
  rw [List.take_append_drop]
  exact List.Perm.refl _
theorem one_right {x:Ent} {l:List Ent} (hl:Srt l) {k:Nat} (hk:k<=l.length) (h1:k=0\/∃ g:k-1<l.length,ahead x l[k-1]=false) (h2:k=l.length\/∃ g:k<l.length,ahead x l[k]=true) :
  Srt (l.take k++x :: l.drop k)/\(l.take k++x :: l.drop k).Perm (l++[x]):=by
 have a1:=bnd_le hl hk (x:=x) h1
 have a2:=bnd_gt hl h2
 have hl':=hl
 rw [<- List.take_append_drop k l] at hl'
 refine⟨hl'.left.app (List.pairwise_cons.2 ⟨fun y hy=>Le.of (a2 y hy),hl'.right⟩) (fun y hy z hz=>?_),ins_perm l x k⟩
 rcases List.mem_cons.1 hz with rfl | hz
 ·exact a1 y hy
 ·exact hl'.cross y hy z hz
theorem set_mid {α:Type} (A:List α) (x y:α) (B:List α) {n:Nat} (hn:n=A.length):(A++x :: B).set n y=A++y :: B:=by
 subst hn
 rw [List.set_append_right _ _ (Nat.le_refl _),Nat.sub_self,List.set_cons_zero]
theorem get_mid {α:Type} (A:List α) (x:α) (B:List α) {n:Nat} (hn:n=A.length):(A++x :: B)[n]?=some x:=by
 subst hn
 rw [List.getElem?_append_right (Nat.le_refl _),Nat.sub_self,List.getElem?_cons_zero]
end Go.Proofs.YtepeokaplbbpoaaGreat.B

namespace Go.Proofs.YtepeokaplbbpoaaGreat.B
open Go.RowKit
set_option linter.unusedVariables false
set_option linter.unusedSimpArgs false
theorem srt_le {l:List Ent} (h:Srt l) {i j:Nat} {x y:Ent} (hij:i<=j) (hx:l[i]?=some x) (hy:l[j]?=some y):Le x y:=by
 obtain⟨hi,rfl⟩:=List.getElem?_eq_some_iff.1 hx
 obtain⟨hj,rfl⟩:=List.getElem?_eq_some_iff.1 hy
 exact srt_get h hij hj
theorem mem_take_get {l:List Ent} {p:Nat} {x:Ent} (h:x∈l.take p):∃ i,i<p/\l[i]?=some x:=by
 obtain⟨i,hi,rfl⟩:=List.mem_iff_getElem.1 h
 rw [List.length_take] at hi
 exact⟨i,by omega,by rw [List.getElem_take]; exact List.getElem?_eq_getElem (by omega)⟩
theorem mem_drop_get {l:List Ent} {p:Nat} {x:Ent} (h:x∈l.drop p):∃ i,p<=i/\l[i]?=some x:=by
 obtain⟨i,hi,rfl⟩:=List.mem_iff_getElem.1 h
 rw [List.length_drop] at hi
 exact⟨p+i,by omega,by rw [List.getElem_drop]; exact List.getElem?_eq_getElem (by omega)⟩
theorem get_lt {α:Type} {l:List α} {i:Nat} {x:α} (h:l[i]?=some x):i<l.length:=(List.getElem?_eq_some_iff.1 h).1
theorem sym_cut {L R:List Ent} (hL:Srt L) (hR:Srt R) {p q:Nat}
  (h1:p=0\/q=R.length\/∃ x y,L[p-1]?=some x/\R[q]?=some y/\Le x y)
  (h2:p=L.length\/q=0\/∃ x y,R[q-1]?=some x/\L[p]?=some y/\ahead x y=true) :
  (∀ x∈L.take p,∀ y∈R.drop q,Le x y)/\(∀ x∈R.take q,∀ y∈L.drop p,Le x y):=by
 constructor
 ·intro x hx y hy
  obtain⟨i,hi,gx⟩:=mem_take_get hx
  obtain⟨j,hj,gy⟩:=mem_drop_get hy
  rcases h1 with h | h | ⟨u,v,hu,hv,huv⟩
  ·omega
  ·have:=get_lt gy
   omega
  ·exact ((srt_le hL (by omega) gx hu).trans huv).trans (srt_le hR hj hv gy)
 ·intro x hx y hy
  obtain⟨i,hi,gx⟩:=mem_take_get hx
  obtain⟨j,hj,gy⟩:=mem_drop_get hy
  rcases h2 with h | h | ⟨u,v,hu,hv,huv⟩
  ·have:=get_lt gy
   omega
  ·omega
  ·exact ((srt_le hR (by omega) gx hu).trans (Le.of huv)).trans (srt_le hL hj hv gy)
theorem swap_mid {α:Type} (P:List α) (x:α) (Q:List α) (y:α) (S:List α) {p q:Nat} (hp:p=P.length) (hq:q=P.length+1+Q.length) :
  ((P++x :: (Q++y :: S)).set p y).set q x=P++y :: (Q++x :: S):=by
 rw [set_mid _ _ _ _ hp,show P++y :: (Q++y :: S)=(P++y :: Q)++y :: S by simp,set_mid _ _ _ _ (by simp; omega)]
 simp
theorem swap_mid' {α:Type} (P:List α) (x:α) (Q:List α) (y:α) (S:List α) {p q:Nat} (hp:p=P.length) (hq:q=P.length+1+Q.length) :
  ((P++x :: (Q++y :: S)).set q x).set p y=P++y :: (Q++x :: S):=by
 rw [List.set_comm _ _ (by omega)]
 exact swap_mid P x Q y S hp hq
theorem get_mid1 {α:Type} (P:List α) (x:α) (Q:List α) (y:α) (S:List α) {q:Nat} (hq:q=P.length+1+Q.length):(P++x :: (Q++y :: S))[q]?=some y:=by
 rw [show P++x :: (Q++y :: S)=(P++x :: Q)++y :: S by simp]
 exact get_mid _ _ _ (by simp; omega)
end Go.Proofs.YtepeokaplbbpoaaGreat.B

namespace Go.Proofs.YtepeokaplbbpoaaGreat.B
open Go.RowKit Go.Proofs
set_option linter.unusedVariables false
set_option linter.unusedSimpArgs false
variable {E:Env}
theorem in_ok (n l h:Int) (H:Hp):AC Tryz.prog E 64 [.int .i64 n,.int .i64 l,.int .i64 h] H (fun v H'=>v=.bool (decide (l<=n/\n<=h))/\H'=H):=by
 refine AC_by fol (CLe.refl (AC Tryz.prog E)) h_impl_in ?_
 simp [c_impl_in]
 refine g_split (fun hq=>?_) (fun hq=>?_) (by simp)<;>simp at hq<;>simp [hq]
 omega
theorem implKey_ok (k:ByteArray) (H:Hp) (hk:k.size<4611686018427387904):AC Tryz.prog E 53 [.str k] H (fun v H'=>v=.bool (keyOk k)/\H'=H):=by
 refine AC_byp (tC_le tab0_ok) h_impl_KeyOk (by simp) ?_
 simp [c_impl_KeyOk]
 refine W_for (fun m t H'=>∃ i:Nat,i+m=k.size/\t 0=.str k/\t 5=.int .i64 k.size/\t 6=.int .i64 i/\(∀ j:Nat,j<i->97<=bt k j/\bt k j<=100)/\H'=H) k.size ?_ (tC_mono AC_mono) ?_
 ·exact⟨0,by simp⟩
 rintro m t H' ⟨i,him,h0,h5,h6,hI,rfl⟩
 simp [h0,h5,h6]
 refine c_split (fun hq=>?_) (fun hq=>?_)<;>simp at hq
 ·have hw:=wrapN (i:=i) (by omega)
  simp [h0,h5,h6,hq]
  refine g_split (fun hq2=>?_) (fun hq2=>?_) (by simp)<;>simp at hq2<;>simp [hq2,h0,h5,h6,hq]
  ·simp only [keyOk,decide_eq_false_iff_not]
   intro hh
   have:=hh.1 i hq
   omega
  ·refine c_split (fun hq3=>?_) (fun hq3=>?_)<;>simp at hq3<;>simp [h0,h5,h6,hw]
   ·simp only [keyOk,decide_eq_false_iff_not]
    intro hh
    have:=hh.1 i hq
    omega
   ·refine⟨m-1,by omega,i+1,by omega,rfl,fun j hj=>?_⟩
    rcases Nat.lt_or_ge j i with h | h
    ·exact hI j h
    ·have:j=i:=by omega
     subst this
     omega
 ·have:i=k.size:=by omega
  subst this
  simp [h0]
  simp only [keyOk,decide_eq_decide]
  exact⟨fun h=>⟨hI,by omega⟩,fun h=>by omega⟩
end Go.Proofs.YtepeokaplbbpoaaGreat.B

namespace Go.Proofs.YtepeokaplbbpoaaGreat.B
open Go.RowKit Go.Proofs
set_option linter.unusedVariables false
set_option linter.unusedSimpArgs false
variable {E:Env}
def tabJ (f:Nat) (args:List AV):Option AV :=
 match f,args with
 | 64,[.int .i64 n,.int .i64 l,.int .i64 h]=>some (.bool (decide (l<=n/\n<=h)))
 | 53,[.str k]=>if k.size<4611686018427387904 then some (.bool (keyOk k)) else none
 | _,_=>none
theorem tabJ_ok:TabOK tabJ Tryz.prog E:=by
 intro f args r H h
 unfold tabJ at h
 split at h
 ·cases h
  exact in_ok _ _ _ _
 ·split at h
  ·cases h
   exact implKey_ok _ _ (by assumption)
  ·cases h
 ·cases h
section
variable (C:CallP) (d:Option Nat) (ag:List (Option Nat × AOp × Option (Nat × Bool))) (p:Plan) (t:Tm) (H:Hp) (K:Tm->Hp->Prop)
@[simp] theorem tabJ_in (n l h:Int):callG (tC tabJ C) 64 [.int .i64 n,.int .i64 l,.int .i64 h] d ag p t H K =
 (againG ag (updO t d (.bool (decide (l<=n/\n<=h)))) H/\RgP (tC tabJ C) p (updO t d (.bool (decide (l<=n/\n<=h)))) H K):=rfl
theorem tabJ_key (k:ByteArray) (hk:k.size<4611686018427387904):callG (tC tabJ C) 53 [.str k] d ag p t H K =
 (againG ag (updO t d (.bool (keyOk k))) H/\RgP (tC tabJ C) p (updO t d (.bool (keyOk k))) H K):=callG_tab (if_pos hk)
end
theorem entryOk_ok (e:Ent) (H:Hp) (hk:e.key.size<4611686018427387904):AC Tryz.prog E 116 [.ag (entRow e)] H (fun v H'=>v=.bool (entOk e)/\H'=H):=by
 refine AC_byp (tC_le tabJ_ok) h_impl_entryOk (by simp) ?_
 have hkey:∀ {C:CallP} {d:Option Nat} {ag} {p:Plan} {t:Tm} {H:Hp} {K:Tm->Hp->Prop},_:=@fun C d ag p t H K=>tabJ_key C d ag p t H K e.key hk
 simp [c_impl_entryOk,entRow,hkey]
 cases h1:keyOk e.key with
 | false=>simp [entOk,h1]
 | true =>
 simp
 refine g_split (fun h2=>?_) (fun h2=>?_) (by simp)<;>simp at h2<;>simp [h2,entOk,h1]
 ·cases h3:e.gone with
  | false =>
   simp [h3]
  | true =>
   simp [h3]
   refine g_split (fun h4=>?_) (fun h4=>?_) (by simp)<;>simp at h4<;>simp [h4,h2]
 ·intro h5 h6
  omega
theorem before_ok (a b:Ent) (H:Hp):AC Tryz.prog E 117 [.ag (entRow a),.ag (entRow b)] H (fun v H'=>v=.bool (ahead a b)/\H'=H):=by
 refine AC_byp (tC_le tab0_ok) h_impl_before (by simp) ?_
 simp [c_impl_before,entRow]
 refine g_split (fun hq=>?_) (fun hq=>?_) (by simp)<;>simp [hq,ahead]
 refine g_split (fun hq2=>?_) (fun hq2=>?_) (by simp)<;>simp at hq2<;>simp [hq,hq2]
theorem implRunOk_ok (a:AV) (r:List Ent) (H:Hp) (ha:Ents H a r) (hs:Short r) (hn:r.length<4611686018427387904):AC Tryz.prog E 67 [a] H (fun v H'=>v=.bool (runOk r)/\H'=H):=by
 refine AC_byp (tC_le tabJ_ok) h_impl_RunOk (by simp) ?_
 have l1:=ha.len
 simp [c_impl_RunOk,l1,ha.slc]
 refine W_for (fun m t H'=>∃ i:Nat,i+m=r.length/\t 0=a/\t 5=a/\t 6=.int .i64 r.length/\t 7=.int .i64 i/\(∀ j:Nat,∀ h:j<r.length,j<i->entOk r[j]=true/\∀ h0:0<j,ahead r[j-1] r[j]=true)/\HLe H H') r.length ?_ (tC_mono AC_mono) ?_
 ·exact⟨0,by omega,by simp,by simp,by simp,by simp,by simp,HLe.refl _⟩
 rintro m t H' ⟨i,him,h0,h5,h6,h7,hI,hle⟩
 simp [h0,h5,h6,h7,l1,ha.slc]
 refine c_split (fun hq=>?_) (fun hq=>?_)<;>simp at hq
 ·have hw:=wrapN (i:=i) (by omega)
  obtain⟨o1,i1,ob1,rfl,a1,a2,a3⟩:=(ha.le hle).get hq
  have u1:=Hp.at_lt a1
  have no:(entOk r[i]=true/\∀ h0:0<i,ahead r[i-1] r[i]=true)\/runOk r=false:=by
   rcases Classical.em (entOk r[i]=true/\∀ h0:0<i,ahead r[i-1] r[i]=true) with h | h
   ·exact .inl h
   ·refine .inr ?_
    simp only [runOk,decide_eq_false_iff_not]
    exact fun hh=>h (hh.1 i hq)
  have yes:(entOk r[i]=true/\∀ h0:0<i,ahead r[i-1] r[i]=true)->∀ j:Nat,∀ h:j<r.length,j<i+1->entOk r[j]=true/\∀ h0:0<j,ahead r[j-1] r[j]=true:=by
   intro hi j hj hji
   rcases Nat.lt_or_ge j i with h | h
   ·exact hI j hj h
   ·have:j=i:=by omega
    subst this
    exact hi
  obtain⟨G,hG⟩:∃ G:Hp,G=H'++[some ⟨[[.str r[i].key,.int .i64 r[i].val,.bool r[i].gone,.int .i64 r[i].time]],4,45,false⟩]:=⟨_,rfl⟩
  have hleG:HLe H' G:=by rw [hG]; exact HLe.self _ _
  have bG:G.at H'.length=some ⟨[[.str r[i].key,.int .i64 r[i].val,.bool r[i].gone,.int .i64 r[i].time]],4,45,false⟩:=by rw [hG]; simp
  have a1G:=hleG.2 _ _ a1
  simp [h0,h5,h6,h7,hq,a1,a2,a3,Hp.at_app,u1,<- hG,bG]
  refine cg_use (entryOk_ok r[i] G (hs.get hq)) ?_
  cases he:entOk r[i] with
  | false =>
   simp [h0,h5,h6,h7,he]
   exact⟨no.resolve_left (fun h=>by rw [he] at h; cases h.1),hle.trans hleG⟩
  | true =>
   rcases Nat.eq_zero_or_pos i with rfl | hp
   ·simp [h0,h5,h6,h7]
    exact⟨m-1,by omega,1,by omega,by decide,fun j hj hj1=>yes ⟨he,fun h=>by omega⟩ j hj (by omega),hle.trans hleG⟩
   ·have hw2:IntKind.i64.wrap ((i:Int)-1)=((i-1:Nat):Int):=by rw [wrap64 (by omega) (by omega)]; omega
    have hlt:i-1<r.length:=by omega
    obtain⟨o2,i2,ob2,e2,b1,b2,b3⟩:=(ha.le hle).get hlt
    cases e2
    rw [a1] at b1
    cases b1
    simp [h0,h5,h6,h7,hp,hw2,a1G,a2,b3,hlt,bG]
    refine cg_use (before_ok r[i-1] r[i] G) ?_
    cases hb:ahead r[i-1] r[i] with
    | false =>
     simp [h0,h5,h6,h7]
     exact⟨no.resolve_left (fun h=>by rw [h.2 hp] at hb; cases hb),hle.trans hleG⟩
    | true =>
     simp [h0,h5,h6,h7,hw]
     exact⟨m-1,by omega,i+1,by omega,rfl,yes ⟨he,fun _=>hb⟩,hle.trans hleG⟩
 ·have:i=r.length:=by omega
  subst this
  simp [h0,l1,ha.slc]
  simp only [runOk,decide_eq_decide]
  exact⟨⟨fun h=>⟨fun j hj=>hI j hj hj,by omega⟩,fun h=>by omega⟩,hle⟩
end Go.Proofs.YtepeokaplbbpoaaGreat.B

namespace Go.Proofs.YtepeokaplbbpoaaGreat.B
open Go.RowKit Go.Proofs
set_option linter.unusedVariables false
set_option linter.unusedSimpArgs false
variable {E:Env}
def Dat (H:Hp) (o:Nat) (es:List Ent):Prop:=H.at o=some ⟨es.map entRow,4,45,false⟩
theorem wrap2 {a b:Nat} (h:a+b<9223372036854775808):IntKind.i64.wrap ((a:Int)+(b:Int))=((a+b:Nat):Int):=by
 rw [wrap64 (by omega) (by omega)]
 omega
theorem wrapS {a b:Nat} (h:b<=a) (h2:a<9223372036854775808):IntKind.i64.wrap ((a:Int)-(b:Int))=((a-b:Nat):Int):=by
 rw [wrap64 (by omega) (by omega)]
 omega
theorem wrapS1 {a:Nat} (h:1<=a) (h2:a<9223372036854775808):IntKind.i64.wrap ((a:Int)-1)=((a-1:Nat):Int):=by
 rw [wrap64 (by omega) (by omega)]
 omega
theorem entRow_set (es:List Ent) (i:Nat) (x:Ent):(es.map entRow).set i [.str x.key,.int .i64 x.val,.bool x.gone,.int .i64 x.time]=(es.set i x).map entRow:=by
 rw [List.map_set]
 rfl
theorem swapRange_ok (o:Nat) (cv:AV) (A X M Y B:List Ent) (H:Hp) (hd:Dat H o (A++(X++(M++(Y++B))))) (hXY:X.length=Y.length) (hn:(A++(X++(M++(Y++B)))).length<1000000)
  {a b n N:Nat} (ha:a=A.length) (hb:b=A.length+X.length+M.length) (hn0:n=X.length) (hN:N=(A++(X++(M++(Y++B)))).length) :
  AC Tryz.prog E 216 [.sl o 0 N,.int .i64 a,.int .i64 b,.int .i64 n,cv] H (fun v H'=>v=.tu []/\Fr (fun y=>y=o) H H'/\Dat H' o (A++(Y++(M++(X++B))))):=by
 refine AC_by fol (tC_le tabJ_ok) h_slices_swapRangeCmpFunc_impl_Entry ?_
 simp [c_slices_swapRangeCmpFunc_impl_Entry]
 simp only [List.length_append] at hn hN
 refine W_for (fun m t H'=>∃ X1 X2 Y1 Y2:List Ent,X2.length=m/\Y2.length=m/\X=X1++X2/\Y=Y1++Y2/\t 0=.sl o 0 N/\t 1=.int .i64 a/\t 2=.int .i64 b/\t 3=.int .i64 n/\t 10=.int .i64 (X1.length:Nat)/\Fr (fun y=>y=o) H H'/\Dat H' o (A++(Y1++(X2++(M++(X1++(Y2++B))))))) n ?_ (tC_mono AC_mono) ?_
 ·exact⟨[],X,[],Y,by omega,by omega,rfl,rfl,by simp,by simp,by simp,by simp,by simp,Fr.refl _ _,by simpa using hd⟩
 rintro m t H' ⟨X1,X2,Y1,Y2,l1,l2,rfl,rfl,h0,h1,h2,h3,h10,hF,hD⟩
 simp only [List.length_append] at hn hN hb hn0 hXY
 simp [h0,h1,h2,h3,h10]
 refine c_split (fun hq=>?_) (fun hq=>?_)<;>simp at hq
 ·obtain⟨x,X2,rfl⟩:∃ x X',X2=x :: X':=List.exists_cons_of_length_pos (by omega)
  obtain⟨y,Y2,rfl⟩:∃ y Y',Y2=y :: Y':=List.exists_cons_of_length_pos (by omega)
  simp only [List.length_cons] at hn hN hb hn0 hXY l1 l2
  have hes:A++(Y1++(x :: X2++(M++(X1++(y :: Y2++B)))))=(A++Y1)++x :: ((X2++(M++X1))++y :: (Y2++B)):=by simp
  rw [hes] at hD
  have hlt:=Hp.at_lt hD
  obtain⟨p,hp⟩:∃ p,p=a+X1.length:=⟨_,rfl⟩
  obtain⟨q,hqq⟩:∃ q,q=b+X1.length:=⟨_,rfl⟩
  have w1:IntKind.i64.wrap ((a:Int)+(X1.length:Int))=(p:Int):=by rw [hp]; exact wrap2 (by omega)
  have w2:IntKind.i64.wrap ((b:Int)+(X1.length:Int))=(q:Int):=by rw [hqq]; exact wrap2 (by omega)
  have w3:=wrapN (i:=X1.length) (by omega)
  have q1:p<N:=by omega
  have q2:q<N:=by omega
  have hne:¬p=q:=by omega
  have e1:=swap_mid (A++Y1) x (X2++(M++X1)) y (Y2++B) (p:=p) (q:=q) (by simp; omega) (by simp; omega)
  have g1:((A++Y1)++x :: ((X2++(M++X1))++y :: (Y2++B)))[p]?=some x:=get_mid _ _ _ (by simp; omega)
  have g2:((A++Y1)++x :: ((X2++(M++X1))++y :: (Y2++B)))[q]?=some y:=get_mid1 _ _ _ _ _ (by simp; omega)
  have hl:((A++Y1)++x :: ((X2++(M++X1))++y :: (Y2++B))).length=N:=by simp; omega
  generalize hE:(A++Y1)++x :: ((X2++(M++X1))++y :: (Y2++B))=es at hD e1 g1 g2 hl
  have hD':Hp.at H' o=some ⟨es.map entRow,4,45,false⟩:=hD
  have hx:∀ h:p<es.length,es[p]=x:=fun h=>Option.some.inj ((List.getElem?_eq_getElem h).symm.trans g1)
  have hy:∀ h:q<es.length,es[q]=y:=fun h=>Option.some.inj ((List.getElem?_eq_getElem h).symm.trans g2)
  simp [h0,h1,h2,h3,h10,hq,w1,w2,w3,hD',g1,g2,hx,hy,q1,q2,hne,hl,Hp.at_set,hlt,entRow]
  refine⟨m-1,by omega,X1++[x],X2,by omega,Y1++[y],Y2,by omega,by simp,by simp,by simp,hF.set (.inl rfl) _,?_⟩
  unfold Dat
  rw [Hp.at_set _ hlt,entRow_set,entRow_set,e1]
  simp
 ·have e1:X2=[]:=List.length_eq_zero_iff.1 (by omega)
  have e2:Y2=[]:=List.length_eq_zero_iff.1 (by omega)
  subst e1 e2
  simp
  exact⟨hF,by simpa using hD⟩
theorem rotate_ok (o:Nat) (cv:AV) (A U V B:List Ent) (H:Hp) (hd:Dat H o (A++(U++(V++B)))) (hU:0<U.length) (hV:0<V.length) (hn:(A++(U++(V++B))).length<1000000)
  {a m b N:Nat} (ha:a=A.length) (hm:m=A.length+U.length) (hb:b=A.length+U.length+V.length) (hN:N=(A++(U++(V++B))).length) :
  AC Tryz.prog E 211 [.sl o 0 N,.int .i64 a,.int .i64 m,.int .i64 b,cv] H (fun v H'=>v=.tu []/\Fr (fun y=>y=o) H H'/\Dat H' o (A++(V++(U++B)))):=by
 refine AC_by fol (tC_le tabJ_ok) h_slices_rotateCmpFunc_impl_Entry ?_
 simp only [List.length_append] at hn hN
 have w1:IntKind.i64.wrap ((m:Int)-(a:Int))=(U.length:Int):=by rw [wrapS (by omega) (by omega)]; congr 1; omega
 have w2:IntKind.i64.wrap ((b:Int)-(m:Int))=(V.length:Int):=by rw [wrapS (by omega) (by omega)]; congr 1; omega
 simp [c_slices_rotateCmpFunc_impl_Entry,w1,w2]
 refine W_for (fun k t H'=>∃ P U' V' S:List Ent,U'.length+V'.length=k/\0<U'.length/\0<V'.length/\t 0=.sl o 0 N/\t 2=.int .i64 m/\t 4=cv/\t 10=.int .i64 (U'.length:Nat)/\t 11=.int .i64 (V'.length:Nat)/\P.length+U'.length=m/\N=P.length+U'.length+V'.length+S.length /\
   P++(V'++(U'++S))=A++(V++(U++B))/\Fr (fun y=>y=o) H H'/\Dat H' o (P++(U'++(V'++S)))) (U.length+V.length) ?_ (tC_mono AC_mono) ?_
 ·exact⟨A,U,V,B,rfl,hU,hV,by simp,by simp,by simp,by simp,by simp,by omega,by omega,rfl,Fr.refl _ _,hd⟩
 rintro k t H' ⟨P,U',V',S,hk,u0,v0,h0,h2,h4,h10,h11,hP,hS,hI,hF,hD⟩
 have w3:IntKind.i64.wrap ((m:Int)-(U'.length:Int))=(P.length:Int):=by rw [wrapS (by omega) (by omega)]; congr 1; omega
 simp [h0,h2,h4,h10,h11]
 refine c_split (fun hq=>?_) (fun hq=>?_)<;>simp at hq
 ·simp [h0,h2,h4,h10,h11]
  refine c_split (fun hq2=>?_) (fun hq2=>?_)<;>simp at hq2
  ·obtain⟨U1,U2,rfl,hu⟩:∃ U1 U2,U'=U1++U2/\U1.length=V'.length:=⟨U'.take V'.length,U'.drop V'.length,(List.take_append_drop _ _).symm,by simp; omega⟩
   simp only [List.length_append] at hk u0 h10 hP hS w3 hq hq2
   have w4:IntKind.i64.wrap (((U1.length+U2.length:Nat):Int)-(V'.length:Int))=(U2.length:Int):=by rw [wrapS (by omega) (by omega)]; congr 1; omega
   simp only [Int.natCast_add] at w3 w4
   simp [h0,h2,h4,h10,h11,w3]
   refine cg_ex (swapRange_ok o cv P U1 U2 V' S H' (by simpa using hD) hu (by simp; omega) rfl (b:=m) (by omega) hu.symm (by simp; omega)) ?_
   rintro v H2 ⟨rfl,hF2,hD2⟩
   simp [h0,h2,h4,h10,h11,w4]
   exact⟨U2.length+U1.length,by omega,P++V',U2,U1,rfl,by omega,by omega,rfl,by rw [hu],by rw [List.length_append]; omega,S,by rw [List.length_append]; omega,by simpa using hI,hF.same hF2,by simpa using hD2⟩
  ·obtain⟨V1,V2,rfl,hv⟩:∃ V1 V2,V'=V1++V2/\V2.length=U'.length:=⟨V'.take (V'.length-U'.length),V'.drop (V'.length-U'.length),(List.take_append_drop _ _).symm,by simp; omega⟩
   simp only [List.length_append] at hk v0 h11 hS hq hq2
   have w4:IntKind.i64.wrap (((V1.length+V2.length:Nat):Int)-(U'.length:Int))=(V1.length:Int):=by rw [wrapS (by omega) (by omega)]; congr 1; omega
   have w5:IntKind.i64.wrap ((m:Int)+((V1.length+V2.length:Nat):Int))=((m+(V1.length+V2.length):Nat):Int):=wrap2 (by omega)
   have w6:IntKind.i64.wrap (((m+(V1.length+V2.length):Nat):Int)-(U'.length:Int))=((m+V1.length:Nat):Int):=by rw [wrapS (by omega) (by omega)]; congr 1; omega
   obtain⟨q,hq3⟩:∃ q,q=m+V1.length:=⟨_,rfl⟩
   rw [<- hq3] at w6
   simp only [Int.natCast_add] at w4 w5 w6
   simp [h0,h2,h4,h10,h11,w3,w5,w6]
   refine cg_ex (swapRange_ok o cv P U' V1 V2 S H' (by simpa using hD) hv.symm (by simp; omega) rfl (b:=q) (by omega) rfl (by simp; omega)) ?_
   rintro v H2 ⟨rfl,hF2,hD2⟩
   simp [h0,h2,h4,h10,h11,w4]
   exact⟨V2.length+V1.length,by omega,P,V2,V1,rfl,by omega,by omega,by rw [hv],rfl,by omega,U'++S,by rw [List.length_append]; omega,by simpa using hI,hF.same hF2,by simpa using hD2⟩
 ·simp [h0,h2,h4,h10,h11,w3]
  refine cg_ex (swapRange_ok o cv P U' [] V' S H' (by simpa using hD) (by omega) (by simp; omega) rfl (b:=m) (by simp; omega) rfl (by simp; omega)) ?_
  rintro v H2 ⟨rfl,hF2,hD2⟩
  simp
  refine⟨hF.same hF2,?_⟩
  rw [<- hI]
  simpa using hD2
end Go.Proofs.YtepeokaplbbpoaaGreat.B

namespace Go.Proofs.YtepeokaplbbpoaaGreat.B
open Go.RowKit Go.Proofs
set_option linter.unusedVariables false
set_option linter.unusedSimpArgs false
variable {E:Env}
def cmpI (x y:Ent):Int:=if ahead x y=true then -1 else if ahead y x=true then 1 else 0
theorem cmpI_neg (x y:Ent):cmpI x y<0↔ahead x y=true:=by
 unfold cmpI
 split
 ·simp_all
 ·split<;>simp_all
theorem cmp_ok (x y:Ent) (H:Hp):AC Tryz.prog E 158 [.ag (entRow x),.ag (entRow y)] H (fun v H'=>v=.int .i64 (cmpI x y)/\H'=H):=by
 refine AC_byp (tC_le tabJ_ok) h_impl_RunJoin_1 (by simp) ?_
 simp [c_impl_RunJoin_1,entRow]
 refine cg_use (before_ok x y _) ?_
 simp
 refine c_split (fun hq=>?_) (fun hq=>?_)<;>simp [hq,cmpI]
 refine cg_use (before_ok y x _) ?_
 simp
 refine c_split (fun hq2=>?_) (fun hq2=>?_)<;>simp [hq2]
theorem Srt.ins {S1 S2:List Ent} {x:Ent} (h:Srt (S1++S2)) (h1:∀ y∈S2,ahead x y=true) (h2:S1=[]\/∃ S z,S1=S++[z]/\ahead x z=false):Srt (S1++x :: S2):=by
 have:=ins_srt h (x:=x) (k:=S1.length) (by simpa using h1) (fun hk=>by
  rcases h2 with rfl | ⟨S,z,rfl,hz⟩
  ·simp at hk
  ·simpa using hz) (by simp)
 simpa using this
theorem insertion_ok (o:Nat) (A M B:List Ent) (H:Hp) (hd:Dat H o (A++(M++B))) (hn:(A++(M++B)).length<1000000) {a b N:Nat} (ha:a=A.length) (hb:b=A.length+M.length) (hN:N=(A++(M++B)).length) :
  AC Tryz.prog E 206 [.sl o 0 N,.int .i64 a,.int .i64 b,.fn 158 []] H (fun v H'=>v=.tu []/\Fr (fun y=>y=o) H H'/\∃ M',Srt M'/\M'.Perm M/\Dat H' o (A++(M'++B))):=by
 refine AC_by fol (tC_le tabJ_ok) h_slices_insertionSortCmpFunc_impl_Entry ?_
 simp only [List.length_append] at hn hN
 have wa:=wrapN (i:=a) (by omega)
 simp [c_slices_insertionSortCmpFunc_impl_Entry,wa]
 rcases M with _ | ⟨x0,M0⟩
 ·refine W_for (fun k t H'=>H'=H/\t 2=.int .i64 b/\t 8=.int .i64 ((a+1:Nat):Int)) 0 ?_ (tC_mono AC_mono) ?_
  ·simp
  ·rintro k t H' ⟨rfl,h2,h8⟩
   have hab:¬(a:Int)+1<b:=by simp at hb; omega
   simp [h2,h8,hab]
   exact⟨Fr.refl _ _,[],List.Pairwise.nil,rfl,by simpa using hd⟩
 simp only [List.length_cons] at hn hN hb
 refine W_for (fun k t H'=>∃ S R:List Ent,R.length=k/\0<S.length/\Srt S/\(S++R).Perm (x0 :: M0)/\t 0=.sl o 0 N/\t 1=.int .i64 a/\t 2=.int .i64 b/\t 3=.fn 158 []/\t 8=.int .i64 ((a+S.length:Nat):Int)/\Fr (fun y=>y=o) H H'/\Dat H' o (A++(S++(R++B)))) M0.length ?_ (tC_mono AC_mono) ?_
 ·exact⟨[x0],M0,rfl,by simp,by simp,by simp,by simp,by simp,by simp,by simp,by simp,Fr.refl _ _,by simpa using hd⟩
 rintro k t H' ⟨S,R,hk,hS0,hS,hp,h0,h1,h2,h3,h8,hF,hD⟩
 have hpl:=hp.length_eq
 simp only [List.length_append,List.length_cons] at hpl
 obtain⟨i,hi⟩:∃ i,i=a+S.length:=⟨_,rfl⟩
 rw [<- hi] at h8
 simp [h0,h1,h2,h3,h8]
 refine c_split (fun hq=>?_) (fun hq=>?_)<;>simp at hq
 ·obtain⟨x,R',rfl⟩:∃ x R',R=x :: R':=List.exists_cons_of_length_pos (by omega)
  simp only [List.length_cons] at hpl hk
  have hw:=wrapN (i:=i) (by omega)
  simp [h0,h1,h2,h3,h8]
  refine W_for (fun m t H2=>∃ S1 S2:List Ent,S1.length=m/\S=S1++S2/\(∀ y∈S2,ahead x y=true)/\t 0=.sl o 0 N/\t 1=.int .i64 a/\t 2=.int .i64 b/\t 3=.fn 158 []/\t 8=.int .i64 i/\t 9=.int .i64 ((a+S1.length:Nat):Int)/\Fr (fun y=>y=o) H H2/\Dat H2 o (A++(S1++(x :: (S2++(R'++B)))))) S.length ?_ (tC_mono AC_mono) ?_
  ·exact⟨S,[],rfl,by simp,by simp,by simp [h0],by simp [h1],by simp [h2],by simp [h3],by simp [h8],by simp [hi],hF,by simpa using hD⟩
  rintro m t H2 ⟨S1,S2,hm,rfl,hS2,h0,h1,h2,h3,h8,h9,hF,hD⟩
  simp only [List.length_append] at hpl hi hS0
  obtain⟨j,hj⟩:∃ j,j=a+S1.length:=⟨_,rfl⟩
  rw [<- hj] at h9
  have fin:(S1=[]\/∃ S z,S1=S++[z]/\ahead x z=false)->∃ S R:List Ent,R.length<k/\0<S.length/\Srt S/\(S++R).Perm (x0 :: M0)/\i+1=a+S.length/\Dat H2 o (A++(S++(R++B))):=fun h=>by
   refine⟨S1++x :: S2,R',by omega,by simp; omega,hS.ins hS2 h,?_,by simp; omega,by simpa using hD⟩
   refine List.Perm.trans ?_ hp
   have:(S1++x :: S2++R').Perm (S1++S2++x :: R'):=by
    rw [List.append_assoc,List.append_assoc]
    refine List.Perm.append_left S1 ?_
    exact List.perm_middle.symm
   exact this
  rcases List.eq_nil_or_concat S1 with rfl | ⟨S1',z,rfl⟩
  ·simp at hj
   subst hj
   obtain⟨S',R2,f1,f2,f3,f4,f5,f6⟩:=fin (.inl rfl)
   simp [h0,h1,h2,h3,h8,h9,hw]
   exact⟨R2.length,f1,S',R2,rfl,f2,f3,f4,by omega,hF,f6⟩
  ·rw [List.concat_eq_append] at hm hS hp hD hpl hi hS0 hj fin
   simp only [List.length_append,List.length_singleton] at hm hpl hi hS0 hj
   have hes:A++(S1'++[z]++(x :: (S2++(R'++B))))=(A++S1')++z :: ([]++x :: (S2++(R'++B))):=by simp
   rw [hes] at hD
   have hlt:=Hp.at_lt hD
   obtain⟨p,hpj⟩:∃ p,p=a+S1'.length:=⟨_,rfl⟩
   have w1:IntKind.i64.wrap ((j:Int)-1)=(p:Int):=by rw [wrapS1 (by omega) (by omega)]; congr 1; omega
   have q1:p<N:=by omega
   have q2:j<N:=by omega
   have q3:a<j:=by omega
   have hne:¬p=j:=by omega
   have hne2:¬j=p:=by omega
   have e1:=swap_mid' (A++S1') z [] x (S2++(R'++B)) (p:=p) (q:=j) (by simp; omega) (by simp; omega)
   have g1:((A++S1')++z :: ([]++x :: (S2++(R'++B))))[p]?=some z:=get_mid _ _ _ (by simp; omega)
   have g2:((A++S1')++z :: ([]++x :: (S2++(R'++B))))[j]?=some x:=get_mid1 _ _ _ _ _ (by simp; omega)
   have hl:((A++S1')++z :: ([]++x :: (S2++(R'++B)))).length=N:=by simp; omega
   generalize hE:(A++S1')++z :: ([]++x :: (S2++(R'++B)))=es at hD e1 g1 g2 hl
   have hD':Hp.at H2 o=some ⟨es.map entRow,4,45,false⟩:=hD
   have hx:∀ h:p<es.length,es[p]=z:=fun h=>Option.some.inj ((List.getElem?_eq_getElem h).symm.trans g1)
   have hy:∀ h:j<es.length,es[j]=x:=fun h=>Option.some.inj ((List.getElem?_eq_getElem h).symm.trans g2)
   simp [h0,h1,h2,h3,h8,h9,w1,hD',g1,g2,hx,hy,q1,q2,q3,hne,hne2,hl,Hp.at_set,hlt,entRow]
   refine cg_use (cmp_ok x z H2) ?_
   simp
   refine c_split (fun hc=>?_) (fun hc=>?_)<;>simp [cmpI_neg] at hc
   ·simp [h0,h1,h2,h3,h8,h9,w1,hD',g1,g2,hx,hy,q1,q2,q3,hne,hne2,hl,Hp.at_set,hlt,entRow]
    refine⟨S1'.length,by omega,S1',rfl,z :: S2,rfl,fun y hy=>?_,by omega,hF.set (.inl rfl) _,?_⟩
    ·rcases List.mem_cons.1 hy with rfl | hy
     ·exact hc
     ·exact hS2 y hy
    ·unfold Dat
     rw [Hp.at_set _ hlt,entRow_set,entRow_set,e1]
     simp
   ·obtain⟨S',R2,f1,f2,f3,f4,f5,f6⟩:=fin (.inr ⟨S1',z,rfl,hc⟩)
    simp [h0,h1,h2,h3,h8,h9,hw]
    exact⟨R2.length,f1,S',R2,rfl,f2,f3,f4,by omega,hF,f6⟩
 ·have e:R=[]:=List.length_eq_zero_iff.1 (by omega)
  subst e
  simp
  exact⟨hF,S,hS,by simpa using hp,by simpa using hD⟩
end Go.Proofs.YtepeokaplbbpoaaGreat.B

namespace Go.Proofs.YtepeokaplbbpoaaGreat.B
open Go.RowKit Go.Proofs
set_option linter.unusedVariables false
set_option linter.unusedSimpArgs false
variable {E:Env}
theorem W_cut {C:CallP} (hm:CMono C) {a b:CC} {Q:Ex->Tm->Hp->Prop} {t:Tm} {H:Hp} (I:Tm->Hp->Prop) (h1:W C a (thenX I Q) t H) (h2:∀ t H,I t H->W C b Q t H):W C (.seq a b) Q t H:=by
 rw [W_seq]
 refine W_mono hm a _ _ t H (fun e t' H' h=>?_) h1
 cases e with
 | normal=>exact h2 _ _ h
 | exit id=>exact h
 | ret=>exact h
theorem half_u {n:Nat} (h:n<9223372036854775808):IntKind.i64.wrap ((IntKind.u64.wrap (n:Int)).fdiv 2)=((n / 2:Nat):Int):=by
 have e:IntKind.u64.wrap (n:Int)=n:=by
  simp only [IntKind.wrap,IntKind.bits,IntKind.signed]
  simp
  omega
 rw [e,Int.fdiv_eq_ediv_of_nonneg _ (by omega),wrap64 (by omega) (by omega)]
 omega
theorem half_ij {i j:Nat} (h:i+j<9223372036854775808):IntKind.i64.wrap ((IntKind.u64.wrap (IntKind.i64.wrap ((i:Int)+(j:Int)))).fdiv 2)=(((i+j) / 2:Nat):Int):=by
 rw [wrap2 h]
 exact half_u h
theorem symLeft_ok (o:Nat) (A:List Ent) (x:Ent) (R B:List Ent) (H:Hp) (hd:Dat H o (A++(x :: (R++B)))) (hR:Srt R) (hn:(A++(x :: (R++B))).length<1000000)
  {a m b N:Nat} (ha:a=A.length) (hm:m=A.length+1) (hb:b=A.length+1+R.length) (hN:N=(A++(x :: (R++B))).length) :
  AC Tryz.prog E 207 [.sl o 0 N,.int .i64 a,.int .i64 m,.int .i64 b,.fn 158 []] H (fun v H'=>v=.tu []/\Fr (fun y=>y=o) H H'/\∃ M,Srt M/\M.Perm ([x]++R)/\Dat H' o (A++(M++B))):=by
 refine AC_by fol (tC_le tabJ_ok) h_slices_symMergeCmpFunc_impl_Entry ?_
 simp only [List.length_append,List.length_cons] at hn hN
 have w1:IntKind.i64.wrap ((m:Int)-(a:Int))=1:=by rw [wrapS (by omega) (by omega)]; omega
 have hD':Hp.at H o=some ⟨(A++(x :: (R++B))).map entRow,4,45,false⟩:=hd
 have gx:(A++(x :: (R++B)))[a]?=some x:=get_mid _ _ _ (by omega)
 have gR:∀ k,k<R.length->(A++(x :: (R++B)))[m+k]?=R[k]?:=fun k hk=>by
  rw [show A++(x :: (R++B))=(A++[x])++(R++B) by simp,List.getElem?_append_right (by simp; omega),List.getElem?_append_left (by simp; omega)]
  congr 1
  simp
  omega
 simp only [c_slices_symMergeCmpFunc_impl_Entry]
 refine W_cut (tC_mono AC_mono) (fun _ _=>False) ?_ (fun _ _ h=>h.elim)
 simp [w1]
 generalize hE:A++(x :: (R++B))=es at hd hD' gx gR
 refine W_for (fun k t H'=>∃ i j:Nat,i<=j/\j-i=k/\j<=R.length/\(i=0\/∃ g:i-1<R.length,ahead R[i-1] x=true)/\(j=R.length\/∃ g:j<R.length,ahead R[j] x=false)/\t 0=.sl o 0 N/\t 1=.int .i64 a/\t 4=.fn 158 []/\t 10=.int .i64 ((m+i:Nat):Int)/\t 11=.int .i64 ((m+j:Nat):Int)/\H'=H) R.length ?_ (tC_mono AC_mono) ?_
 ·exact⟨0,R.length,by omega,by omega,by omega,.inl rfl,.inl rfl,by simp,by simp,by simp,by simp,by simp; omega,rfl⟩
 rintro k t H' ⟨i,j,hij,hk,hj,hbi,hbj,h0,h1,h4,h10,h11,rfl⟩
 obtain⟨i',hi'⟩:∃ i',i'=m+i:=⟨_,rfl⟩
 obtain⟨j',hj'⟩:∃ j',j'=m+j:=⟨_,rfl⟩
 rw [<- hi'] at h10
 rw [<- hj'] at h11
 simp [h0,h1,h4,h10,h11]
 refine c_split (fun hq=>?_) (fun hq=>?_)<;>simp at hq
 ·have w2:=half_ij (i:=i') (j:=j') (by omega)
  obtain⟨h,hh⟩:∃ h,h=(i'+j') / 2:=⟨_,rfl⟩
  rw [<- hh] at w2
  have hlt:h<N:=by omega
  have hlt2:a<N:=by omega
  have hkR:h-m<R.length:=by omega
  have gh:es[h]?=some R[h-m]:=by
   have:=gR _ hkR
   rw [show m+(h-m)=h by omega,List.getElem?_eq_getElem hkR] at this
   exact this
  have e1:∀ g:h<es.length,es[h]=R[h-m]:=fun g=>Option.some.inj ((List.getElem?_eq_getElem g).symm.trans gh)
  have e2:∀ g:a<es.length,es[a]=x:=fun g=>Option.some.inj ((List.getElem?_eq_getElem g).symm.trans gx)
  have hw:=wrapN (i:=h) (by omega)
  simp [h0,h1,h4,h10,h11,w2,hD',gh,gx,e1,e2,hlt,hlt2,entRow]
  refine cg_use (cmp_ok R[h-m] x H') ?_
  simp
  refine c_split (fun hc=>?_) (fun hc=>?_)<;>simp [cmpI_neg] at hc
  ·simp [h0,h1,h4,h10,h11,hw]
   exact⟨j-(h-m+1),by omega,h-m+1,j,by omega,rfl,hj,.inr ⟨by omega,by simpa using hc⟩,hbj,by omega,by omega⟩
  ·simp [h0,h1,h4,h10,h11,hw]
   exact⟨h-m-i,by omega,i,h-m,by omega,rfl,by omega,hbi,.inr ⟨hkR,hc⟩,by omega,by omega⟩
 ·have hij2:i=j:=by omega
  subst hij2
  obtain⟨r1,r2⟩:=one_left hR hj hbi hbj
  simp [h0,h1,h4,h10,h11]
  have w3:IntKind.i64.wrap ((i':Int)-1)=((i'-1:Nat):Int):=wrapS1 (by omega) (by omega)
  obtain⟨l,hl⟩:∃ l,l=i'-1:=⟨_,rfl⟩
  rw [<- hl] at w3
  subst hE
  refine W_for (fun k t H2=>∃ R1 R2:List Ent,R=R1++R2/\R1.length<=i/\i-R1.length=k/\t 0=.sl o 0 N/\t 10=.int .i64 i'/\t 13=.int .i64 ((a+R1.length:Nat):Int)/\Fr (fun y=>y=o) H' H2/\Dat H2 o (A++(R1++(x :: (R2++B))))) i ?_ (tC_mono AC_mono) ?_
  ·exact⟨[],R,by simp,by simp,by simp,by simp [h0],by simp [h10],by simp,Fr.refl _ _,by simpa using hd⟩
  rintro k t H2 ⟨R1,R2,rfl,hle,hk,h0,h10,h13,hF,hD⟩
  simp only [List.length_append] at hn hN hb hj
  obtain⟨p,hp⟩:∃ p,p=a+R1.length:=⟨_,rfl⟩
  rw [<- hp] at h13
  simp [h0,h10,h13,w3]
  refine c_split (fun hq=>?_) (fun hq=>?_)<;>simp at hq
  ·obtain⟨y,R2,rfl⟩:∃ y R',R2=y :: R':=List.exists_cons_of_length_pos (by omega)
   simp only [List.length_cons] at hn hN hb hj
   have hes:A++(R1++(x :: (y :: R2++B)))=(A++R1)++x :: ([]++y :: (R2++B)):=by simp
   rw [hes] at hD
   have hlt:=Hp.at_lt hD
   obtain⟨q,hqq⟩:∃ q,q=p+1:=⟨_,rfl⟩
   have w4:IntKind.i64.wrap ((p:Int)+1)=(q:Int):=by rw [hqq]; exact wrapN (by omega)
   have q1:p<N:=by omega
   have q2:q<N:=by omega
   have hne:¬p=q:=by omega
   have hne2:¬q=p:=by omega
   have e1:=swap_mid (A++R1) x [] y (R2++B) (p:=p) (q:=q) (by simp; omega) (by simp; omega)
   have g1:((A++R1)++x :: ([]++y :: (R2++B)))[p]?=some x:=get_mid _ _ _ (by simp; omega)
   have g2:((A++R1)++x :: ([]++y :: (R2++B)))[q]?=some y:=get_mid1 _ _ _ _ _ (by simp; omega)
   have hl:((A++R1)++x :: ([]++y :: (R2++B))).length=N:=by simp; omega
   generalize hE:(A++R1)++x :: ([]++y :: (R2++B))=es at hD e1 g1 g2 hl
   have hD2:Hp.at H2 o=some ⟨es.map entRow,4,45,false⟩:=hD
   have hx:∀ h:p<es.length,es[p]=x:=fun h=>Option.some.inj ((List.getElem?_eq_getElem h).symm.trans g1)
   have hy:∀ h:q<es.length,es[q]=y:=fun h=>Option.some.inj ((List.getElem?_eq_getElem h).symm.trans g2)
   simp [h0,h10,h13,w4,hD2,g1,g2,hx,hy,q1,q2,hne,hne2,hl,Hp.at_set,hlt,entRow]
   refine⟨i-(R1.length+1),by omega,R1++[y],R2,by simp,by simp; omega,by simp,by simp; omega,hF.set (.inl rfl) _,?_⟩
   unfold Dat
   rw [Hp.at_set _ hlt,entRow_set,entRow_set,e1]
   simp
  ·have e:i=R1.length:=by omega
   subst e
   simp at r1 r2
   simp
   exact⟨hF,R1++x :: R2,r1,by simp,by simpa using hD⟩
theorem symRight_ok (o:Nat) (A:List Ent) (x:Ent) (L B:List Ent) (H:Hp) (hd:Dat H o (A++(L++(x :: B)))) (hL:Srt L) (hL2:2<=L.length) (hn:(A++(L++(x :: B))).length<1000000)
  {a m b N:Nat} (ha:a=A.length) (hm:m=A.length+L.length) (hb:b=A.length+L.length+1) (hN:N=(A++(L++(x :: B))).length) :
  AC Tryz.prog E 207 [.sl o 0 N,.int .i64 a,.int .i64 m,.int .i64 b,.fn 158 []] H (fun v H'=>v=.tu []/\Fr (fun y=>y=o) H H'/\∃ M,Srt M/\M.Perm (L++[x])/\Dat H' o (A++(M++B))):=by
 refine AC_by fol (tC_le tabJ_ok) h_slices_symMergeCmpFunc_impl_Entry ?_
 simp only [List.length_append,List.length_cons] at hn hN
 have w0:IntKind.i64.wrap ((m:Int)-(a:Int))=(L.length:Int):=by rw [wrapS (by omega) (by omega)]; omega
 have w1:IntKind.i64.wrap ((b:Int)-(m:Int))=1:=by rw [wrapS (by omega) (by omega)]; omega
 have n1:¬(L.length:Int)=1:=by omega
 have n2:¬L.length=1:=by omega
 have hD':Hp.at H o=some ⟨(A++(L++(x :: B))).map entRow,4,45,false⟩:=hd
 have gx:(A++(L++(x :: B)))[m]?=some x:=by
  rw [show A++(L++(x :: B))=(A++L)++x :: B by simp]
  exact get_mid _ _ _ (by simp; omega)
 have gL:∀ k,k<L.length->(A++(L++(x :: B)))[a+k]?=L[k]?:=fun k hk=>by
  rw [List.getElem?_append_right (by omega),List.getElem?_append_left (by omega)]
  congr 1
  omega
 simp only [c_slices_symMergeCmpFunc_impl_Entry]
 refine W_cut (tC_mono AC_mono) (fun t H'=>H'=H/\t 0=.sl o 0 N/\t 1=.int .i64 a/\t 2=.int .i64 m/\t 3=.int .i64 b/\t 4=.fn 158 []) ?_ ?_
 ·simp [w0,n1,n2]
 rintro t H' ⟨rfl,h0,h1,h2,h3,h4⟩
 refine W_cut (tC_mono AC_mono) (fun _ _=>False) ?_ (fun _ _ h=>h.elim)
 simp [h0,h1,h2,h3,h4,w1]
 generalize hE:A++(L++(x :: B))=es at hd hD' gx gL
 refine W_for (fun k t H2=>∃ i j:Nat,i<=j/\j-i=k/\j<=L.length/\(i=0\/∃ g:i-1<L.length,ahead x L[i-1]=false)/\(j=L.length\/∃ g:j<L.length,ahead x L[j]=true)/\t 0=.sl o 0 N/\t 2=.int .i64 m/\t 4=.fn 158 []/\t 14=.int .i64 ((a+i:Nat):Int)/\t 15=.int .i64 ((a+j:Nat):Int)/\H2=H') L.length ?_ (tC_mono AC_mono) ?_
 ·exact⟨0,L.length,by omega,by omega,by omega,.inl rfl,.inl rfl,by simp [h0],by simp [h2],by simp [h4],by simp [h1],by simp [h2]; omega,rfl⟩
 rintro k t H2 ⟨i,j,hij,hk,hj,hbi,hbj,h0,h2,h4,h14,h15,rfl⟩
 obtain⟨i',hi'⟩:∃ i',i'=a+i:=⟨_,rfl⟩
 obtain⟨j',hj'⟩:∃ j',j'=a+j:=⟨_,rfl⟩
 rw [<- hi'] at h14
 rw [<- hj'] at h15
 simp [h0,h2,h4,h14,h15]
 refine c_split (fun hq=>?_) (fun hq=>?_)<;>simp at hq
 ·have w2:=half_ij (i:=i') (j:=j') (by omega)
  obtain⟨h,hh⟩:∃ h,h=(i'+j') / 2:=⟨_,rfl⟩
  rw [<- hh] at w2
  have hlt:h<N:=by omega
  have hlt2:m<N:=by omega
  have hkR:h-a<L.length:=by omega
  have gh:es[h]?=some L[h-a]:=by
   have:=gL _ hkR
   rw [show a+(h-a)=h by omega,List.getElem?_eq_getElem hkR] at this
   exact this
  have e1:∀ g:h<es.length,es[h]=L[h-a]:=fun g=>Option.some.inj ((List.getElem?_eq_getElem g).symm.trans gh)
  have e2:∀ g:m<es.length,es[m]=x:=fun g=>Option.some.inj ((List.getElem?_eq_getElem g).symm.trans gx)
  have hw:=wrapN (i:=h) (by omega)
  simp [h0,h2,h4,h14,h15,w2,hD',gh,gx,e1,e2,hlt,hlt2,entRow]
  refine cg_use (cmp_ok x L[h-a] H2) ?_
  simp
  refine c_split (fun hc=>?_) (fun hc=>?_)<;>simp at hc
  ·have hc2:ahead x L[h-a]=false:=by
    cases hh2:ahead x L[h-a] with
    | false=>rfl
    | true=>have:=(cmpI_neg _ _).2 hh2; omega
   simp [h0,h2,h4,h14,h15,hw]
   exact⟨j-(h-a+1),by omega,h-a+1,j,by omega,rfl,hj,.inr ⟨by omega,by simpa using hc2⟩,hbj,by omega,by omega⟩
  ·have hc2:=(cmpI_neg _ _).1 hc
   simp [h0,h2,h4,h14,h15,hw]
   exact⟨h-a-i,by omega,i,h-a,by omega,rfl,by omega,hbi,.inr ⟨hkR,hc2⟩,by omega,by omega⟩
 ·have hij2:i=j:=by omega
  subst hij2
  obtain⟨r1,r2⟩:=one_right hL hj hbi hbj
  simp [h0,h2,h4,h14,h15]
  subst hE
  refine W_for (fun k t H3=>∃ L1 L2:List Ent,L=L1++L2/\i<=L1.length/\L1.length-i=k/\t 0=.sl o 0 N/\t 14=.int .i64 i'/\t 17=.int .i64 ((a+L1.length:Nat):Int)/\Fr (fun y=>y=o) H2 H3/\Dat H3 o (A++(L1++(x :: (L2++B))))) (L.length-i) ?_ (tC_mono AC_mono) ?_
  ·exact⟨L,[],by simp,hj,rfl,by simp [h0],by simp [h14],by simp [h2]; omega,Fr.refl _ _,hd⟩
  rintro k t H3 ⟨L1,L2,rfl,hle,hk,h0,h14,h17,hF,hD⟩
  simp only [List.length_append] at hn hN hb hj hL2 hm
  obtain⟨q,hqq⟩:∃ q,q=a+L1.length:=⟨_,rfl⟩
  rw [<- hqq] at h17
  simp [h0,h14,h17]
  refine c_split (fun hq=>?_) (fun hq=>?_)<;>simp at hq
  ·rcases List.eq_nil_or_concat L1 with rfl | ⟨L1,z,rfl⟩
   ·simp at hle hqq
    omega
   rw [List.concat_eq_append] at hD hle hk hqq hn hN hb hj hL2 hm hL r1 r2
   simp only [List.length_append,List.length_singleton] at hle hk hqq hn hN hb hj hL2 hm
   have hes:A++(L1++[z]++(x :: (L2++B)))=(A++L1)++z :: ([]++x :: (L2++B)):=by simp
   rw [hes] at hD
   have hlt:=Hp.at_lt hD
   obtain⟨p,hp⟩:∃ p,p=a+L1.length:=⟨_,rfl⟩
   have w4:IntKind.i64.wrap ((q:Int)-1)=(p:Int):=by rw [wrapS1 (by omega) (by omega)]; congr 1; omega
   have q1:p<N:=by omega
   have q2:q<N:=by omega
   have hne:¬p=q:=by omega
   have hne2:¬q=p:=by omega
   have e1:=swap_mid' (A++L1) z [] x (L2++B) (p:=p) (q:=q) (by simp; omega) (by simp; omega)
   have g1:((A++L1)++z :: ([]++x :: (L2++B)))[p]?=some z:=get_mid _ _ _ (by simp; omega)
   have g2:((A++L1)++z :: ([]++x :: (L2++B)))[q]?=some x:=get_mid1 _ _ _ _ _ (by simp; omega)
   have hl:((A++L1)++z :: ([]++x :: (L2++B))).length=N:=by simp; omega
   generalize hE:(A++L1)++z :: ([]++x :: (L2++B))=es at hD e1 g1 g2 hl
   have hD2:Hp.at H3 o=some ⟨es.map entRow,4,45,false⟩:=hD
   have hx:∀ h:p<es.length,es[p]=z:=fun h=>Option.some.inj ((List.getElem?_eq_getElem h).symm.trans g1)
   have hy:∀ h:q<es.length,es[q]=x:=fun h=>Option.some.inj ((List.getElem?_eq_getElem h).symm.trans g2)
   simp [h0,h14,h17,w4,hD2,g1,g2,hx,hy,q1,q2,hne,hne2,hl,Hp.at_set,hlt,entRow]
   refine⟨L1.length-i,by omega,L1,z :: L2,rfl,by omega,rfl,by omega,hF.set (.inl rfl) _,?_⟩
   unfold Dat
   rw [Hp.at_set _ hlt,entRow_set,entRow_set,e1]
   simp
  ·have e:i=L1.length:=by omega
   subst e
   simp at r1 r2
   simp
   exact⟨hF,L1++x :: L2,r1,by simpa using r2,by simpa using hD⟩
end Go.Proofs.YtepeokaplbbpoaaGreat.B

namespace Go.Proofs.YtepeokaplbbpoaaGreat.B
open Go.RowKit Go.Proofs
set_option linter.unusedVariables false
set_option linter.unusedSimpArgs false
variable {E:Env}
def Base (o N a m b:Nat) (t:Tm):Prop:=t 0=.sl o 0 N/\t 1=.int .i64 a/\t 2=.int .i64 m/\t 3=.int .i64 b/\t 4=.fn 158 []
def LowP (es:List Ent) (n lo s:Nat):Prop:=s=lo\/∃ x y,es[s-1]?=some x/\es[n-s]?=some y/\Le x y
def HighP (es:List Ent) (n hi r:Nat):Prop:=r=hi\/∃ x y,es[n-1-r]?=some x/\es[r]?=some y/\ahead x y=true
def HasM (H:Hp) (o:Nat) (A B X:List Ent):Prop:=∃ M,Srt M/\M.Perm X/\Dat H o (A++(M++B))
set_option maxHeartbeats 1600000 in
theorem symMerge_ok (o:Nat):∀ (k:Nat) (A L R B:List Ent) (H:Hp),L.length+R.length<=k->Dat H o (A++(L++(R++B)))->0<L.length->0<R.length->Srt L->Srt R->(A++(L++(R++B))).length<1000000 ->
  ∀ {a m b N:Nat},a=A.length->m=A.length+L.length->b=A.length+L.length+R.length->N=(A++(L++(R++B))).length ->
  AC Tryz.prog E 207 [.sl o 0 N,.int .i64 a,.int .i64 m,.int .i64 b,.fn 158 []] H (fun v H'=>v=.tu []/\Fr (fun y=>y=o) H H'/\∃ M,Srt M/\M.Perm (L++R)/\Dat H' o (A++(M++B))):=by
 intro k
 induction k with
 | zero=>intro A L R B H hk _ hL0; omega
 | succ k ih =>
 intro A L R B H hk hd hL0 hR0 hL hR hn a m b N ha hm hb hN
 by_cases hL1:L.length=1
 ·obtain⟨x,rfl⟩:=List.length_eq_one_iff.1 hL1
  exact symLeft_ok o A x R B H hd hR hn ha hm hb hN
 by_cases hR1:R.length=1
 ·obtain⟨x,rfl⟩:=List.length_eq_one_iff.1 hR1
  exact symRight_ok o A x L B H hd hL (by omega) hn ha hm hb hN
 refine AC_by fol (tC_le tabJ_ok) h_slices_symMergeCmpFunc_impl_Entry ?_
 have hD':Hp.at H o=some ⟨(A++(L++(R++B))).map entRow,4,45,false⟩:=hd
 have gL:∀ k,k<L.length->(A++(L++(R++B)))[a+k]?=L[k]?:=fun k hk=>by
  rw [List.getElem?_append_right (by omega),List.getElem?_append_left (by omega)]
  congr 1
  omega
 have gR:∀ k,k<R.length->(A++(L++(R++B)))[m+k]?=R[k]?:=fun k hk=>by
  rw [List.getElem?_append_right (by omega),List.getElem?_append_right (by omega),List.getElem?_append_left (by omega)]
  congr 1
  omega
 have hn0:=hn
 simp only [List.length_append] at hn
 have hNl:N=A.length+(L.length+(R.length+B.length)):=by rw [hN]; simp only [List.length_append]
 have w0:IntKind.i64.wrap ((m:Int)-(a:Int))=(L.length:Int):=by rw [wrapS (by omega) (by omega)]; omega
 have w1:IntKind.i64.wrap ((b:Int)-(m:Int))=(R.length:Int):=by rw [wrapS (by omega) (by omega)]; omega
 have n1:¬(L.length:Int)=1:=by omega
 have n2:¬(R.length:Int)=1:=by omega
 simp only [c_slices_symMergeCmpFunc_impl_Entry]
 refine W_cut (tC_mono AC_mono) (fun t H'=>H'=H/\Base o N a m b t) ?_ ?_
 ·simp [w0,n1,hL1,Base]
 rintro t H' ⟨rfl,h0,h1,h2,h3,h4⟩
 refine W_cut (tC_mono AC_mono) (fun t H2=>H2=H'/\Base o N a m b t) ?_ ?_
 ·simp [w1,n2,hR1,Base,h0,h1,h2,h3,h4]
 rintro t H2 ⟨rfl,h0,h1,h2,h3,h4⟩
 obtain⟨mid,hmid⟩:∃ mid,mid=(a+b) / 2:=⟨_,rfl⟩
 have w2:=half_ij (i:=a) (j:=b) (by omega)
 rw [<- hmid] at w2
 refine W_cut (tC_mono AC_mono) (fun t H3=>H3=H2/\Base o N a m b t/\t 18=.int .i64 mid) ?_ ?_
 ·simp [w2,Base,h0,h1,h2,h3,h4]
 rintro t H3 ⟨rfl,⟨h0,h1,h2,h3,h4⟩,h18⟩
 obtain⟨n,hnn⟩:∃ n,n=mid+m:=⟨_,rfl⟩
 have w3:IntKind.i64.wrap ((mid:Int)+(m:Int))=(n:Int):=by rw [hnn]; exact wrap2 (by omega)
 refine W_cut (tC_mono AC_mono) (fun t H2=>H2=H3/\Base o N a m b t/\t 18=.int .i64 mid/\t 19=.int .i64 n) ?_ ?_
 ·simp [w3,Base,h0,h1,h2,h3,h4,h18]
 rintro t H2 ⟨rfl,⟨h0,h1,h2,h3,h4⟩,h18,h19⟩
 refine W_cut (tC_mono AC_mono) (fun t H3=>H3=H2/\Base o N a m b t/\t 18=.int .i64 mid/\t 19=.int .i64 n) ?_ ?_
 ·simp [Base,h0,h1,h2,h3,h4,h18,h19]
 rintro t H3 ⟨rfl,⟨h0,h1,h2,h3,h4⟩,h18,h19⟩
 obtain⟨lo,hi,hlh⟩:∃ lo hi:Nat,(m<=mid/\lo=a/\hi=m)\/(mid<m/\lo=n-b/\hi=mid):=by
  rcases Nat.lt_or_ge mid m with h | h
  ·exact⟨n-b,mid,.inr ⟨h,rfl,rfl⟩⟩
  ·exact⟨a,m,.inl ⟨h,rfl,rfl⟩⟩
 refine W_cut (tC_mono AC_mono) (fun t H2=>H2=H3/\Base o N a m b t/\t 18=.int .i64 mid/\t 19=.int .i64 n/\t 20=.int .i64 lo/\t 21=.int .i64 hi) ?_ ?_
 ·rcases hlh with ⟨c1,c2,c3⟩ | ⟨c1,c2,c3⟩
  ·have c4:¬(mid<m):=by omega
   simp [Base,h0,h1,h2,h3,h4,h18,h19,c4,c2,c3]
  ·have w4:IntKind.i64.wrap ((n:Int)-(b:Int))=(lo:Int):=by rw [wrapS (by omega) (by omega),c2]
   simp [Base,h0,h1,h2,h3,h4,h18,h19,c1,w4,c3]
 rintro t H2 ⟨rfl,⟨h0,h1,h2,h3,h4⟩,h18,h19,h20,h21⟩
 obtain⟨p,hp⟩:∃ p,p=n-1:=⟨_,rfl⟩
 have w5:IntKind.i64.wrap ((n:Int)-1)=(p:Int):=by rw [hp]; exact wrapS1 (by omega) (by omega)
 refine W_cut (tC_mono AC_mono) (fun t H3=>H3=H2/\Base o N a m b t/\t 18=.int .i64 mid/\t 19=.int .i64 n/\t 20=.int .i64 lo/\t 21=.int .i64 hi/\t 22=.int .i64 p) ?_ ?_
 ·simp [w5,Base,h0,h1,h2,h3,h4,h18,h19,h20,h21]
 rintro t H3 ⟨rfl,⟨h0,h1,h2,h3,h4⟩,h18,h19,h20,h21,h22⟩
 -- where the parts are cut
 generalize hE:A++(L++(R++B))=es at hd hD' gL gR hN hn0
 refine W_cut (tC_mono AC_mono) (fun t H2=>H2=H3/\Base o N a m b t/\t 18=.int .i64 mid/\t 19=.int .i64 n/\∃ s:Nat,t 20=.int .i64 s/\lo<=s/\s<=hi/\LowP es n lo s/\HighP es n hi s) ?_ ?_
 ·refine W_for (fun k t H2=>∃ s r:Nat,r-s=k/\s<=r/\lo<=s/\r<=hi/\LowP es n lo s/\HighP es n hi r /\
   t 0=.sl o 0 N/\t 1=.int .i64 a/\t 2=.int .i64 m/\t 3=.int .i64 b/\t 4=.fn 158 []/\t 18=.int .i64 mid/\t 19=.int .i64 n/\t 20=.int .i64 s/\t 21=.int .i64 r/\t 22=.int .i64 p/\H2=H3) (hi-lo) ?_ (tC_mono AC_mono) ?_
  ·exact⟨lo,hi,rfl,by omega,by omega,by omega,.inl rfl,.inl rfl,h0,h1,h2,h3,h4,h18,h19,h20,h21,h22,rfl⟩
  rintro k t H2 ⟨s,r,hk,hsr,hs,hr,hps,hpr,h0,h1,h2,h3,h4,h18,h19,h20,h21,h22,rfl⟩
  simp [h0,h1,h2,h3,h4,h18,h19,h20,h21,h22]
  refine c_split (fun hq=>?_) (fun hq=>?_)<;>simp at hq
  ·have w6:=half_ij (i:=s) (j:=r) (by omega)
   obtain⟨c,hc⟩:∃ c,c=(s+r) / 2:=⟨_,rfl⟩
   rw [<- hc] at w6
   obtain⟨d,hdd⟩:∃ d,d=p-c:=⟨_,rfl⟩
   have w7:IntKind.i64.wrap ((p:Int)-(c:Int))=(d:Int):=by rw [wrapS (by omega) (by omega),hdd]
   have hcl:c<N:=by omega
   have hdl:d<N:=by omega
   obtain⟨y,gy⟩:∃ y,es[c]?=some y:=⟨_,List.getElem?_eq_getElem (by omega)⟩
   obtain⟨x,gx⟩:∃ x,es[d]?=some x:=⟨_,List.getElem?_eq_getElem (by omega)⟩
   have e1:∀ g:c<es.length,es[c]=y:=fun g=>Option.some.inj ((List.getElem?_eq_getElem g).symm.trans gy)
   have e2:∀ g:d<es.length,es[d]=x:=fun g=>Option.some.inj ((List.getElem?_eq_getElem g).symm.trans gx)
   have hw:=wrapN (i:=c) (by omega)
   simp [h0,h1,h2,h3,h4,h18,h19,h20,h21,h22,w6,w7,hD',gx,gy,e1,e2,hcl,hdl,entRow]
   refine cg_use (cmp_ok x y H2) ?_
   simp
   refine c_split (fun hc=>?_) (fun hc=>?_)<;>simp at hc
   ·have hc2:Le y x:=by
     cases hh2:ahead x y with
     | false=>exact hh2
     | true=>have:=(cmpI_neg _ _).2 hh2; omega
    simp [h0,h1,h2,h3,h4,h18,h19,h20,h21,h22,hw]
    refine⟨r-(c+1),by omega,c+1,r,rfl,by omega,by omega,hr,.inr ⟨y,x,by simpa using gy,?_,hc2⟩,hpr,by omega,rfl⟩
    rw [show n-(c+1)=d by omega]
    exact gx
   ·have hc2:=(cmpI_neg _ _).1 hc
    simp [h0,h1,h2,h3,h4,h18,h19,h20,h21,h22,hw]
    refine⟨c-s,by omega,s,c,rfl,by omega,by omega,by omega,hps,.inr ⟨x,y,?_,gy,hc2⟩,rfl,rfl⟩
    rw [show n-1-c=d by omega]
    exact gx
  ·have:s=r:=by omega
   subst this
   simp [Base,h0,h1,h2,h3,h4,h18,h19,h20,h21,h22]
   exact⟨s,rfl,hs,hr,hps,hpr⟩
 rintro t H2 ⟨rfl,⟨h0,h1,h2,h3,h4⟩,h18,h19,s,h20,hs1,hs2,hlow,hhigh⟩
 obtain⟨e,he⟩:∃ e,e=n-s:=⟨_,rfl⟩
 have w8:IntKind.i64.wrap ((n:Int)-(s:Int))=(e:Int):=by rw [wrapS (by omega) (by omega),he]
 refine W_cut (tC_mono AC_mono) (fun t H3=>H3=H2/\Base o N a m b t/\t 18=.int .i64 mid/\t 20=.int .i64 s/\t 24=.int .i64 e) ?_ ?_
 ·simp [w8,Base,h0,h1,h2,h3,h4,h18,h19,h20]
 rintro t H3 ⟨rfl,⟨h0,h1,h2,h3,h4⟩,h18,h20,h24⟩
 obtain⟨c12,c21⟩:=sym_cut hL hR (p:=s-a) (q:=e-m) (by
  by_cases hz:s-a=0
  ·exact .inl hz
  by_cases hy:e-m=R.length
  ·exact .inr (.inl hy)
  rcases hlow with h | ⟨x,y,gx,gy,hxy⟩
  ·exfalso
   omega
  ·refine .inr (.inr ⟨x,y,?_,?_,hxy⟩)
   ·rw [<- gL _ (by omega),show a+(s-a-1)=s-1 by omega]
    exact gx
   ·rw [<- gR _ (by omega),show m+(e-m)=n-s by omega]
    exact gy) (by
  by_cases hz:s-a=L.length
  ·exact .inl hz
  by_cases hy:e-m=0
  ·exact .inr (.inl hy)
  rcases hhigh with h | ⟨x,y,gx,gy,hxy⟩
  ·exfalso
   omega
  ·refine .inr (.inr ⟨x,y,?_,?_,hxy⟩)
   ·rw [<- gR _ (by omega),show m+(e-m-1)=n-1-s by omega]
    exact gx
   ·rw [<- gL _ (by omega),show a+(s-a)=s by omega]
    exact gy)
 have hLe:L=L.take (s-a)++L.drop (s-a):=(List.take_append_drop _ _).symm
 have hRe:R=R.take (e-m)++R.drop (e-m):=(List.take_append_drop _ _).symm
 have k1:(L.take (s-a)).length=s-a:=by rw [List.length_take]; omega
 have k2:(L.drop (s-a)).length=m-s:=by rw [List.length_drop]; omega
 have k3:(R.take (e-m)).length=e-m:=by rw [List.length_take]; omega
 have k4:(R.drop (e-m)).length=b-e:=by rw [List.length_drop]; omega
 generalize L.take (s-a)=l1 at c12 c21 hLe k1
 generalize L.drop (s-a)=l2 at c12 c21 hLe k2
 generalize R.take (e-m)=r1 at c12 c21 hRe k3
 generalize R.drop (e-m)=r2 at c12 c21 hRe k4
 have hd0:Dat H3 o (A++(l1++(l2++(r1++(r2++B))))):=by
  rw [hLe,hRe] at hE
  rw [<- hE] at hd
  simpa using hd
 have hNs:N=A.length+(l1.length+(l2.length+(r1.length+(r2.length+B.length)))):=by omega
 have hsl:=(hLe ▸ hL:Srt (l1++l2))
 have hsr:=(hRe ▸ hR:Srt (r1++r2))
 refine W_cut (tC_mono AC_mono) (fun t H2=>Base o N a m b t/\t 18=.int .i64 mid/\t 20=.int .i64 s/\t 24=.int .i64 e/\Fr (fun y=>y=o) H3 H2/\Dat H2 o (A++(l1++(r1++(l2++(r2++B)))))) ?_ ?_
 ·by_cases d1:s<m
  ·by_cases d2:m<e
   ·simp [h0,h1,h2,h3,h4,h18,h20,h24,d1,d2]
    refine cg_ex (rotate_ok o _ (A++l1) l2 r1 (r2++B) H3 (by simpa using hd0) (by omega) (by omega) (by simp; omega) (a:=s) (m:=m) (b:=e) (by simp; omega) (by simp; omega) (by simp; omega) (by simp; omega)) ?_
    rintro v H4 ⟨rfl,hF,hD⟩
    simp [Base,h0,h1,h2,h3,h4,h18,h20,h24]
    exact⟨hF,by simpa using hD⟩
   ·have:r1=[]:=List.length_eq_zero_iff.1 (by omega)
    subst this
    simp [Base,h0,h1,h2,h3,h4,h18,h20,h24,d1,d2]
    exact⟨Fr.refl _ _,by simpa using hd0⟩
  ·have:l2=[]:=List.length_eq_zero_iff.1 (by omega)
   subst this
   simp [Base,h0,h1,h2,h3,h4,h18,h20,h24,d1]
   exact⟨Fr.refl _ _,by simpa using hd0⟩
 rintro t H4 ⟨⟨h0,h1,h2,h3,h4⟩,h18,h20,h24,hF4,hD4⟩
 refine W_cut (tC_mono AC_mono) (fun t H2=>Base o N a m b t/\t 18=.int .i64 mid/\t 24=.int .i64 e/\Fr (fun y=>y=o) H3 H2/\HasM H2 o A (l2++(r2++B)) (l1++r1)) ?_ ?_
 ·by_cases d1:a<s
  ·by_cases d2:s<mid
   ·simp [h0,h1,h2,h3,h4,h18,h20,h24,d1,d2]
    refine cg_ex (ih A l1 r1 (l2++(r2++B)) H4 (by omega) (by simpa using hD4) (by omega) (by omega) hsl.left hsr.left (by simp; omega) (a:=a) (m:=s) (b:=mid) ha (by omega) (by omega) (by simp; omega)) ?_
    rintro v H5 ⟨rfl,hF,hM⟩
    simp [Base,h0,h1,h2,h3,h4,h18,h20,h24]
    exact⟨hF4.same hF,hM⟩
   ·have:r1=[]:=List.length_eq_zero_iff.1 (by omega)
    subst this
    simp [Base,h0,h1,h2,h3,h4,h18,h20,h24,d1,d2]
    exact⟨hF4,l1,hsl.left,by simp,by simpa using hD4⟩
  ·have:l1=[]:=List.length_eq_zero_iff.1 (by omega)
   subst this
   simp [Base,h0,h1,h2,h3,h4,h18,h20,h24,d1]
   exact⟨hF4,r1,hsr.left,by simp,by simpa using hD4⟩
 rintro t H5 ⟨⟨h0,h1,h2,h3,h4⟩,h18,h24,hF5,M1,g1,g2,hD5⟩
 have hM1:=g2.length_eq
 simp only [List.length_append] at hM1
 have fin:∀ H6,Fr (fun y=>y=o) H5 H6->HasM H6 o (A++M1) B (l2++r2)->Fr (fun y=>y=o) H3 H6/\∃ M,Srt M/\M.Perm (L++R)/\Dat H6 o (A++(M++B)):=by
  rintro H6 hF ⟨M2,f1,f2,f3⟩
  obtain⟨z1,z2⟩:=merge_step hsl hsr c12 c21 g1 f1 g2 f2
  refine⟨hF5.same hF,M1++M2,z1,?_,by simpa using f3⟩
  rw [hLe,hRe]
  exact z2
 by_cases d1:mid<e
 ·by_cases d2:e<b
  ·simp [h0,h1,h2,h3,h4,h18,h24,d1,d2]
   refine cg_ex (ih (A++M1) l2 r2 B H5 (by omega) (by simpa using hD5) (by omega) (by omega) hsl.right hsr.right (by simp; omega) (a:=mid) (m:=e) (b:=b) (by simp; omega) (by simp; omega) (by simp; omega) (by simp; omega)) ?_
   rintro v H6 ⟨rfl,hF,hM⟩
   simp
   exact fin H6 hF hM
  ·have:r2=[]:=List.length_eq_zero_iff.1 (by omega)
   subst this
   simp [h0,h1,h2,h3,h4,h18,h24,d1,d2]
   exact fin H5 (Fr.refl _ _) ⟨l2,hsl.right,by simp,by simpa using hD5⟩
 ·have:l2=[]:=List.length_eq_zero_iff.1 (by omega)
  subst this
  simp [h0,h1,h2,h3,h4,h18,h24,d1]
  exact fin H5 (Fr.refl _ _) ⟨r2,hsr.right,by simp,by simpa using hD5⟩
end Go.Proofs.YtepeokaplbbpoaaGreat.B

namespace Go.Proofs.YtepeokaplbbpoaaGreat.B
open Go.RowKit Go.Proofs
set_option linter.unusedVariables false
set_option linter.unusedSimpArgs false
variable {E:Env}
inductive Ch (bs:Nat):List Ent->Prop
 | nil:Ch bs []
 | cons {L X:List Ent}:Srt L->L.length=bs->Ch bs X->Ch bs (L++X)
theorem Ch.snoc {bs:Nat} {X M:List Ent} (h:Ch bs X) (hM:Srt M) (hl:M.length=bs):Ch bs (X++M):=by
 induction h with
 | nil=>simpa using Ch.cons hM hl .nil
 | cons h1 h2 _ ih =>
  rw [List.append_assoc]
  exact .cons h1 h2 ih
theorem Ch.split {bs:Nat} {X:List Ent} (h:Ch bs X):X=[]\/∃ L X',X=L++X'/\Srt L/\L.length=bs/\Ch bs X':=by
 cases h with
 | nil=>exact .inl rfl
 | cons h1 h2 h3=>exact .inr ⟨_,_,rfl,h1,h2,h3⟩
def Blk (bs:Nat) (l:List Ent):Prop:=∃ X last,l=X++last/\Ch bs X/\Srt last/\last.length<bs
def DatP (H:Hp) (o:Nat) (es:List Ent) (P:List Ent->Prop):Prop:=∃ l,Dat H o l/\l.Perm es/\P l
theorem stable_ok (o:Nat) (es:List Ent) (H:Hp) (hd:Dat H o es) (hn:es.length<500000) {N:Nat} (hN:N=es.length) :
  AC Tryz.prog E 190 [.sl o 0 N,.int .i64 N,.fn 158 []] H (fun v H'=>v=.tu []/\Fr (fun y=>y=o) H H'/\DatP H' o es Srt):=by
 refine AC_by fol (tC_le tabJ_ok) h_slices_stableCmpFunc_impl_Entry ?_
 simp [c_slices_stableCmpFunc_impl_Entry]
 refine W_for (fun k t H'=>∃ X R:List Ent,R.length=k/\Ch 20 X/\(X++R).Perm es/\t 0=.sl o 0 N/\t 1=.int .i64 N/\t 2=.fn 158 []/\t 6=.int .i64 20/\t 7=.int .i64 (X.length:Nat)/\t 8=.int .i64 ((X.length+20:Nat):Int)/\Fr (fun y=>y=o) H H'/\Dat H' o (X++R)) es.length ?_ (tC_mono AC_mono) ?_
 ·exact⟨[],es,rfl,.nil,by simp,by simp,by simp,by simp,by simp,by simp,by simp,Fr.refl _ _,hd⟩
 rintro k t H' ⟨X,R,hk,hX,hp,h0,h1,h2,h6,h7,h8,hF,hD⟩
 have hpl:=hp.length_eq
 simp only [List.length_append] at hpl
 obtain⟨b,hb⟩:∃ b,b=X.length+20:=⟨_,rfl⟩
 rw [<- hb] at h8
 simp [h0,h1,h2,h6,h7,h8]
 refine c_split (fun hq=>?_) (fun hq=>?_)<;>simp at hq
 ·obtain⟨M,B,rfl,hM⟩:∃ M B,R=M++B/\M.length=20:=⟨R.take 20,R.drop 20,(List.take_append_drop _ _).symm,by rw [List.length_take]; omega⟩
  have w1:IntKind.i64.wrap ((b:Int)+20)=((b+20:Nat):Int):=wrap2 (a:=b) (b:=20) (by omega)
  simp only [List.length_append] at hk hpl
  simp [h0,h1,h2,h6,h7,h8]
  refine cg_ex (insertion_ok o X M B H' hD (by simp only [List.length_append]; omega) (a:=X.length) (b:=b) (N:=N) rfl (by omega) (by simp only [List.length_append]; omega)) ?_
  rintro v H2 ⟨rfl,hF2,M',m1,m2,hD2⟩
  have hl:=m2.length_eq
  simp [h0,h1,h2,h6,h7,h8,w1]
  refine⟨B.length,by omega,X++M',B,rfl,hX.snoc m1 (by omega),?_,by simp only [List.length_append]; omega,hF.same hF2,by simpa using hD2⟩
  refine List.Perm.trans ?_ hp
  rw [List.append_assoc]
  exact (m2.append_right B).append_left X
 ·simp [h0,h1,h2,h6,h7,h8]
  refine cg_ex (insertion_ok o X R [] H' (by simpa using hD) (by simp only [List.length_append,List.length_nil]; omega) (a:=X.length) (b:=N) (N:=N) rfl (by omega) (by simp only [List.length_append,List.length_nil]; omega)) ?_
  rintro v H2 ⟨rfl,hF2,M',m1,m2,hD2⟩
  have hl:=m2.length_eq
  simp [h0,h1,h2,h6,h7,h8]
  refine W_for (fun k t H3=>∃ bs:Nat,N-bs=k/\20<=bs/\bs<1000000/\t 0=.sl o 0 N/\t 1=.int .i64 N/\t 2=.fn 158 []/\t 6=.int .i64 bs/\Fr (fun y=>y=o) H H3/\DatP H3 o es (Blk bs)) (N-20) ?_ (tC_mono AC_mono) ?_
  ·refine⟨20,rfl,by omega,by omega,by simp [h0],by simp [h1],by simp [h2],by simp [h6],hF.same hF2,X++M',by simpa using hD2,?_,X,M',rfl,hX,m1,by omega⟩
   exact (m2.append_left X).trans hp
  clear hp hpl hX hD hF hF2 hD2 m1 m2 hl
  rintro k t H3 ⟨bs,hk,hb1,hb2,h0,h1,h2,h6,hF,l,hD,hp,X,last,rfl,hX,hla,hll⟩
  have hpl:=hp.length_eq
  simp only [List.length_append] at hpl
  simp [h0,h1,h2,h6]
  refine c_split (fun hq=>?_) (fun hq=>?_)<;>simp at hq
  ·have w2:IntKind.i64.wrap (2 * (bs:Int))=((2 * bs:Nat):Int):=by rw [wrap64 (by omega) (by omega)]; omega
   obtain⟨bs2,hbs2⟩:∃ b,b=2 * bs:=⟨_,rfl⟩
   rw [<- hbs2] at w2
   simp [h0,h1,h2,h6,w2]
   refine W_for (fun k t H4=>∃ Y Z last:List Ent,Z.length=k/\Ch bs2 Y/\Ch bs Z/\Srt last/\last.length<bs/\(Y++(Z++last)).Perm es/\t 0=.sl o 0 N/\t 1=.int .i64 N/\t 2=.fn 158 []/\t 6=.int .i64 bs/\t 7=.int .i64 (Y.length:Nat)/\t 8=.int .i64 ((Y.length+bs2:Nat):Int)/\Fr (fun y=>y=o) H H4/\Dat H4 o (Y++(Z++last))) X.length ?_ (tC_mono AC_mono) ?_
   ·exact⟨[],X,last,rfl,.nil,hX,hla,hll,by simpa using hp,by simp [h0],by simp [h1],by simp [h2],by simp [h6],by simp,by simp,hF,by simpa using hD⟩
   clear hp hpl hX hla hll hD hF
   rintro k2 t H4 ⟨Y,Z,last,hk2,hY,hZ,hla,hll,hp,h0,h1,h2,h6,h7,h8,hF,hD⟩
   have hpl:=hp.length_eq
   simp only [List.length_append] at hpl
   obtain⟨b,hb⟩:∃ b,b=Y.length+bs2:=⟨_,rfl⟩
   rw [<- hb] at h8
   have w3:IntKind.i64.wrap ((Y.length:Int)+(bs:Int))=((Y.length+bs:Nat):Int):=wrap2 (by omega)
   obtain⟨m,hm⟩:∃ m,m=Y.length+bs:=⟨_,rfl⟩
   rw [<- hm] at w3
   simp [h0,h1,h2,h6,h7,h8]
   refine c_split (fun hq2=>?_) (fun hq2=>?_)<;>simp at hq2
   ·have w4:IntKind.i64.wrap ((b:Int)+(bs2:Int))=((b+bs2:Nat):Int):=wrap2 (by omega)
    rcases hZ.split with rfl | ⟨L,Z1,rfl,sL,lL,hZ1⟩
    ·simp at hpl
     omega
    rcases hZ1.split with rfl | ⟨R,Z2,rfl,sR,lR,hZ2⟩
    ·simp at hpl
     omega
    simp only [List.length_append] at hpl hk2
    simp [h0,h1,h2,h6,h7,h8,w3]
    refine cg_ex (symMerge_ok o (L.length+R.length) Y L R (Z2++last) H4 (Nat.le_refl _) (by simpa using hD) (by omega) (by omega) sL sR (by simp only [List.length_append]; omega) (a:=Y.length) (m:=m) (b:=b) (N:=N) rfl (by omega) (by omega) (by simp only [List.length_append]; omega)) ?_
    rintro v H5 ⟨rfl,hF5,M,m1,m2,hD5⟩
    have hl:=m2.length_eq
    simp only [List.length_append] at hl
    simp [h0,h1,h2,h6,h7,h8,w2,w4]
    refine⟨Z2.length,by omega,Y++M,Z2,rfl,hY.snoc m1 (by omega),hZ2,last,hla,hll,?_,by simp only [List.length_append]; omega,hF.same hF5,by simpa using hD5⟩
    refine List.Perm.trans ?_ hp
    have:(Y++M++(Z2++last)).Perm (Y++(L++R)++(Z2++last)):=(m2.append_left Y).append_right _
    simpa using this
   ·have w5:IntKind.i64.wrap ((bs:Int) * 2)=(bs2:Int):=by rw [wrap64 (by omega) (by omega)]; omega
    simp [h0,h1,h2,h6,h7,h8,w3]
    refine c_split (fun hq3=>?_) (fun hq3=>?_)<;>simp at hq3
    ·rcases hZ.split with rfl | ⟨L,Z1,rfl,sL,lL,hZ1⟩
     ·simp at hpl
      omega
     have hz:Z1=[]:=by
      rcases hZ1.split with h | ⟨R,Z2,rfl,sR,lR,hZ2⟩
      ·exact h
      ·simp only [List.length_append] at hpl
       omega
     subst hz
     simp only [List.append_nil,List.length_append,List.length_nil] at hpl hk2 hD hp
     simp [h0,h1,h2,h6,h7,h8]
     refine cg_ex (symMerge_ok o (L.length+last.length) Y L last [] H4 (Nat.le_refl _) (by simpa using hD) (by omega) (by omega) sL hla (by simp only [List.length_append,List.length_nil]; omega) (a:=Y.length) (m:=m) (b:=N) (N:=N) rfl (by omega) (by omega) (by simp only [List.length_append,List.length_nil]; omega)) ?_
     rintro v H5 ⟨rfl,hF5,M,m1,m2,hD5⟩
     have hl:=m2.length_eq
     simp only [List.length_append] at hl
     simp [h0,h1,h2,h6,h7,h8,w5]
     refine⟨N-bs2,by omega,bs2,rfl,by omega,by omega,rfl,hF.same hF5,Y++M,by simpa using hD5,(m2.append_left Y).trans hp,Y,M,rfl,hY,m1,by omega⟩
    ·simp [h0,h1,h2,h6,h7,h8,w5]
     refine⟨N-bs2,by omega,bs2,rfl,by omega,by omega,rfl,hF,Y++(Z++last),hD,hp,?_⟩
     rcases hZ.split with rfl | ⟨L,Z1,rfl,sL,lL,hZ1⟩
     ·exact⟨Y,last,by simp,hY,hla,by omega⟩
     ·simp only [List.length_append] at hpl
      have e1:Z1=[]:=List.length_eq_zero_iff.1 (by omega)
      have e2:last=[]:=List.length_eq_zero_iff.1 (by omega)
      subst e1 e2
      exact⟨Y,L,by simp,hY,sL,by omega⟩
  ·simp
   refine⟨hF,X++last,hD,hp,?_⟩
   rcases hX.split with rfl | ⟨L,Z1,rfl,sL,lL,hZ1⟩
   ·simpa using hla
   ·simp only [List.length_append] at hpl
    have e1:Z1=[]:=List.length_eq_zero_iff.1 (by omega)
    have e2:last=[]:=List.length_eq_zero_iff.1 (by omega)
    subst e1 e2
    simpa using sL
end Go.Proofs.YtepeokaplbbpoaaGreat.B

namespace Go.Proofs.YtepeokaplbbpoaaGreat.B
open Go.RowKit
set_option linter.unusedVariables false
set_option linter.unusedSimpArgs false
def gGa (x:AV) (g:Nat) (b:Bool) (C:CallP) (d:Option Nat) (op:AOp) (ag:List (Option Nat × AOp × Option (Nat × Bool))) (p:Plan) (t:Tm) (H:Hp) (K:Tm->Hp->Prop):Prop :=
 match x with
 | .bool r=>(r=b->RgP C (.st d op none ag p) t H K)/\(r=!b->againG ag (updO t d .un) H/\RgP C p (updO t d .un) H K)
 | .un=>againG ag (updO t d .un) H/\RgP C p (updO t d .un) H K
 | _=>False
section
variable (C:CallP) (t:Tm) (H:Hp) (K:Tm->Hp->Prop) (g:Nat) (d:Option Nat) (op:AOp) (q:Option Nat × AOp × Option (Nat × Bool)) (ag:List (Option Nat × AOp × Option (Nat × Bool))) (p:Plan)
@[simp] theorem RgP_gag (b:Bool):RgP C (.st d op (some (g,b)) (q :: ag) p) t H K=gGa (t g) g b C d op (q :: ag) p t H K:=by
 simp only [RgP,roK,want,gGa,againG]
 generalize t g=x
 cases x<;>try rfl
 rename_i r
 cases r<;>cases b<;>simp
@[simp] theorem gGa_tt:gGa (.bool true) g true C d op ag p t H K=RgP C (.st d op none ag p) t H K:=by simp [gGa]
@[simp] theorem gGa_tf:gGa (.bool true) g false C d op ag p t H K=(againG ag (updO t d .un) H/\RgP C p (updO t d .un) H K):=by simp [gGa]
@[simp] theorem gGa_ft:gGa (.bool false) g true C d op ag p t H K=(againG ag (updO t d .un) H/\RgP C p (updO t d .un) H K):=by simp [gGa]
@[simp] theorem gGa_ff:gGa (.bool false) g false C d op ag p t H K=RgP C (.st d op none ag p) t H K:=by simp [gGa]
@[simp] theorem gGa_un (b:Bool):gGa .un g b C d op ag p t H K=(againG ag (updO t d .un) H/\RgP C p (updO t d .un) H K):=rfl
end
def pG (x:AV) (b:Bool) (t:Tm) (H:Hp) (d:Nat) (op:AOp):Prop :=
 match x with
 | .bool r=>(r=b->stepC t H op/\t d=stepV t H op)/\(r=!b->t d=.un)
 | .un=>t d=.un
 | _=>False
@[simp] theorem pend1_g (t:Tm) (H:Hp) (d:Nat) (op:AOp) (g:Nat) (b:Bool) (l:List Nat):pend1 t H ⟨some d,op,some (g,b),l⟩=pG (t g) b t H d op:=by
 have key:pend1 t H ⟨some d,op,none,l⟩=(stepC t H op/\t d=stepV t H op):=pend1_n t H d op l
 simp only [pend1,roA,want] at key
 simp only [pend1,roA,want,pG]
 generalize t g=x
 cases x<;>simp
 ·rename_i r
  cases r<;>cases b<;>simp at key ⊢<;>first | exact key | exact eq_comm
@[simp] theorem pG_tt (t:Tm) (H:Hp) (d:Nat) (op:AOp):pG (.bool true) true t H d op=(stepC t H op/\t d=stepV t H op):=by simp [pG]
@[simp] theorem pG_tf (t:Tm) (H:Hp) (d:Nat) (op:AOp):pG (.bool true) false t H d op=(t d=.un):=by simp [pG]
@[simp] theorem pG_ft (t:Tm) (H:Hp) (d:Nat) (op:AOp):pG (.bool false) true t H d op=(t d=.un):=by simp [pG]
@[simp] theorem pG_ff (t:Tm) (H:Hp) (d:Nat) (op:AOp):pG (.bool false) false t H d op=(stepC t H op/\t d=stepV t H op):=by simp [pG]
@[simp] theorem pG_un (b:Bool) (t:Tm) (H:Hp) (d:Nat) (op:AOp):pG .un b t H d op=(t d=.un):=rfl
end Go.Proofs.YtepeokaplbbpoaaGreat.B

namespace Go.Proofs.YtepeokaplbbpoaaGreat.B
open Go.RowKit Go.Proofs
set_option linter.unusedVariables false
set_option linter.unusedSimpArgs false
variable {E:Env}
def LvRow (H:Hp) (row:List AV) (es:List Ent):Prop:=∃ u,row=[u]/\Ents H u es
def SvRow (H:Hp) (X:Nat->Prop) (row:List AV) (s:Sv):Prop:=∃ r,row=[.str s.l,.str s.m,.str s.f,r,.int .i64 s.k]/\Strs H r s.r/\∀ x,r.of x->¬X x
def stAV (a b c:AV) (s:Sr) (d:AV):AV:=.ag [a,b,c,.int .i64 s.keep,.int .i64 s.time,d]
def St (H:Hp) (v:AV) (s:Sr):Prop:=∃ a b c d lr sr,v=stAV a b c s d/\Ents H a s.top/\Rows 1 H b lr/\All2 (LvRow H) lr s.lev/\Rows 5 H c sr/\All2 (SvRow H (fun _=>False)) sr s.sv/\Ints H d s.tms
def EsB (es:List Ent):Prop:=es.length<1099511627776/\Fits es
def StB (s:Sr):Prop:=EsB s.top/\(∀ es∈s.lev,EsB es)/\s.lev.length<1099511627776/\s.sv.length<1099511627776/\s.tms.length<1099511627776/\(∀ x∈s.sv,x.r.length<1099511627776)/\I64 s.time/\I64 s.keep/\(∀ t∈s.tms,I64 t)
theorem LvRow.le {H H':Hp} (hle:HLe H H') {row:List AV} {es:List Ent} (h:LvRow H row es):LvRow H' row es:=by
 obtain⟨u,h1,h2⟩:=h
 exact⟨u,h1,h2.le hle⟩
theorem SvRow.le {H H':Hp} (hle:HLe H H') {X:Nat->Prop} {row:List AV} {s:Sv} (h:SvRow H X row s):SvRow H' X row s:=by
 obtain⟨u,h1,h2,h3⟩:=h
 exact⟨u,h1,h2.le hle,h3⟩
theorem St.le {H H':Hp} {v:AV} {s:Sr} (h:St H v s) (hle:HLe H H'):St H' v s:=by
 obtain⟨a,b,c,d,lr,sr,h1,h2,h3,h4,h5,h6,h7⟩:=h
 exact⟨a,b,c,d,lr,sr,h1,h2.le hle,h3.le hle,All2.mono (fun _ _=>LvRow.le hle) h4,h5.le hle,All2.mono (fun _ _=>SvRow.le hle) h6,h7.le hle⟩
theorem l3Sames_ok (a b:AV) (xs ys:List ByteArray) (H:Hp) (ha:Strs H a xs) (hb:Strs H b ys) (hx:xs.length<4611686018427387904):AC Tryz.prog E 131 [a,b] H (fun v H'=>v=.bool (decide (xs=ys))/\H'=H):=by
 refine AC_byp (tC_le tab2_ok) h_spec_l3Sames (by simp) ?_
 have l1:=ha.len
 have l2:=hb.len
 simp [c_spec_l3Sames,l1,l2,ha.slc,hb.slc]
 refine c_split (fun hq=>?_) (fun hq=>?_)<;>simp at hq<;>simp
 ·intro h
  subst h
  exact hq rfl
 ·refine W_for (fun k t H'=>∃ i:Nat,i+k=xs.length/\t 0=a/\t 1=b/\t 5=.int .i64 i/\(∀ j:Nat,j<i->xs[j]?=ys[j]?)/\HLe H H') xs.length ?_ (tC_mono AC_mono) ?_
  ·exact⟨0,by simp⟩
  rintro k t H' ⟨i,hik,h0,h1,h5,hI,hle⟩
  simp [h0,h1,h5,l1,ha.slc]
  refine c_split (fun hq2=>?_) (fun hq2=>?_)<;>simp at hq2
  ·have hw:=wrapN (i:=i) (by omega)
   obtain⟨o1,i1,ob1,rfl,a1,a2,a3⟩:=(ha.le hle).get hq2
   obtain⟨o2,i2,ob2,rfl,b1,b2,b3⟩:=(hb.le hle).get (j:=i) (by omega)
   simp [h0,h1,h5,a1,a2,a3,b1,b2,b3,hq2,<- hq]
   refine c_split (fun hq3=>?_) (fun hq3=>?_)<;>simp at hq3<;>simp [h0,h1,h5,hw,hle]
   ·intro h
    subst h
    exact hq3 rfl
   ·refine⟨k-1,by omega,i+1,by omega,rfl,fun j hj=>?_⟩
    rcases Nat.lt_or_ge j i with h | h
    ·exact hI j h
    ·have:j=i:=by omega
     subst this
     rw [List.getElem?_eq_getElem hq2,List.getElem?_eq_getElem (by omega),hq3]
  ·simp [hle]
   apply List.ext_getElem?
   intro j
   rcases Nat.lt_or_ge j i with h | h
   ·exact hI j h
   ·rw [List.getElem?_eq_none (by omega),List.getElem?_eq_none (by omega)]
theorem keysR_short {r:List Ent} (h:Fits r):∀ k∈keysR r,k.size<4611686018427387904:=by
 intro k hk
 obtain⟨e,he,rfl⟩:=keys1_mem _ _ _ hk
 exact (h e he).1
theorem keysR_len (r:List Ent):(keysR r).length<=r.length:=keys1_len none r
theorem l12Level_ok (v:AV) (s:Sr) (i:Nat) (H:Hp) (hs:St H v s) (hb:StB s) (hi:i<s.lev.length) (hi2:i<s.sv.length) (hi3:i<1000) :
  AC Tryz.prog E 91 [v,.int .i64 i] H (fun u H'=>u=.bool (levelOk s i)/\H'=H):=by
 obtain⟨a,b,c,d,lr,sr,rfl,ha,hb1,hlr,hc,hsr,hd⟩:=hs
 obtain⟨hB1,hB2,hB3,hB4,hB5,hB6,hB7,hB8,hB9⟩:=hb
 refine AC_byp (tC_le tab2_ok) h_spec_l12Level (by simp) ?_
 have hil:i<lr.length:=by rw [hlr.length]; exact hi
 have his:i<sr.length:=by rw [hsr.length]; exact hi2
 obtain⟨o1,i1,ob1,rfl,c1,c2,c3⟩:=hb1.get hil
 obtain⟨o2,i2,ob2,rfl,e1,e2,e3⟩:=hc.get his
 obtain⟨u,hu,hue⟩:=hlr.get i hil hi
 obtain⟨r,hr,hrs,-⟩:=hsr.get i his hi2
 rw [hu] at c3
 rw [hr] at e3
 have hg1:s.lev.getD i []=s.lev[i]:=by simp [hi]
 have hg2:s.sv.getD i default=s.sv[i]:=by simp [hi2]
 have hes:=hB2 _ (List.getElem_mem hi)
 simp only [levelOk,hg1,hg2]
 generalize s.lev[i]=es at hue hes
 generalize s.sv[i]=y at hr hrs e3
 have hlt1:=Hp.at_lt c1
 have hlt2:=Hp.at_lt e1
 have g1:∀ l,Hp.at (H++l) o1=some ob1:=fun l=>(Hp.at_app l hlt1).trans c1
 have g2:∀ l,Hp.at (H++l) o2=some ob2:=fun l=>(Hp.at_app l hlt2).trans e1
 obtain⟨H1,hH1⟩:∃ H1,H1=H++[some ⟨[[a,.sl o1 i1 lr.length,.sl o2 i2 sr.length,.int .i64 s.keep,.int .i64 s.time,d]],6,28,false⟩]:=⟨_,rfl⟩
 have hle1:HLe H H1:=by rw [hH1]; exact HLe.self _ _
 have k0:H1.at H.length=some ⟨[[a,.sl o1 i1 lr.length,.sl o2 i2 sr.length,.int .i64 s.keep,.int .i64 s.time,d]],6,28,false⟩:=by rw [hH1]; simp
 have k1:=hle1.2 _ _ c1
 have k2:=hle1.2 _ _ e1
 have hks:=keysR_short hes.2
 have hkl:=keysR_len es
 simp [c_spec_l12Level,stAV,ha.one,hd.one,<- hH1,k0,hil,k1,c2,c3]
 refine cg_use (RunOk_ok u es H1 (hue.le hle1) hes.2.short (by have:=hes.1; omega)) ?_
 cases hro:runOk es with
 | false=>simp [hle1]
 | true =>
  have lu:=hue.len
  simp [k0,hil,k1,c2,c3,lu,hue.slc]
  refine cg_use (l12Size_ok i H1 (by omega)) ?_
  simp [k0,hil,k1,c2,c3]
  refine c_split (fun hq=>?_) (fun hq=>?_)<;>simp at hq
  ·simp [hle1]
   omega
  ·have hsz:es.length<=sizeL i:=by omega
   simp [k0,hil,k1,c2,c3,hsz]
   have sim:∀ (x:Sv),(decide (some x=some y):Bool)=(decide (x.l=y.l)&&(decide (x.m=y.m)&&(decide (x.f=y.f)&&(decide (x.k=y.k)&&decide (x.r=y.r))))):=by
    intro x
    obtain⟨x1,x2,x3,x4,x5⟩:=x
    obtain⟨y1,y2,y3,y4,y5⟩:=y
    simp only [Option.some.injEq,Sv.mk.injEq,Bool.decide_and]
    cases decide (x1=y1)<;>cases decide (x2=y2)<;>cases decide (x3=y3)<;>cases decide (x4=y4)<;>cases decide (x5=y5)<;>rfl
   refine⟨cg_ex (l11Keys_ok u es H1 (hue.le hle1) hes.1) ?_,?_⟩
   ·rintro v2 H2 ⟨hle2,hk2⟩
    have k02:=hle2.2 _ _ k0
    have k12:=hle2.2 _ _ k1
    have k22:=hle2.2 _ _ k2
    simp [k02,k12,c2,c3,hil]
    refine⟨cg_ex (SieveOf_ok v2 (keysR es) s.keep H2 hk2.strs hks (by have:=hes.1; omega)) ?_,?_⟩
    ·rintro v3 H3 ⟨hle3,hret⟩
     have k03:∀ l,Hp.at (H3++l) H.length=_:=fun l=>((hle3.app l).2 _ _ k02)
     have k13:∀ l,Hp.at (H3++l) o1=some ob1:=fun l=>((hle3.app l).2 _ _ k12)
     have k23:∀ l,Hp.at (H3++l) o2=some ob2:=fun l=>((hle3.app l).2 _ _ k22)
     have hle13:=(hle1.trans hle2).trans hle3
     cases hso:sieveO (keysR es) s.keep with
     | none =>
      rw [hso] at hret
      obtain rfl:=hret
      simp [k03,k13,k23,c2,c3,e2,e3,hil,his,hrs.one]
      simp [k03,k13,k23,c2,c3,e2,e3,hil,his,hrs.one,hle13,hle13.app]
     | some x =>
      rw [hso] at hret
      obtain⟨r',rfl,hr',hrl⟩:=hret
      rw [sim x]
      simp [svAV,hr'.rows.one,k03,k13,k23,c2,c3,e2,e3,hil,his,hrs.one]
      refine g_split (fun q0=>?_) (fun q0=>?_) (by simp)<;>simp at q0<;>simp [q0,k03,k13,k23,c2,c3,e2,e3,hil,his,hrs.one,hle13,hle13.app]
      refine g_split (fun q1=>?_) (fun q1=>?_) (by simp)<;>simp at q1<;>simp [q1,k03,k13,k23,c2,c3,e2,e3,hil,his,hrs.one,hle13,hle13.app]
      refine g_split (fun q2=>?_) (fun q2=>?_) (by simp)<;>simp at q2<;>simp [q2,k03,k13,k23,c2,c3,e2,e3,hil,his,hrs.one,hle13,hle13.app]
      refine g_split (fun q3=>?_) (fun q3=>?_) (by simp)<;>simp at q3<;>simp [q3,k03,k13,k23,c2,c3,e2,e3,hil,his,hrs.one,hle13,hle13.app]
      refine cg_use (l3Sames_ok r' r x.r y.r _ (hr'.strs.le (by first | exact HLe.self _ _ | exact HLe.refl _)) ((hrs.le hle13).le (by first | exact HLe.self _ _ | exact HLe.refl _)) (by omega)) ?_
      simp [hle13,hle13.app]
    ·have j0:∀ l,Hp.at (H2++l) H.length=_:=fun l=>((HLe.self H2 l).2 _ _ k02)
     have j1:∀ l,Hp.at (H2++l) o1=some ob1:=fun l=>((HLe.self H2 l).2 _ _ k12)
     have j2:∀ l,Hp.at (H2++l) o2=some ob2:=fun l=>((HLe.self H2 l).2 _ _ k22)
     simp [j0,j1,j2,c2,c3,hil]
     refine cg_ex (SieveOf_ok v2 (keysR es) s.keep _ (hk2.strs.le (HLe.self _ _)) hks (by have:=hes.1; omega)) ?_
     rintro v3 H3 ⟨hle3,hret⟩
     have k0f:=hle3.2 _ _ (j0 _)
     have k1f:=hle3.2 _ _ (j1 _)
     have k2f:=hle3.2 _ _ (j2 _)
     have hle13:=((hle1.trans hle2).app _).trans hle3
     have kb:∃ B5,H3.at H2.length=some B5/\B5=⟨[[.str ⟨#[]⟩,.str ⟨#[]⟩,.str ⟨#[]⟩,.nils,.int .i64 0]],5,76,false⟩:=⟨_,hle3.2 _ _ (Hp.at_app_0.trans Hp.at_0),rfl⟩
     obtain⟨B5,kb,hB5⟩:=kb
     have kbl:=Hp.at_lt kb
     have nb0:H2.length≠H.length:=by have:=Hp.at_lt k02; omega
     have nb1:H2.length≠o1:=by have:=Hp.at_lt k12; omega
     have nb2:H2.length≠o2:=by have:=Hp.at_lt k22; omega
     have hsl:∀ Y:Option Ob,(List.set H3 H2.length Y).length=H3.length:=fun Y=>by simp
     have k03:∀ Y l,Hp.at (List.set H3 H2.length Y++l) H.length=_:=fun Y l=>(Hp.at_app l (by rw [hsl]; exact Hp.at_lt k0f)).trans ((Hp.at_set_ne nb0).trans k0f)
     have k13:∀ Y l,Hp.at (List.set H3 H2.length Y++l) o1=some ob1:=fun Y l=>(Hp.at_app l (by rw [hsl]; exact Hp.at_lt k1f)).trans ((Hp.at_set_ne nb1).trans k1f)
     have k23:∀ Y l,Hp.at (List.set H3 H2.length Y++l) o2=some ob2:=fun Y l=>(Hp.at_app l (by rw [hsl]; exact Hp.at_lt k2f)).trans ((Hp.at_set_ne nb2).trans k2f)
     have k53:∀ Y l,Hp.at (List.set H3 H2.length Y++l) H2.length=Y:=fun Y l=>(Hp.at_app l (by rw [hsl]; exact kbl)).trans (Hp.at_set _ kbl)
     have k03':∀ Y,Hp.at (List.set H3 H2.length Y) H.length=_:=fun Y=>(Hp.at_set_ne nb0).trans k0f
     have k13':∀ Y,Hp.at (List.set H3 H2.length Y) o1=some ob1:=fun Y=>(Hp.at_set_ne nb1).trans k1f
     have k23':∀ Y,Hp.at (List.set H3 H2.length Y) o2=some ob2:=fun Y=>(Hp.at_set_ne nb2).trans k2f
     have k73:∀ Y l,Hp.at (List.set H3 H2.length Y++l) H3.length=Hp.at l 0:=fun Y l=>by rw [<- hsl Y]; exact Hp.at_app_0
     have s73:∀ Y l x,List.set (List.set H3 H2.length Y++l) H3.length x=List.set H3 H2.length Y++List.set l 0 x:=fun Y l x=>by rw [<- hsl Y]; exact Hp.set_app_0
     have hfin:∀ Y l,HLe H (List.set H3 H2.length Y++l):=fun Y l=>(hle13.fr_le (Fr.one H3 H2.length Y) (fun x hx=>by subst hx; exact (hle1.trans hle2).1)).app l
     have hrf:∀ Y l,Strs H r y.r->Strs (List.set H3 H2.length Y++l) r y.r:=fun Y l h=>h.le (hfin Y l)
     cases hso:sieveO (keysR es) s.keep with
     | none =>
      rw [hso] at hret
      obtain rfl:=hret
      simp [kb,hB5,k03,k13,k23,k53,k73,s73,k03',k13',k23',c2,c3,e2,e3,hil,his,hrs.one]
      simp [hfin]
     | some x =>
      rw [hso] at hret
      obtain⟨r',rfl,hr',hrl⟩:=hret
      rw [sim x]
      have hrF:∀ Y l,Strs (List.set H3 H2.length Y++l) r' x.r:=fun Y l=>(hr'.strs.fr (Fr.one H3 H2.length Y) (fun z hz hh=>hr'.rows.ne_of kb (by rw [hB5]; simp) hz hh)).le (HLe.self _ _)
      simp [svAV,hr'.rows.one,kb,hB5,k03,k13,k23,k53,k73,s73,k03',k13',k23',c2,c3,e2,e3,hil,his,hrs.one]
      refine g_split (fun q0=>?_) (fun q0=>?_) (by simp)<;>simp at q0<;>simp [q0,k03,k13,k23,k53,k73,s73,k03',k13',k23',c2,c3,e2,e3,hil,his,hrs.one,hfin]
      refine g_split (fun q1=>?_) (fun q1=>?_) (by simp)<;>simp at q1<;>simp [q1,k03,k13,k23,k53,k73,s73,k03',k13',k23',c2,c3,e2,e3,hil,his,hrs.one,hfin]
      refine g_split (fun q2=>?_) (fun q2=>?_) (by simp)<;>simp at q2<;>simp [q2,k03,k13,k23,k53,k73,s73,k03',k13',k23',c2,c3,e2,e3,hil,his,hrs.one,hfin]
      refine g_split (fun q3=>?_) (fun q3=>?_) (by simp)<;>simp at q3<;>simp [q3,k03,k13,k23,k53,k73,s73,k03',k13',k23',c2,c3,e2,e3,hil,his,hrs.one,hfin]
      refine cg_use (l3Sames_ok r' r x.r y.r _ (hrF _ _) (hrf _ _ hrs) (by omega)) ?_
      simp [hfin]
   ·have j0:∀ l,Hp.at (H1++l) H.length=_:=fun l=>((HLe.self H1 l).2 _ _ k0)
    have j1:∀ l,Hp.at (H1++l) o1=some ob1:=fun l=>((HLe.self H1 l).2 _ _ k1)
    have j2:∀ l,Hp.at (H1++l) o2=some ob2:=fun l=>((HLe.self H1 l).2 _ _ k2)
    simp [j0,j1,j2,c2,c3,hil]
    refine cg_ex (l11Keys_ok u es _ ((hue.le hle1).le (HLe.self _ _)) hes.1) ?_
    rintro v2 H2 ⟨hle2,hk2⟩
    have k02:=hle2.2 _ _ (j0 _)
    have k12:=hle2.2 _ _ (j1 _)
    have k22:=hle2.2 _ _ (j2 _)
    simp [k02]
    refine cg_ex (SieveOf_ok v2 (keysR es) s.keep H2 hk2.strs hks (by have:=hes.1; omega)) ?_
    rintro v3 H3 ⟨hle3,hret⟩
    have k0f:=hle3.2 _ _ k02
    have k1f:=hle3.2 _ _ k12
    have k2f:=hle3.2 _ _ k22
    have hle13:=((hle1.app _).trans hle2).trans hle3
    have kb:∃ B5,H3.at H1.length=some B5/\B5=⟨[[.str ⟨#[]⟩,.str ⟨#[]⟩,.str ⟨#[]⟩,.nils,.int .i64 0]],5,76,false⟩:=⟨_,hle3.2 _ _ (hle2.2 _ _ (Hp.at_app_0.trans Hp.at_0)),rfl⟩
    obtain⟨B5,kb,hB5⟩:=kb
    have kbl:=Hp.at_lt kb
    have nb0:H1.length≠H.length:=by have:=Hp.at_lt k0; omega
    have nb1:H1.length≠o1:=by have:=Hp.at_lt k1; omega
    have nb2:H1.length≠o2:=by have:=Hp.at_lt k2; omega
    have hsl:∀ Y:Option Ob,(List.set H3 H1.length Y).length=H3.length:=fun Y=>by simp
    have k03:∀ Y l,Hp.at (List.set H3 H1.length Y++l) H.length=_:=fun Y l=>(Hp.at_app l (by rw [hsl]; exact Hp.at_lt k0f)).trans ((Hp.at_set_ne nb0).trans k0f)
    have k13:∀ Y l,Hp.at (List.set H3 H1.length Y++l) o1=some ob1:=fun Y l=>(Hp.at_app l (by rw [hsl]; exact Hp.at_lt k1f)).trans ((Hp.at_set_ne nb1).trans k1f)
    have k23:∀ Y l,Hp.at (List.set H3 H1.length Y++l) o2=some ob2:=fun Y l=>(Hp.at_app l (by rw [hsl]; exact Hp.at_lt k2f)).trans ((Hp.at_set_ne nb2).trans k2f)
    have k53:∀ Y l,Hp.at (List.set H3 H1.length Y++l) H1.length=Y:=fun Y l=>(Hp.at_app l (by rw [hsl]; exact kbl)).trans (Hp.at_set _ kbl)
    have k03':∀ Y,Hp.at (List.set H3 H1.length Y) H.length=_:=fun Y=>(Hp.at_set_ne nb0).trans k0f
    have k13':∀ Y,Hp.at (List.set H3 H1.length Y) o1=some ob1:=fun Y=>(Hp.at_set_ne nb1).trans k1f
    have k23':∀ Y,Hp.at (List.set H3 H1.length Y) o2=some ob2:=fun Y=>(Hp.at_set_ne nb2).trans k2f
    have k73:∀ Y l,Hp.at (List.set H3 H1.length Y++l) H3.length=Hp.at l 0:=fun Y l=>by rw [<- hsl Y]; exact Hp.at_app_0
    have s73:∀ Y l x,List.set (List.set H3 H1.length Y++l) H3.length x=List.set H3 H1.length Y++List.set l 0 x:=fun Y l x=>by rw [<- hsl Y]; exact Hp.set_app_0
    have hfin:∀ Y l,HLe H (List.set H3 H1.length Y++l):=fun Y l=>(hle13.fr_le (Fr.one H3 H1.length Y) (fun x hx=>by subst hx; exact hle1.1)).app l
    have hrf:∀ Y l,Strs H r y.r->Strs (List.set H3 H1.length Y++l) r y.r:=fun Y l h=>h.le (hfin Y l)
    cases hso:sieveO (keysR es) s.keep with
    | none =>
     rw [hso] at hret
     obtain rfl:=hret
     simp [kb,hB5,k03,k13,k23,k53,k73,s73,k03',k13',k23',c2,c3,e2,e3,hil,his,hrs.one]
     simp [hfin]
    | some x =>
     rw [hso] at hret
     obtain⟨r',rfl,hr',hrl⟩:=hret
     rw [sim x]
     have hrF:∀ Y l,Strs (List.set H3 H1.length Y++l) r' x.r:=fun Y l=>(hr'.strs.fr (Fr.one H3 H1.length Y) (fun z hz hh=>hr'.rows.ne_of kb (by rw [hB5]; simp) hz hh)).le (HLe.self _ _)
     simp [svAV,hr'.rows.one,kb,hB5,k03,k13,k23,k53,k73,s73,k03',k13',k23',c2,c3,e2,e3,hil,his,hrs.one]
     refine g_split (fun q0=>?_) (fun q0=>?_) (by simp)<;>simp at q0<;>simp [q0,k03,k13,k23,k53,k73,s73,k03',k13',k23',c2,c3,e2,e3,hil,his,hrs.one,hfin]
     refine g_split (fun q1=>?_) (fun q1=>?_) (by simp)<;>simp at q1<;>simp [q1,k03,k13,k23,k53,k73,s73,k03',k13',k23',c2,c3,e2,e3,hil,his,hrs.one,hfin]
     refine g_split (fun q2=>?_) (fun q2=>?_) (by simp)<;>simp at q2<;>simp [q2,k03,k13,k23,k53,k73,s73,k03',k13',k23',c2,c3,e2,e3,hil,his,hrs.one,hfin]
     refine g_split (fun q3=>?_) (fun q3=>?_) (by simp)<;>simp at q3<;>simp [q3,k03,k13,k23,k53,k73,s73,k03',k13',k23',c2,c3,e2,e3,hil,his,hrs.one,hfin]
     refine cg_use (l3Sames_ok r' r x.r y.r _ (hrF _ _) (hrf _ _ hrs) (by omega)) ?_
     simp [hfin]
theorem StoreOk_ok (v:AV) (s:Sr) (H:Hp) (hs:St H v s) (hb:StB s):AC Tryz.prog E 39 [v] H (fun u H'=>u=.bool (storeOk s)/\H'=H):=by
 obtain⟨a,b,c,d,lr,sr,rfl,ha,hb1,hlr,hc,hsr,hd⟩:=hs
 have hs0:St H (stAV a b c s d) s:=⟨a,b,c,d,lr,sr,rfl,ha,hb1,hlr,hc,hsr,hd⟩
 have hB:=hb
 obtain⟨hB1,hB2,hB3,hB4,hB5,hB6,hB7,hB8,hB9⟩:=hb
 refine AC_byp (tC_le tab2_ok) h_spec_StoreOk (by simp) ?_
 have l2:=hb1.len
 have l3:=hc.len
 have l1:=ha.len
 rw [hlr.length] at l2
 rw [hsr.length] at l3
 obtain⟨H1,hH1⟩:∃ H1,H1=H++[some ⟨[[a,b,c,.int .i64 s.keep,.int .i64 s.time,d]],6,28,false⟩]:=⟨_,rfl⟩
 have hle1:HLe H H1:=by rw [hH1]; exact HLe.self _ _
 have k0:H1.at H.length=some ⟨[[a,b,c,.int .i64 s.keep,.int .i64 s.time,d]],6,28,false⟩:=by rw [hH1]; simp
 simp [c_spec_StoreOk,stAV,ha.one,hb1.one,hc.one,hd.one,<- hH1,k0,l2,hb1.slc]
 have no:∀ {p:Prop},headOk s=false->p->storeOk s=false:=fun h _=>by simp [storeOk,h]
 refine g_split (fun q1=>?_) (fun q1=>?_) (by simp)<;>simp at q1<;>simp [q1,hle1,k0,l3,hc.slc]
 ·simp [storeOk,headOk]
  intros; omega
 refine g_split (fun q2=>?_) (fun q2=>?_) (by simp)<;>simp at q2<;>simp [q2,hle1,k0]
 ·simp [storeOk,headOk]
  intros; omega
 refine g_split (fun q3=>?_) (fun q3=>?_) (by simp)<;>simp at q3<;>simp [q3,hle1,k0]
 ·simp [storeOk,headOk]
  intros; omega
 refine g_split (fun q4=>?_) (fun q4=>?_) (by simp)<;>simp at q4<;>simp [q4,hle1,k0]
 ·simp [storeOk,headOk]
  intros; omega
 refine cg_use (l12Times_ok d s.tms s.time H1 (hd.le hle1) (by omega)) ?_
 simp
 refine c_split (fun q5=>?_) (fun q5=>?_)<;>simp at q5<;>simp [hle1,k0]
 ·simp [storeOk,headOk,q5]
 refine cg_use (RunOk_ok a s.top H1 (ha.le hle1) hB1.2.short (by have:=hB1.1; omega)) ?_
 simp [k0]
 refine g_split (fun q6=>?_) (fun q6=>?_) (by simp)<;>simp at q6<;>simp [q6,hle1,k0,l1,ha.slc]
 ·simp [storeOk,q6]
 refine c_split (fun q7=>?_) (fun q7=>?_)<;>simp at q7<;>simp [hle1]
 ·simp [storeOk]
  intros; omega
 have q1':s.lev.length=3:=by omega
 have q2':s.sv.length=3:=by omega
 have hhead:headOk s=true:=by simp [headOk,q1',q2',q3,q4,q5]
 have q7':s.top.length<=4:=by omega
 have hlr3:lr.length=3:=by rw [hlr.length]; exact q1'
 obtain⟨o1,i1,ob1,rfl,c1,c2,_⟩:=hb1.get (j:=0) (by omega)
 have row:∀ j,j<3->∃ u,ob1.rows[i1+j]?=some [u]/\Ents H u (s.lev.getD j []):=by
  intro j hj
  obtain⟨o2,i2,ob2,e1,e2,e3,e4⟩:=hb1.get (j:=j) (by omega)
  cases e1
  rw [c1] at e2
  cases e2
  obtain⟨u,hu,hue⟩:=hlr.get j (by omega) (by omega)
  refine⟨u,by rw [e4,hu],?_⟩
  have:s.lev.getD j []=s.lev[j]'(by omega):=by
   rw [List.getD_eq_getElem?_getD,List.getElem?_eq_getElem (by omega)]
   rfl
  rw [this]
  exact hue
 have bnd:∀ j,j<3->(s.lev.getD j []).length<1099511627776:=by
  intro j hj
  rw [List.getD_eq_getElem?_getD,List.getElem?_eq_getElem (by omega)]
  exact (hB2 _ (List.getElem_mem (by omega))).1
 have fail:∀ i,i<3->¬okAt s i->storeOk s=false:=by
  intro i hi hno
  have:¬(okAt s 0/\okAt s 1/\okAt s 2):=by
   rintro ⟨h0,h1,h2⟩
   match i,hi with
   | 0,_=>exact hno h0
   | 1,_=>exact hno h1
   | 2,_=>exact hno h2
  simp [storeOk,this]
 refine W_for (fun m t H'=>∃ i:Nat,i+m=3/\t 1=.pt H.length 0 0/\t 3=.int .i64 i/\H1=H'/\∀ j,j<i->okAt s j) 3 ?_ (tC_mono AC_mono) ?_
 ·exact⟨0,by simp⟩
 rintro m t H' ⟨i,him,h1,h3,rfl,hI⟩
 have k1:=hle1.2 _ _ c1
 simp [h1,h3]
 refine c_split (fun hq=>?_) (fun hq=>?_)<;>simp at hq
 ·have hi3:i<3:=by omega
  obtain⟨ui,r1,r2⟩:=row i hi3
  have hw:=wrapN (i:=i) (by omega)
  simp [h1,h3,k0]
  refine cg_use (l12Level_ok (stAV a (.sl o1 i1 lr.length) c s d) s i H1 (hs0.le hle1) hB (by omega) (by omega) (by omega)) ?_
  cases hlv:levelOk s i with
  | false =>
   simp [hle1]
   exact fail i hi3 (fun h=>by have:=h.1; rw [hlv] at this; cases this)
  | true =>
   have hil:i<lr.length:=by omega
   simp [h1,h3,k0,k1,c2,r1,hil]
   refine cg_use (l12Newest_ok a ui s.top (s.lev.getD i []) s.time H1 (ha.le hle1) (r2.le hle1) hB1.1 (bnd i hi3)) ?_
   cases hnw:newestR (s.lev.getD i []) s.time s.top with
   | false =>
    simp [hle1]
    exact fail i hi3 (fun h=>by have:=h.2.1; rw [hnw] at this; cases this)
   | true =>
    simp [h1,h3,hw]
    refine W_for (fun m2 t H'=>∃ k:Nat,k+m2=3/\i<k/\t 1=.pt H.length 0 0/\t 3=.int .i64 i/\t 4=.int .i64 k/\H1=H'/\∀ j,j<k->i<j->lowOk s i j=true) (2-i) ?_ (tC_mono AC_mono) ?_
    ·exact⟨i+1,by omega,by omega,by simp [h1],by simp [h3],by simp,rfl,fun j hj hij=>by omega⟩
    rintro m2 t H2 ⟨k,hkm,hik,h1,h3,h4,rfl,hI2⟩
    simp [h1,h3,h4]
    refine c_split (fun hq2=>?_) (fun hq2=>?_)<;>simp at hq2
    ·have hk3:k<3:=by omega
     have hkl:k<lr.length:=by omega
     obtain⟨uk,r3,r4⟩:=row k hk3
     have hw2:=wrapN (i:=k) (by omega)
     simp [h1,h3,h4,k0,k1,c2,r1,r3,hil,hkl]
     refine cg_use (l12Newest_ok ui uk (s.lev.getD i []) (s.lev.getD k []) s.time _ (r2.le hle1) (r4.le hle1) (bnd i hi3) (bnd k hk3)) ?_
     cases hlo:newestR (s.lev.getD k []) s.time (s.lev.getD i []) with
     | false =>
      simp [hle1]
      exact fail i hi3 (fun h=>by have:=h.2.2 k hk3 hik; rw [lowOk,hlo] at this; cases this)
     | true =>
      simp [h1,h3,h4,hw2]
      refine⟨m2-1,by omega,k+1,by omega,by omega,by omega,fun j hj hij=>?_⟩
      rcases Nat.lt_or_ge j k with h | h
      ·exact hI2 j h hij
      ·have:j=k:=by omega
       subst this
       exact hlo
    ·simp [h1,h3,hw]
     refine⟨m-1,by omega,i+1,by omega,by omega,fun j hj=>?_⟩
     rcases Nat.lt_or_ge j i with h | h
     ·exact hI j h
     ·have:j=i:=by omega
      subst this
      exact⟨hlv,hnw,fun k hk hjk=>hI2 k (by omega) hjk⟩
 ·simp [hle1]
  simp [storeOk,hhead,q6,q7',hI 0 (by omega),hI 1 (by omega),hI 2 (by omega)]
end Go.Proofs.YtepeokaplbbpoaaGreat.B

namespace Go.Proofs.YtepeokaplbbpoaaGreat.B
open Go.RowKit Go.Proofs
set_option linter.unusedVariables false
set_option linter.unusedSimpArgs false
variable {E:Env}
def OffT (a:AV) (lr:List (List AV)):Prop:=∀ y,a.of y->∀ u,[u]∈lr->¬u.of y
theorem OffT.nil (a:AV):OffT a []:=fun y hy u hu=>by cases hu
theorem OffT.add {a u:AV} {lr:List (List AV)} (h:OffT a lr) (hu:∀ y,a.of y->¬u.of y):OffT a (lr++[[u]]):=fun y hy w hw=>by
 rcases List.mem_append.1 hw with hw | hw
 ·exact h y hy w hw
 ·cases List.mem_singleton.1 hw
  exact hu y hy
def OffB (H0:Hp) (a:AV) (lr:List (List AV)):Prop:=OffT a lr/\∀ u,[u]∈lr->∀ y,u.of y->H0.length<=y
theorem OffB.nil (H0:Hp) (a:AV):OffB H0 a []:=⟨OffT.nil a,fun u hu=>by cases hu⟩
theorem OffB.add {H0:Hp} {a u:AV} {lr:List (List AV)} (h:OffB H0 a lr) (hu:∀ y,a.of y->¬u.of y) (hb:∀ y,u.of y->H0.length<=y):OffB H0 a (lr++[[u]]):=⟨h.1.add hu,fun w hw y hy=>by
 rcases List.mem_append.1 hw with hw | hw
 ·exact h.2 w hw y hy
 ·cases List.mem_singleton.1 hw
  exact hb y hy⟩
def MSt (H0 H:Hp) (v:AV) (s:Sr):Prop:=∃ a ol os d lr sr,v=stAV a (.sl ol 0 s.lev.length) (.sl os 0 s.sv.length) s d/\OwnE H0 H a s.top/\Own 1 23 H (.sl ol 0 s.lev.length) lr/\All2 (LvRow H) lr s.lev /\
 Own 5 76 H (.sl os 0 s.sv.length) sr/\All2 (SvRow H (fun x=>ol=x\/d.of x)) sr s.sv/\OwnI H0 H d s.tms/\¬d.of ol/\H0.length<=ol/\H0.length<=os/\s.lev.length=3/\s.sv.length=3/\OffB H0 a lr
theorem MSt.st {H0 H:Hp} {v:AV} {s:Sr} (h:MSt H0 H v s):St H v s:=by
 obtain⟨a,ol,os,d,lr,sr,h1,h2,h3,h4,h5,h6,h7,h8,h9⟩:=h
 exact⟨a,_,_,d,lr,sr,h1,h2.ents,h3.rows,h4,h5.rows,All2.mono (fun row s h=>by
  obtain⟨r,e1,e2,_⟩:=h
  exact⟨r,e1,e2,fun _ _ h=>h⟩) h6,h7.ints⟩
theorem MSt.le {H0 H H':Hp} {v:AV} {s:Sr} (h:MSt H0 H v s) (hle:HLe H H'):MSt H0 H' v s:=by
 obtain⟨a,ol,os,d,lr,sr,h1,h2,h3,h4,h5,h6,h7,h8⟩:=h
 exact⟨a,ol,os,d,lr,sr,h1,h2.le hle,h3.le hle,All2.mono (fun _ _=>LvRow.le hle) h4,h5.le hle,All2.mono (fun _ _=>SvRow.le hle) h6,h7.le hle,h8⟩
theorem LvRow.fr {S:Nat->Prop} {H H':Hp} (hf:Fr S H H') (hs:∀ x ob,S x->H.at x=some ob->ob.esz≠4) {row:List AV} {es:List Ent} (h:LvRow H row es):LvRow H' row es:=by
 obtain⟨u,h1,h2⟩:=h
 refine⟨u,h1,h2.fr hf (fun x hx hS=>?_)⟩
 rcases h2 with ⟨rfl,_⟩ | ⟨rfl,_⟩ | ⟨o',i,ob,rfl,a2,a3,a4⟩
 ·exact hx.elim
 ·exact hx.elim
 ·have:o'=x:=hx
  subst this
  exact hs _ _ hS a2 a3
theorem SvRow.fr {S X X':Nat->Prop} {H H':Hp} {row:List AV} {s:Sv} (h:SvRow H X row s) (hf:Fr S H H') (hs:∀ x ob,S x->H.at x=some ob->ob.esz≠1\/X x) (hx:∀ x,x<H.length->X' x->X x):SvRow H' X' row s:=by
 obtain⟨u,h1,h2,h3⟩:=h
 refine⟨u,h1,?_,fun x hu hx'=>h3 x hu (hx x (Rows.lt h2 hu) hx')⟩
 rcases h2 with h | h | ⟨o',i,ob,rfl,a2,a3,a4⟩
 ·exact .inl h
 ·exact .inr (.inl h)
 ·exact .inr (.inr ⟨o',i,ob,rfl,hf.2 _ _ (fun hh=>(hs o' ob hh a2).elim (fun hne=>hne a3) (fun hX=>h3 o' rfl hX)) a2,a3,a4⟩)
theorem Rows.frz {S:Nat->Prop} {esz:Nat} {H H':Hp} {v:AV} {R:List (List AV)} (h:Rows esz H v R) (hf:Fr S H H') (hs:∀ x ob,S x->H.at x=some ob->ob.esz≠esz):Rows esz H' v R:=by
 refine h.fr hf (fun x hx hS=>?_)
 rcases h with ⟨rfl,_⟩ | ⟨rfl,_⟩ | ⟨o',i,ob,rfl,a2,a3,a4⟩
 ·exact hx.elim
 ·exact hx.elim
 ·have:o'=x:=hx
  subst this
  exact hs _ _ hS a2 a3
theorem Own.esz {esz ety:Nat} {H:Hp} {v:AV} {R:List (List AV)} (h:Own esz ety H v R) {x:Nat} {ob:Ob} (hx:v.of x) (ho:H.at x=some ob):ob.esz=esz:=by
 rcases h with ⟨rfl,_⟩ | ⟨rfl,_⟩ | ⟨o',ob',rfl,a2,a3,a4,_⟩
 ·exact hx.elim
 ·exact hx.elim
 ·have:o'=x:=hx
  subst this
  rw [ho] at a2
  cases a2
  exact a4
theorem Own.sl {esz ety:Nat} {H:Hp} {v:AV} {R:List (List AV)} (h:Own esz ety H v R) (hR:0<R.length):∃ o,v=.sl o 0 R.length:=by
 rcases h with ⟨rfl,rfl⟩ | ⟨rfl,rfl⟩ | ⟨o',ob',rfl,_⟩
 ·simp at hR
 ·simp at hR
 ·exact⟨o',rfl⟩
theorem set_in {H l:Hp} {n:Nat} (h:n<H.length) (Y Z:Option Ob):List.set (List.set H n Y++l) n Z=List.set H n Z++l:=by
 rw [List.set_append_left _ _ (by rw [List.length_set]; exact h),List.set_set]
theorem set_in' {H l:Hp} {n:Nat} (h:n<H.length) (Z:Option Ob):List.set (H++l) n Z=List.set H n Z++l:=List.set_append_left _ _ h
theorem at_in {H l:Hp} {n:Nat} (h:n<H.length) (Y:Option Ob):Hp.at (List.set H n Y++l) n=Y:=(Hp.at_app l (by rw [List.length_set]; exact h)).trans (Hp.at_set _ h)
theorem at_off {H l:Hp} {n o:Nat} {ob:Ob} (h:H.at o=some ob) (hne:n≠o) (Y:Option Ob):Hp.at (List.set H n Y++l) o=some ob:=(Hp.at_app l (by rw [List.length_set]; exact Hp.at_lt h)).trans ((Hp.at_set_ne hne).trans h)
theorem at_len {H l:Hp} {n:Nat} (Y:Option Ob):Hp.at (List.set H n Y++l) H.length=Hp.at l 0:=by
 have:(List.set H n Y).length=H.length:=List.length_set
 rw [<- this]
 exact Hp.at_app_0
theorem at_len1 {H l:Hp} {n:Nat} (k:Nat) (Y:Option Ob):Hp.at (List.set H n Y++l) (H.length+k)=Hp.at l k:=by
 have:(List.set H n Y).length=H.length:=List.length_set
 rw [<- this]
 exact Hp.at_app_ge k
theorem set_len {H l:Hp} {n:Nat} (Y Z:Option Ob):List.set (List.set H n Y++l) H.length Z=List.set H n Y++List.set l 0 Z:=by
 have:(List.set H n Y).length=H.length:=List.length_set
 rw [<- this]
 exact Hp.set_app_0
theorem l12Copy_ok (v:AV) (s:Sr) (H:Hp) (hs:St H v s) (hb:StB s) (hl3:s.lev.length=3) (hs3:s.sv.length=3) :
  AC Tryz.prog E 48 [v] H (fun u H'=>HLe H H'/\MSt H H' u s):=by
 obtain⟨a,b,c,d,lr,sr,rfl,ha,hb1,hlr,hc,hsr,hd⟩:=hs
 obtain⟨hB1,hB2,hB3,hB4,hB5,hB6,hB7,hB8,hB9⟩:=hb
 refine AC_by fol (tC_le tab2_ok) h_spec_l12Copy ?_
 have l2:=hb1.len
 rw [hlr.length,hl3] at l2
 have hone:one a=true/\one b=true/\one c=true/\one d=true:=⟨ha.one,hb1.one,hc.one,hd.one⟩
 obtain⟨n1,n2,n3,n4⟩:=hone
 simp [c_spec_l12Copy,stAV,n1,n2,n3,n4]
 refine appG_cat (row:=entRow) (xs:=[]) (ys:=s.top) (H0:=H) ⟨Own.obj (R:=[]) (by simp) rfl,by simp⟩ (ha.le (HLe.self _ _)) (HLe.self _ _) (by have:=hB1.1; simp; omega) (fun v1 H1 g1 g2 g3 g4=>?_)
 have k0:H1.at H.length=some ⟨[[a,b,c,.int .i64 s.keep,.int .i64 s.time,d]],6,28,false⟩:=g3.2 _ _ (by simp) (by simp)
 have k1:H1.at (H.length+1)=some ⟨[[.nils,.nils,.nils,.int .i64 0,.int .i64 0,.nils]],6,28,false⟩:=g3.2 _ _ (by simp) (by simp)
 have k2:H1.at (H.length+2)=some ⟨[[a,b,c,.int .i64 s.keep,.int .i64 s.time,d]],6,28,false⟩:=g3.2 _ _ (by simp) (by simp)
 have lt2:=Hp.at_lt k2
 have m0:H.length+2≠H.length:=by omega
 have m1:H.length+2≠H.length+1:=by omega
 have j0:∀ Y l,Hp.at (List.set H1 (H.length+2) Y++l) H.length=_:=fun Y l=>(Hp.at_app l (by rw [List.length_set]; exact Hp.at_lt k0)).trans ((Hp.at_set_ne m0).trans k0)
 have j1:∀ Y l,Hp.at (List.set H1 (H.length+2) Y++l) (H.length+1)=_:=fun Y l=>(Hp.at_app l (by rw [List.length_set]; exact Hp.at_lt k1)).trans ((Hp.at_set_ne m1).trans k1)
 have j2:∀ Y l,Hp.at (List.set H1 (H.length+2) Y++l) (H.length+2)=Y:=fun Y l=>(Hp.at_app l (by rw [List.length_set]; exact lt2)).trans (Hp.at_set _ lt2)
 have hF1:∀ Y l,HLe H (List.set H1 (H.length+2) Y++l):=fun Y l=>(g1.set (by omega) Y).app l
 simp [k0,k2,g2.rows.one,g2.rows.cells,g2.rows.cells1,j0]
 refine appG_cat (row:=intRow) (xs:=[]) (ys:=s.tms) (H0:=H) ⟨Own.lit0 (by simp),by simp; exact g1.1⟩ (hd.le (hF1 _ _)) (hF1 _ _) (by simp; omega) (fun v2 H2 p1 p2 p3 p4=>?_)
 have n5:¬AV.of (.sl H1.length 0 0) H.length/\¬AV.of (.sl H1.length 0 0) (H.length+1)/\¬AV.of (.sl H1.length 0 0) (H.length+2):=by simp; omega
 have q0:=p3.2 _ _ n5.1 (j0 _ _)
 have q1:=p3.2 _ _ n5.2.1 (j1 _ _)
 have q2:=p3.2 _ _ n5.2.2 (j2 _ _)
 have lt22:=Hp.at_lt q2
 have w1:OwnE H H2 v1 s.top:=((g2.fr (Fr.one H1 (H.length+2) _) (fun x hx=>g2.rows.ne_of k2 (by simp) hx)).le (HLe.self _ _)).fr p3 (fun x hx h=>by have:=g2.1.lt hx; simp at h; omega)
 simp [q0,q2,p2.rows.one,p2.rows.cells,p2.rows.cells1,at_in lt22,set_in lt22]
 have hlr3:lr.length=3:=by rw [hlr.length]; exact hl3
 have hsr3:sr.length=3:=by rw [hsr.length]; exact hs3
 obtain⟨o1,i1,ob1,rfl,c1,c2,_⟩:=hb1.get (j:=0) (by omega)
 obtain⟨o2,i2,ob2,rfl,e1,e2,_⟩:=hc.get (j:=0) (by omega)
 have row1:∀ j (h:j<s.lev.length),∃ u,ob1.rows[i1+j]?=some [u]/\Ents H u s.lev[j]:=by
  intro j hj
  obtain⟨o',i',ob',x1,x2,x3,x4⟩:=hb1.get (j:=j) (by omega)
  cases x1
  rw [c1] at x2
  cases x2
  obtain⟨u,hu,hue⟩:=hlr.get j (by omega) hj
  exact⟨u,by rw [x4,hu],hue⟩
 have row2:∀ j (h:j<s.sv.length),∃ r,ob2.rows[i2+j]?=some [.str s.sv[j].l,.str s.sv[j].m,.str s.sv[j].f,r,.int .i64 s.sv[j].k]/\Strs H r s.sv[j].r:=by
  intro j hj
  obtain⟨o',i',ob',x1,x2,x3,x4⟩:=hc.get (j:=j) (by omega)
  cases x1
  rw [e1] at x2
  cases x2
  obtain⟨r,hu,hue,_⟩:=hsr.get j (by omega) hj
  exact⟨r,by rw [x4,hu],hue⟩
 refine W_for (fun m t H'=>∃ i lv sv lr' sr',i+m=3/\t 1=.pt H.length 0 0/\t 2=.pt (H.length+1) 0 0/\t 3=.pt (H.length+2) 0 0/\t 4=.int .i64 (i:Nat)/\HLe H H' /\
  H'.at H.length=some ⟨[[a,.sl o1 i1 lr.length,.sl o2 i2 sr.length,.int .i64 s.keep,.int .i64 s.time,d]],6,28,false⟩ /\
  H'.at (H.length+1)=some ⟨[[.nils,.nils,.nils,.int .i64 0,.int .i64 0,.nils]],6,28,false⟩ /\
  H'.at (H.length+2)=some ⟨[[v1,lv,sv,.int .i64 s.keep,.int .i64 s.time,v2]],6,28,false⟩ /\
  OwnE H H' v1 s.top/\OwnI H H' v2 s.tms/\Own 1 23 H' lv lr'/\(∀ x,lv.of x->H.length+3<=x)/\(∀ x,v2.of x->¬lv.of x)/\All2 (LvRow H') lr' (s.lev.take i)/\OffB H v1 lr' /\
  Own 5 76 H' sv sr'/\(∀ x,sv.of x->H.length+3<=x)/\All2 (SvRow H' (fun x=>lv.of x\/v2.of x)) sr' (s.sv.take i)) 3 ?_ (tC_mono AC_mono) ?_
 ·refine⟨0,.sl H2.length 0 0,.sl (H2.length+1) 0 0,[],[],rfl,by simp,by simp,by simp,by simp,?_,at_off q0 m0 _,at_off q1 m1 _,at_in lt22 _,?_,?_,?_,?_,?_,trivial,OffB.nil _ _,?_,?_,trivial⟩
  ·exact (p1.set (by omega) _).app _
  ·exact (w1.fr (Fr.one H2 (H.length+2) _) (fun x hx=>w1.rows.ne_of q2 (by simp) hx)).le (HLe.self _ _)
  ·exact (p2.fr (Fr.one H2 (H.length+2) _) (fun x hx=>p2.rows.ne_of q2 (by simp) hx)).le (HLe.self _ _)
  ·exact Own.obj (R:=[]) ((at_len _).trans Hp.at_0) rfl
  ·intro x hx; simp at hx; omega
  ·intro x hx h; have:=p2.1.lt hx; simp at h; omega
  ·exact Own.obj (R:=[]) ((at_len1 1 _).trans (by simp)) rfl
  ·intro x hx; simp at hx; omega
 rintro m t H' ⟨i,lv,sv,lr',sr',him,h1,h2,h3,h4,hle,k0,k1,k2,hv1,hv2,hlv,hlva,hlvd,hlvr,hoff,hsv,hsva,hsvr⟩
 have d1:=hle.2 _ _ c1
 have d2:=hle.2 _ _ e1
 simp [h1,h2,h3,h4,k0,hlr3]
 refine c_split (fun hq=>?_) (fun hq=>?_)<;>simp at hq
 ·have hi3:i<3:=by omega
  have hw:=wrapN (i:=i) (by omega)
  obtain⟨u,r1,r2⟩:=row1 i (by omega)
  obtain⟨r,r3,r4⟩:=row2 i (by omega)
  have hes:=hB2 _ (List.getElem_mem (show i<s.lev.length by omega))
  have k0':=(HLe.self H' [some ⟨[],4,45,false⟩]).2 _ _ k0
  have k2':=(HLe.self H' [some ⟨[],4,45,false⟩]).2 _ _ k2
  have d1':=(HLe.self H' [some ⟨[],4,45,false⟩]).2 _ _ d1
  have hiI:(i:Int)<3:=by omega
  simp [h1,h2,h3,h4,k0,k2,hlr3,d1,c2,r1,hi3,hiI,k0',k2',d1']
  refine appG_cat (bytes:=40) (row:=entRow) (xs:=[]) (ys:=s.lev[i]'(by omega)) (H0:=H) (OwnM.lit0 hle) ((r2.le hle).le (HLe.self _ _)) (hle.app _) (by have:=hes.1; simp; omega) (fun v3 H4 g1 g2 g3 g4=>?_)
  have hF4:HLe H' H4:=⟨Nat.le_trans (by simp) g3.1,fun o ob ho=>g3.2 o ob (by have:=Hp.at_lt ho; simp; omega) ((HLe.self _ _).2 _ _ ho)⟩
  have k04:=hF4.2 _ _ k0
  have k24:=hF4.2 _ _ k2
  simp [h1,h2,h3,h4,k24,g2.rows.one,g2.rows.cells,g2.rows.cells1]
  have k24':=(HLe.self H4 [some ⟨[[v3]],1,23,false⟩]).2 _ _ k24
  simp [k24']
  refine appG_one' (bytes:=24) (R:=lr') rfl (hlv.le hF4) (by have:=All2.length hlvr; simp at this; omega) (fun v5 H5 b1 b2 b3=>?_)
  have hF5:Fr lv.of H' H5:=(hF4.fr (S:=lv.of)).same b2
  have k05:=hF5.2 _ _ (fun hx=>by have:=hlva _ hx; omega) k0
  have k15:=hF5.2 _ _ (fun hx=>by have:=hlva _ hx; omega) k1
  have k25:=hF5.2 _ _ (fun hx=>by have:=hlva _ hx; omega) k2
  have lt5:=Hp.at_lt k25
  have hle5:HLe H H5:=hle.fr_le hF5 (fun x hx=>by have:=hlva x hx; omega)
  have f1:=hle5.2 _ _ c1
  have f2:=hle5.2 _ _ e1
  have no2:H.length+2≠o2:=by have:=Hp.at_lt e1; omega
  simp [h1,h2,h3,h4,k25,b1.rows.one,b1.rows.cells,b1.rows.cells1,at_off k05 m0,at_off f2 no2,e2,r3,hsr3,hi3,hiI,(Hp.at_set_ne m0).trans k05,(Hp.at_set_ne no2).trans f2,at_len,set_len,r4.one]
  obtain⟨X,hX⟩:∃ X:Option Ob,X=some ⟨[[v1,v5,sv,.int .i64 s.keep,.int .i64 s.time,v2]],6,28,false⟩:=⟨_,rfl⟩
  rw [<- hX]
  have hsvl:=hB6 _ (List.getElem_mem (show i<s.sv.length by omega))
  refine appG_cat (bytes:=16) (row:=strRow) (xs:=[]) (ys:=(s.sv[i]'(by omega)).r) (H0:=H) ⟨Own.obj (R:=[]) ((at_len1 1 _).trans (by simp)) rfl,fun x hx=>by simp at hx; have:=hle5.1; omega⟩ (r4.le ((hle5.set (by omega) X).app _)) ((hle5.set (by omega) X).app _) (by simp; omega) (fun v6 H6 p1 p2 p3 p4=>?_)
  have hF6:Fr (fun x=>x=H.length+2) H5 H6:=((Fr.one H5 (H.length+2) X).le_fr (HLe.self _ _)).trans p3 (fun x hx=>.inr (by simp at hx; omega))
  have nn:∀ x,x<=H5.length->¬AV.of (.sl (H5.length+1) 0 0) x:=fun x hx h=>by simp at h; omega
  have k06:=hF6.2 _ _ (by omega) k05
  have k16:=hF6.2 _ _ (by omega) k15
  have k26:H6.at (H.length+2)=_:=p3.2 _ _ (nn _ (by omega)) ((at_in lt5 X).trans hX)
  have kb6:H6.at H5.length=_:=p3.2 _ _ (nn _ (Nat.le_refl _)) ((at_len X).trans Hp.at_0)
  have lt6:=Hp.at_lt k26
  have ltb:=Hp.at_lt kb6
  have nb2:H5.length≠H.length+2:=by omega
  simp [h1,h2,h3,h4,kb6,k26,p2.rows.one,p2.rows.cells,p2.rows.cells1,(Hp.at_set_ne nb2).trans k26,Hp.at_set _ ltb]
  obtain⟨Y,hY⟩:∃ Y:Option Ob,Y=some ⟨[[.str (s.sv[i]'(by omega)).l,.str (s.sv[i]'(by omega)).m,.str (s.sv[i]'(by omega)).f,v6,.int .i64 (s.sv[i]'(by omega)).k]],5,76,false⟩:=⟨_,rfl⟩
  have nd:∀ x,sv.of x->x<H'.length:=fun x hx=>hsv.lt hx
  have nl:∀ x,lv.of x->x<H'.length:=fun x hx=>hlv.lt hx
  have hll:=hF4.1
  have hl5:=hF5.1
  have hsv6:Own 5 76 H6 sv sr':=(hsv.fr hF5 (fun x hx h=>hlv.rows.apart hsv.rows (by simp) h hx)).fr hF6 (fun x hx=>by have:=hsva x hx; omega)
  refine appG_one' (bytes:=80) (R:=sr') (by simp) (hsv6.fr (Fr.one H6 H5.length _) (fun x hx=>by have:=nd x hx; omega)) (by have:=All2.length hsvr; simp at this; omega) (fun v7 H7 q1 q2 q3=>?_)
  have hF7:Fr (fun x=>x=H5.length\/sv.of x) H6 H7:=((Fr.one H6 H5.length _).mono (fun x hx=>.inl (.inl hx))).trans q2 (fun x hx=>.inl (.inr hx))
  have k07:=hF7.2 _ _ (fun hh=>hh.elim (fun h=>by omega) (fun h=>by have:=hsva _ h; omega)) k06
  have k17:=hF7.2 _ _ (fun hh=>hh.elim (fun h=>by omega) (fun h=>by have:=hsva _ h; omega)) k16
  have k27:=hF7.2 _ _ (fun hh=>hh.elim (fun h=>by omega) (fun h=>by have:=hsva _ h; omega)) k26
  have lt7:=Hp.at_lt k27
  simp [h1,h2,h3,h4,k27,q1.rows.one,q1.rows.cells,q1.rows.cells1,hw]
  obtain⟨Z,hZ⟩:∃ Z:Option Ob,Z=some ⟨[[v1,v5,v7,.int .i64 s.keep,.int .i64 s.time,v2]],6,28,false⟩:=⟨_,rfl⟩
  rw [<- hZ]
  have hS:=Fr.one H7 (H.length+2) Z
  have hF58:Fr (fun x=>x=H.length+2\/sv.of x) H5 (List.set H7 (H.length+2) Z):=((hF6.mono (fun x hx=>.inl (.inl hx))).trans hF7 (fun x hx=>hx.elim (fun h=>.inr (by omega)) (fun h=>.inl (.inr h)))).trans hS (fun x hx=>.inl (.inl hx))
  have hF8:Fr (fun x=>lv.of x\/sv.of x\/x=H.length+2) H' (List.set H7 (H.length+2) Z):=(hF5.mono (fun x hx=>.inl (.inl hx))).trans hF58 (fun x hx=>hx.elim (fun h=>.inl (.inr (.inr h))) (fun h=>.inl (.inr (.inl h))))
  have ns4:∀ x ob,(lv.of x\/sv.of x\/x=H.length+2)->H'.at x=some ob->ob.esz≠4:=fun x ob hs ho=>by
   rcases hs with h | h | h
   ·rw [hlv.esz h ho]; decide
   ·rw [hsv.esz h ho]; decide
   ·subst h; rw [k2] at ho; cases ho; simp
  have ns58:∀ x ob,(x=H.length+2\/sv.of x)->H5.at x=some ob->ob.esz≠1/\ob.esz≠4:=fun x ob hs ho=>by
   rcases hs with h | h
   ·subst h; rw [k25] at ho; cases ho; simp
   ·have hsv5:Own 5 76 H5 sv sr':=hsv.fr hF5 (fun x hx h=>hlv.rows.apart hsv.rows (by simp) h hx)
    rw [hsv5.esz h ho]; decide
  have v5a:∀ x,v5.of x->lv.of x\/H'.length<=x:=fun x hx=>(b3 x hx).imp id (fun h=>by omega)
  have v7a:∀ x,v7.of x->sv.of x\/H5.length<=x:=fun x hx=>(q3 x hx).imp id (fun h=>by simp at h; have:=hF6.1; omega)
  have v3a:∀ x,v3.of x->H'.length<=x:=fun x hx=>(g4 x hx).elim (fun h=>by simp at h; omega) (fun h=>by simp at h; omega)
  have v6a:∀ x,v6.of x->H5.length<x:=fun x hx=>(p4 x hx).elim (fun h=>by simp at h; omega) (fun h=>by simp at h; omega)
  have tk1:s.lev.take (i+1)=s.lev.take i++[s.lev[i]'(by omega)]:=List.take_succ_eq_append_getElem (by omega)
  have tk2:s.sv.take (i+1)=s.sv.take i++[s.sv[i]'(by omega)]:=List.take_succ_eq_append_getElem (by omega)
  refine⟨m-1,by omega,i+1,by omega,by omega,hle.fr_le hF8 (fun x hx=>hx.elim (fun h=>by have:=hlva x h; omega) (fun hx=>hx.elim (fun h=>by have:=hsva x h; omega) (fun h=>by omega))),((Hp.at_set_ne m0).trans k07).trans (by rw [hlr3,hsr3]),(Hp.at_set_ne m1).trans k17,v5,v7,(Hp.at_set _ lt7).trans hZ,?_,?_,lr'++[[v3]],?_,?_,?_,?_,hoff.add (fun y hy hy3=>by have:=v3a y hy3; have:=hv1.1.lt hy; omega) (fun y hy=>by have:=v3a y hy; have:=hle.1; omega),sr'++[[.str (s.sv[i]'(by omega)).l,.str (s.sv[i]'(by omega)).m,.str (s.sv[i]'(by omega)).f,v6,.int .i64 (s.sv[i]'(by omega)).k]],?_,?_,?_⟩
  ·exact hv1.fr hF8 (fun x hx hs=>by
    rcases hs with h | h | h
    ·exact hv1.rows.apart hlv.rows (by simp) hx h
    ·exact hv1.rows.apart hsv.rows (by simp) hx h
    ·exact hv1.rows.ne_of k2 (by simp) hx h)
  ·exact hv2.fr hF8 (fun x hx hs=>by
    rcases hs with h | h | h
    ·exact hlvd x hx h
    ·exact hv2.rows.apart hsv.rows (by simp) hx h
    ·exact hv2.rows.ne_of k2 (by simp) hx h)
  ·exact b1.fr hF58 (fun x hx hs=>by
    rcases hs with h | h
    ·rcases v5a x hx with hh | hh
     ·have:=hlva x hh; omega
     ·have:=Hp.at_lt k2; omega
    ·exact b1.rows.apart (hsv.fr hF5 (fun x hx h=>hlv.rows.apart hsv.rows (by simp) h hx)).rows (by simp) hx h)
  ·intro x hx
   rcases v5a x hx with h | h
   ·exact hlva x h
   ·have:=Hp.at_lt k2; omega
  ·intro x hx h
   rcases v5a x h with hh | hh
   ·exact hlvd x hx hh
   ·have:=hv2.1.lt hx; omega
  ·rw [tk1]
   refine (All2.mono (fun row es h=>h.fr hF8 ns4) hlvr).append ⟨⟨v3,rfl,?_⟩,trivial⟩
   have hv35:Ents H5 v3 (s.lev[i]'(by omega)):=by
    have h9:Ents H4 v3 (s.lev[i]'(by omega)):=g2.ents
    exact h9.fr b2 (fun x hx h=>by have:=v3a x hx; have:=nl x h; omega)
   exact Rows.frz hv35 hF58 (fun x ob hs ho=>(ns58 x ob hs ho).2)
  ·exact q1.fr hS (fun x hx=>by
    rcases v7a x hx with h | h
    ·have:=hsva x h; omega
    ·omega)
  ·intro x hx
   rcases v7a x hx with h | h
   ·exact hsva x h
   ·omega
  ·rw [tk2]
   refine (All2.mono (fun row sv h=>?_) hsvr).append ⟨⟨v6,rfl,?_,?_⟩,trivial⟩
   ·refine SvRow.fr (X':=fun x=>v5.of x\/v2.of x) h hF8 (fun x ob hs ho=>?_) (fun x hx hx'=>hx'.elim (fun h=>(v5a x h).elim .inl (fun h=>by omega)) .inr)
    rcases hs with h | h | h
    ·exact .inr (.inl h)
    ·exact .inl (by rw [hsv.esz h ho]; decide)
    ·exact .inl (by subst h; rw [k2] at ho; cases ho; simp)
   ·have e6:Strs H6 v6 (s.sv[i]'(by omega)).r:=p2.strs
    exact (e6.fr hF7 (fun x hx hs=>by
     rcases hs with h | h
     ·have:=v6a x hx; omega
     ·have:=v6a x hx; have:=nd x h; omega)).fr hS (fun x hx h=>by have:=v6a x hx; omega)
   ·intro x hx h
    have h6:=v6a x hx
    rcases h with h | h
    ·rcases v5a x h with hh | hh
     ·have:=nl x hh; omega
     ·have:=b1.lt h; omega
    ·have:=hv2.1.lt h; omega
 ·have hi3:i=3:=by omega
  subst hi3
  have t1:s.lev.take 3=s.lev:=List.take_of_length_le (by omega)
  have t2:s.sv.take 3=s.sv:=List.take_of_length_le (by omega)
  rw [t1] at hlvr
  rw [t2] at hsvr
  have ltk:=Hp.at_lt k1
  obtain⟨ol,rfl⟩:=hlv.sl (by rw [hlvr.length]; omega)
  obtain⟨os,rfl⟩:=hsv.sl (by rw [hsvr.length]; omega)
  have m2:H.length+1≠H.length+2:=by omega
  simp [h2,h3,k1,k2,hv1.rows.one,hv2.rows.one,Hp.at_set _ ltk]
  have hst:=Fr.one H' (H.length+1) (some ⟨[[v1,.sl ol 0 lr'.length,.sl os 0 sr'.length,.int .i64 s.keep,.int .i64 s.time,v2]],6,28,false⟩)
  refine⟨hle.fr_le hst (fun x hx=>by omega),v1,ol,os,v2,lr',sr',by rw [hlvr.length,hsvr.length]; rfl,hv1.fr hst (fun x hx=>hv1.rows.ne_of k1 (by simp) hx),?_,?_,?_,?_,hv2.fr hst (fun x hx=>hv2.rows.ne_of k1 (by simp) hx),fun hx=>hlvd ol hx rfl,?_,?_,hl3,hs3,hoff⟩
  ·rw [<- hlvr.length]
   exact hlv.fr hst (fun x hx=>hlv.rows.ne_of k1 (by simp) hx)
  ·exact All2.mono (fun row es h=>h.fr hst (fun x ob hx ho=>by subst hx; rw [k1] at ho; cases ho; simp)) hlvr
  ·rw [<- hsvr.length]
   exact hsv.fr hst (fun x hx=>hsv.rows.ne_of k1 (by simp) hx)
  ·exact All2.mono (fun row sv h=>h.fr hst (fun x ob hx ho=>.inl (by subst hx; rw [k1] at ho; cases ho; simp)) (fun x _ h=>h)) hsvr
  ·have:=hlva ol rfl; omega
  ·have:=hsva os rfl; omega
end Go.Proofs.YtepeokaplbbpoaaGreat.B

namespace Go.Proofs.YtepeokaplbbpoaaGreat.B
open Go.RowKit
set_option linter.unusedVariables false
set_option linter.unusedSimpArgs false
def newerI (a b:List Ent):Bool:=a.all fun x=>b.all fun y=>!(decide (x.key=y.key)&&decide (x.time<=y.time))
def lateI (time:Int) (a:List Ent):Bool:=a.any fun e=>decide (time<e.time)
def aboveI (s:Sr) (n:Nat):List Ent:=s.top++(s.lev.take n).flatten
def okI (s:Sr) (n:Nat):Bool:=runOk (s.lev.getD n [])&&decide ((s.lev.getD n []).length<=sizeL n)&&decide (sieveO (keysR (s.lev.getD n [])) s.keep=some (s.sv.getD n default))&&newerI (aboveI s n) (s.lev.getD n [])&&!lateI s.time (aboveI s n)
def headI (s:Sr):Bool:=decide (s.lev.length=3)&&decide (s.sv.length=3)&&runOk s.top&&decide (s.top.length<=4)&&decide (0<=s.time/\s.time<=999)&&timesR s.tms s.time
def storeI (s:Sr):Bool:=headI s&&okI s 0&&okI s 1&&okI s 2
theorem newerI_iff (a b:List Ent):newerI a b=true↔∀ x∈a,∀ y∈b,x.key=y.key->y.time<x.time:=by
 simp only [newerI,List.all_eq_true,Bool.not_eq_true',Bool.and_eq_false_iff,decide_eq_false_iff_not]
 constructor
 ·intro h x hx y hy e
  rcases h x hx y hy with h | h
  ·exact absurd e h
  ·omega
 ·intro h x hx y hy
  by_cases e:x.key=y.key
  ·have:=h x hx y hy e
   exact .inr (by omega)
  ·exact .inl e
theorem lateI_iff (time:Int) (a:List Ent):lateI time a=false↔∀ x∈a,x.time<=time:=by
 rw [<- Bool.not_eq_true]
 simp only [lateI,List.any_eq_true,decide_eq_true_eq]
 constructor
 ·intro h x hx
  by_cases h':time<x.time
  ·exact absurd ⟨x,hx,h'⟩ h
  ·omega
 ·rintro h ⟨x,hx,h'⟩
  have:=h x hx
  omega
theorem atR_first {k:ByteArray}:∀ {b:List Ent},(∀ e∈b,e.time<=999)->b.Pairwise (fun x y=>ahead x y=true)->(atR k 999 b=none->∀ y∈b,y.key≠k)/\(∀ f,atR k 999 b=some f->f∈b/\f.key=k/\∀ y∈b,y.key=k->y.time<=f.time)
 | [],_,_=>⟨fun _ y hy=>(by cases hy),fun f h=>(by cases h)⟩
 | e :: es,ht,hp=>by
  obtain⟨h1,h2⟩:=List.pairwise_cons.1 hp
  have ih:=atR_first (k:=k) (b:=es) (fun x hx=>ht x (by simp [hx])) h2
  rw [atR]
  by_cases hk:e.key=k
  ·rw [if_pos ⟨hk,ht e (by simp)⟩]
   refine⟨fun h=>(by cases h),fun f h=>?_⟩
   injection h with h
   subst h
   refine⟨by simp,hk,fun y hy hyk=>?_⟩
   rcases List.mem_cons.1 hy with rfl | hy
   ·exact Int.le_refl _
   ·have:=h1 y hy
    rw [ahead_iff,hk,hyk,sless_irrefl] at this
    rcases this with h | h
    ·cases h
    ·omega
  ·rw [if_neg (fun h=>hk h.1)]
   refine⟨fun h y hy=>?_,fun f h=>?_⟩
   ·rcases List.mem_cons.1 hy with rfl | hy
    ·exact hk
    ·exact ih.1 h y hy
   ·obtain⟨g1,g2,g3⟩:=ih.2 f h
    refine⟨by simp [g1],g2,fun y hy hyk=>?_⟩
    rcases List.mem_cons.1 hy with rfl | hy
    ·exact absurd hyk hk
    ·exact g3 y hy hyk
theorem entOk_time {e:Ent} (h:entOk e=true):1<=e.time/\e.time<=999:=by
 simp only [entOk,Bool.and_eq_true,decide_eq_true_eq] at h
 exact h.2
theorem newestR_iff {b:List Ent} (hb:runOk b=true) (time:Int):∀ (l:List Ent),newestR b time l=true↔∀ x∈l,x.time<=time/\∀ y∈b,x.key=y.key->y.time<x.time
 | []=>by simp [newestR]
 | e :: es=>by
  have hp:=runOk_pair hb
  have hat:=atR_first (k:=e.key) (b:=b) (fun x hx=>(entOk_time (hp.2.1 x hx)).2) hp.1
  rw [newestR,Bool.and_eq_true,newestR_iff hb time es]
  have he:newE b time e=true↔(e.time<=time/\∀ y∈b,e.key=y.key->y.time<e.time):=by
   unfold newE
   rw [Bool.and_eq_true,decide_eq_true_eq]
   refine and_congr_right (fun _=>?_)
   cases hc:atR e.key 999 b with
   | none =>
    simp only
    refine⟨fun _ y hy hk=>absurd hk.symm (hat.1 hc y hy),fun _=>trivial⟩
   | some f =>
    obtain⟨g1,g2,g3⟩:=hat.2 f hc
    simp only [decide_eq_true_eq]
    exact⟨fun h y hy hk=>by have:=g3 y hy hk.symm; omega,fun h=>h f g1 g2.symm⟩
  rw [he]
  simp
theorem aboveI_0 (s:Sr):aboveI s 0=s.top:=by simp [aboveI]
theorem storeI_eq (s:Sr):storeI s=storeOk s:=by
 obtain⟨top,lev,sv,keep,time,tms⟩:=s
 by_cases hl:lev.length=3
 case neg=>simp [storeI,headI,storeOk,headOk,hl]
 by_cases hs:sv.length=3
 case neg=>simp [storeI,headI,storeOk,headOk,hs]
 match lev,hl with
 | [l0,l1,l2],_ =>
 match sv,hs with
 | [s0,s1,s2],_ =>
 rw [Bool.eq_iff_iff]
 simp only [storeI,headI,storeOk,headOk,okI,okAt,levelOk,lowOk,aboveI,Bool.and_eq_true,decide_eq_true_eq,Bool.not_eq_true',List.getD_cons_zero,List.getD_cons_succ,List.take_zero,List.take_succ_cons,List.flatten_nil,List.flatten_cons,List.append_nil,List.length_cons,List.length_nil]
 constructor
 ·rintro ⟨⟨⟨⟨⟨⟨⟨⟨-,-⟩,t1⟩,t2⟩,t3⟩,t4⟩,⟨⟨⟨⟨a1,a2⟩,a3⟩,a4⟩,a5⟩⟩,⟨⟨⟨⟨b1,b2⟩,b3⟩,b4⟩,b5⟩⟩,⟨⟨⟨⟨c1,c2⟩,c3⟩,c4⟩,c5⟩⟩
  rw [newerI_iff] at a4 b4 c4
  rw [lateI_iff] at a5 b5 c5
  have hk:0<=keep/\keep<=5:=by
   unfold sieveO at a3
   split at a3
   ·rename_i h
    exact h.2
   ·cases a3
  have mk:∀ {b l:List Ent},runOk b=true->(∀ x∈l,x.time<=time)->(∀ x∈l,∀ y∈b,x.key=y.key->y.time<x.time)->newestR b time l=true:=fun hb h1 h2=>(newestR_iff hb time _).2 (fun x hx=>⟨h1 x hx,h2 x hx⟩)
  refine⟨⟨⟨⟨⟨⟨trivial,trivial⟩,hk⟩,t3⟩,t4⟩,t1,t2⟩,⟨⟨⟨a1,a2⟩,a3⟩,?_,?_⟩,⟨⟨⟨b1,b2⟩,b3⟩,?_,?_⟩,⟨⟨c1,c2⟩,c3⟩,?_,?_⟩
  ·exact mk a1 a5 a4
  ·intro k hk1 hk2
   have:k=1\/k=2:=by omega
   rcases this with rfl | rfl
   ·exact mk b1 (fun x hx=>b5 x (by simp [hx])) (fun x hx=>b4 x (by simp [hx]))
   ·exact mk c1 (fun x hx=>c5 x (by simp [hx])) (fun x hx=>c4 x (by simp [hx]))
  ·exact mk b1 a5 (fun x hx=>b4 x (by simp [hx]))
  ·intro k hk1 hk2
   have:k=2:=by omega
   subst this
   exact mk c1 (fun x hx=>c5 x (by simp [hx])) (fun x hx=>c4 x (by simp [hx]))
  ·exact mk c1 a5 (fun x hx=>c4 x (by simp [hx]))
  ·intro k hk1 hk2
   omega
 ·rintro ⟨⟨⟨⟨⟨⟨-,-⟩,hk⟩,t3⟩,t4⟩,t1,t2⟩,⟨⟨⟨a1,a2⟩,a3⟩,a4,a5⟩,⟨⟨⟨b1,b2⟩,b3⟩,b4,b5⟩,⟨⟨c1,c2⟩,c3⟩,c4,c5⟩
  have a5b:=(newestR_iff b1 time _).1 (a5 1 (by omega) (by omega))
  have a5c:=(newestR_iff c1 time _).1 (a5 2 (by omega) (by omega))
  have b5c:=(newestR_iff c1 time _).1 (b5 2 (by omega) (by omega))
  rw [newestR_iff a1] at a4
  rw [newestR_iff b1] at b4
  rw [newestR_iff c1] at c4
  refine⟨⟨⟨⟨⟨⟨⟨⟨trivial,trivial⟩,t1⟩,t2⟩,t3⟩,t4⟩,⟨⟨⟨⟨a1,a2⟩,a3⟩,?_⟩,?_⟩⟩,⟨⟨⟨⟨b1,b2⟩,b3⟩,?_⟩,?_⟩⟩,⟨⟨⟨⟨c1,c2⟩,c3⟩,?_⟩,?_⟩⟩
  ·exact (newerI_iff _ _).2 (fun x hx=>(a4 x hx).2)
  ·exact (lateI_iff _ _).2 (fun x hx=>(a4 x hx).1)
  ·refine (newerI_iff _ _).2 (fun x hx=>?_)
   rcases List.mem_append.1 hx with h | h
   ·exact (b4 x h).2
   ·exact (a5b x h).2
  ·refine (lateI_iff _ _).2 (fun x hx=>?_)
   rcases List.mem_append.1 hx with h | h
   ·exact (b4 x h).1
   ·exact (a5b x h).1
  ·refine (newerI_iff _ _).2 (fun x hx=>?_)
   rcases List.mem_append.1 hx with h | h
   ·exact (c4 x h).2
   ·rcases List.mem_append.1 h with h | h
    ·exact (a5c x h).2
    ·exact (b5c x h).2
  ·refine (lateI_iff _ _).2 (fun x hx=>?_)
   rcases List.mem_append.1 hx with h | h
   ·exact (c4 x h).1
   ·rcases List.mem_append.1 h with h | h
    ·exact (a5c x h).1
    ·exact (b5c x h).1
end Go.Proofs.YtepeokaplbbpoaaGreat.B

namespace Go.Proofs.YtepeokaplbbpoaaGreat.B
open Go.RowKit Go.Proofs
set_option linter.unusedVariables false
set_option linter.unusedSimpArgs false
variable {E:Env}
abbrev zst:AV:=.ag [.nils,.nils,.nils,.int .i64 0,.int .i64 0,.nils]
def stOf:AV->Nat->Prop
 | .ag (_ :: .sl ol _ _ :: .sl os _ _ :: _),x=>x=ol\/x=os
 | _,_=>False
theorem Own.ob {esz ety:Nat} {H:Hp} {o n:Nat} {R:List (List AV)} (h:Own esz ety H (.sl o 0 n) R):n=R.length/\∃ ob,H.at o=some ob/\ob.ro=false/\ob.esz=esz/\ob.ety=ety/\R.length<=ob.rows.length/\ob.rows.take R.length=R:=by
 rcases h with ⟨h,_⟩ | ⟨h,_⟩ | ⟨o',ob,h,k⟩
 ·cases h
 ·cases h
 ·cases h
  exact⟨rfl,ob,k⟩
theorem Own.setRow {esz ety:Nat} {H H':Hp} {o n:Nat} {R:List (List AV)} (h:Own esz ety H (.sl o 0 n) R) {ob:Ob} (ho:H.at o=some ob) (i:Nat) (row:List AV) (h':H'.at o=some { ob with rows:=ob.rows.set i row }):Own esz ety H' (.sl o 0 n) (R.set i row):=by
 obtain⟨rfl,ob',k1,k2,k3,k4,k5,k6⟩:=h.ob
 rw [ho] at k1
 cases k1
 refine .inr (.inr ⟨o,_,by simp,h',k2,k3,k4,by simpa using k5,?_⟩)
 simp only [List.length_set]
 rw [List.take_set,k6]
theorem MSt_set {a r r' d:AV} {ol os:Nat} {s:Sr} {H0 H H':Hp} {lr sr:List (List AV)} {i:Nat} {es:List Ent} {x:Sv} {obl obs:Ob}
  (ha:OwnE H0 H a s.top) (hlv:Own 1 23 H (.sl ol 0 s.lev.length) lr) (hlr:All2 (LvRow H) lr s.lev) (hsv:Own 5 76 H (.sl os 0 s.sv.length) sr) (hsr:All2 (SvRow H (fun x=>ol=x\/d.of x)) sr s.sv)
  (hd:OwnI H0 H d s.tms) (hdo:¬d.of ol) (hol:H0.length<=ol) (hos:H0.length<=os) (hl3:s.lev.length=3) (hs3:s.sv.length=3) (k1:H.at ol=some obl) (j1:H.at os=some obs)
  (hF:Fr (fun y=>y=ol\/y=os) H H') (q1:H'.at ol=some ⟨obl.rows.set i [r],1,obl.ety,false⟩) (q2:H'.at os=some ⟨obs.rows.set i [.str x.l,.str x.m,.str x.f,r',.int .i64 x.k],5,obs.ety,false⟩)
  (hr:Ents H r es) (hr':Strs H' r' x.r) (hr'o:¬r'.of ol) (hr'd:∀ y,r'.of y->¬d.of y) (hoff:OffB H0 a lr) (hra:∀ y,r.of y->¬a.of y) (hrb:∀ y,r.of y->H0.length<=y) :
  MSt H0 H' (stAV a (.sl ol 0 3) (.sl os 0 3) s d) { s with lev:=s.lev.set i es,sv:=s.sv.set i x }:=by
 have el:=hlv.ob.2
 have es':=hsv.ob.2
 have z1:obl.esz=1:=by obtain⟨ob,h1,h2,h3,_⟩:=el; rw [k1] at h1; cases h1; exact h3
 have z2:obs.esz=5:=by obtain⟨ob,h1,h2,h3,_⟩:=es'; rw [j1] at h1; cases h1; exact h3
 have z3:obl.ro=false:=by obtain⟨ob,h1,h2,h3,_⟩:=el; rw [k1] at h1; cases h1; exact h2
 have z4:obs.ro=false:=by obtain⟨ob,h1,h2,h3,_⟩:=es'; rw [j1] at h1; cases h1; exact h2
 have q1:H'.at ol=some { obl with rows:=obl.rows.set i [r] }:=by rw [q1,<- z1,<- z3]
 have q2:H'.at os=some { obs with rows:=obs.rows.set i [.str x.l,.str x.m,.str x.f,r',.int .i64 x.k] }:=by rw [q2,<- z2,<- z4]
 have n4:∀ y ob,(y=ol\/y=os)->H.at y=some ob->ob.esz≠4:=fun y ob hs ho=>by
  rcases hs with h | h
  ·subst h; rw [k1] at ho; cases ho; omega
  ·subst h; rw [j1] at ho; cases ho; omega
 have hneo:ol≠os:=by
  rintro rfl
  rw [k1] at j1
  cases j1
  omega
 refine⟨a,ol,os,d,lr.set i [r],sr.set i [.str x.l,.str x.m,.str x.f,r',.int .i64 x.k],by simp [stAV,hl3,hs3],ha.fr hF (fun y hy hs=>?_),?_,?_,?_,?_,hd.fr hF (fun y hy hs=>?_),hdo,hol,hos,by simpa using hl3,by simpa using hs3,⟨fun y hy u hu hy2=>by
  rcases List.mem_or_eq_of_mem_set hu with h | h
  ·exact hoff.1 y hy u h hy2
  ·cases h
   exact hra y hy2 hy,fun u hu y hy=>by
  rcases List.mem_or_eq_of_mem_set hu with h | h
  ·exact hoff.2 u h y hy
  ·cases h
   exact hrb y hy⟩⟩
 ·rcases hs with h | h
  ·exact ha.rows.ne_of k1 (by omega) hy h
  ·exact ha.rows.ne_of j1 (by omega) hy h
 ·simp only [List.length_set]
  exact hlv.setRow k1 i _ q1
 ·exact (All2.mono (fun row es h=>h.fr hF n4) hlr).set i ⟨r,rfl,Rows.frz hr hF n4⟩
 ·simp only [List.length_set]
  exact hsv.setRow j1 i _ q2
 ·refine (All2.mono (fun row sv h=>SvRow.fr (X':=fun y=>ol=y\/d.of y) h hF (fun y ob hs ho=>?_) (fun y _ h=>h)) hsr).set i ⟨r',rfl,hr',fun y hy he=>he.elim (fun he=>hr'o (he ▸ hy)) (hr'd y hy)⟩
  rcases hs with h | h
  ·exact .inr (.inl h.symm)
  ·exact .inl (by subst h; rw [j1] at ho; cases ho; omega)
 ·rcases hs with h | h
  ·exact hdo (h ▸ hy)
  ·exact hd.rows.ne_of j1 (by omega) hy h
def topOf (v:AV) (y:Nat):Prop:=match v with
 | .ag (a :: _)=>a.of y
 | _=>False
theorem MSt.top_lt {H0 H:Hp} {v:AV} {s:Sr} (h:MSt H0 H v s) {y:Nat} (hy:topOf v y):y<H.length:=by
 obtain⟨a,ol,os,d,lr,sr,rfl,ha,_⟩:=h
 exact ha.1.lt hy
theorem l12Set_ok (v r:AV) (s:Sr) (i:Nat) (es:List Ent) (H0 H:Hp) (hs:MSt H0 H v s) (hle0:HLe H0 H) (hr:Ents H r es) (hes:EsB es) (hi:i<3) (hra:∀ y,r.of y->¬topOf v y) (hrb:∀ y,r.of y->H0.length<=y) :
  AC Tryz.prog E 61 [v,.int .i64 i,r] H (fun u H'=>match setR s i es with
   | some x=>∃ w,u=.tu [w,.bool true]/\MSt H0 H' w x/\stOf w=stOf v/\Fr (stOf v) H H'
   | none=>u=.tu [zst,.bool false]/\HLe H H'):=by
 obtain⟨a,ol,os,d,lr,sr,rfl,ha,hlv,hlr,hsv,hsr,hd,hdo,hol,hos,hl3,hs3,hoff⟩:=hs
 refine AC_by fol (tC_le tab2_ok) h_spec_l12Set ?_
 obtain⟨e1,obl,k1,k2,k3,k4,k5,k6⟩:=hlv.ob
 obtain⟨e2,obs,j1,j2,j3,j4,j5,j6⟩:=hsv.ob
 have hlr3:lr.length=3:=by omega
 have hsr3:sr.length=3:=by omega
 have hlo:ol<H.length:=Hp.at_lt k1
 have hso:os<H.length:=Hp.at_lt j1
 have hneo:ol≠os:=by
  rintro rfl
  rw [k1] at j1
  cases j1
  omega
 obtain⟨u0,hu0,_⟩:=hlr.get i (by omega) (by omega)
 obtain⟨r0,hr0,_,_⟩:=hsr.get i (by omega) (by omega)
 have k7:obl.rows[i]?=some [u0]:=by
  have:(obl.rows.take lr.length)[i]?=lr[i]?:=by rw [k6]
  rw [List.getElem?_take,if_pos (by omega)] at this
  rw [this,List.getElem?_eq_getElem (by omega),hu0]
 have j7:obs.rows[i]?=some [.str (s.sv[i]'(by omega)).l,.str (s.sv[i]'(by omega)).m,.str (s.sv[i]'(by omega)).f,r0,.int .i64 (s.sv[i]'(by omega)).k]:=by
  have:(obs.rows.take sr.length)[i]?=sr[i]?:=by rw [j6]
  rw [List.getElem?_take,if_pos (by omega)] at this
  rw [this,List.getElem?_eq_getElem (by omega),hr0]
 have hks:=keysR_short hes.2
 have hkl:=keysR_len es
 have hkb:(keysR es).length<4611686018427387904:=by have:=hes.1; omega
 have lr1:=hr.len
 obtain⟨H1,hH1⟩:∃ H1,H1=H++[some ⟨[[a,.sl ol 0 3,.sl os 0 3,.int .i64 s.keep,.int .i64 s.time,d]],6,28,false⟩,some ⟨[[.nils,.nils,.nils,.int .i64 0,.int .i64 0,.nils]],6,28,false⟩]:=⟨_,rfl⟩
 have hle1:HLe H H1:=by rw [hH1]; exact HLe.self _ _
 have b0:H1.at H.length=some ⟨[[a,.sl ol 0 3,.sl os 0 3,.int .i64 s.keep,.int .i64 s.time,d]],6,28,false⟩:=by rw [hH1]; simp
 have b1:H1.at (H.length+1)=some ⟨[[.nils,.nils,.nils,.int .i64 0,.int .i64 0,.nils]],6,28,false⟩:=by rw [hH1]; simp
 have hl1:H1.length=H.length+2:=by rw [hH1]; simp
 have m01:H.length≠H.length+1:=by omega
 have m10:H.length+1≠H.length:=by omega
 have ml0:ol≠H.length:=by omega
 have ml1:ol≠H.length+1:=by omega
 have ms0:os≠H.length:=by omega
 have ms1:os≠H.length+1:=by omega
 have hiI:(i:Int)<3:=by omega
 simp [c_spec_l12Set,stAV,ha.rows.one,hd.rows.one,hl3,hs3,<- hH1,b0]
 refine⟨cg_ex (l11Keys_ok r es H1 (hr.le hle1) hes.1) ?_,?_⟩
 ·rintro v2 H2 ⟨hle2,hk2⟩
  have b02:=hle2.2 _ _ b0
  simp [b02]
  refine⟨cg_ex (SieveOf_ok v2 (keysR es) s.keep H2 hk2.strs hks hkb) ?_,?_⟩
  ·rintro v3 H3 ⟨hle3,hret⟩
   have c0:=(hle2.trans hle3).2 _ _ b0
   have c1:=(hle2.trans hle3).2 _ _ b1
   have cl:=(hle2.trans hle3).2 _ _ (hle1.2 _ _ k1)
   have cs:=(hle2.trans hle3).2 _ _ (hle1.2 _ _ j1)
   have t0:=Hp.at_lt c0
   have t1:=Hp.at_lt c1
   have tl:=Hp.at_lt cl
   have ts:=Hp.at_lt cs
   have hle:=hle1.trans (hle2.trans hle3)
   cases hso:sieveO (keysR es) s.keep with
   | none =>
    rw [hso] at hret
    obtain rfl:=hret
    have hset:setR s i es=none:=by simp [setR,hso]
    rw [hset]
    simp [ha.rows.one,hd.rows.one,hle,c0,c1,cl,cs,k3,j3,k7,j7,k2,j2,hi,hiI,lr1,hr.slc,hr.one,hr.cells,hr.cells1,Hp.at_set_ne,Hp.at_set,Hp.at_app,List.length_set,m01,m10,ml0,ml1,ms0,ms1,hneo,hneo.symm,ml0.symm,ml1.symm,ms0.symm,ms1.symm,t0,t1,tl,ts,at_len,set_in']
    exact (hle.set (by omega) _).app _
   | some x =>
    rw [hso] at hret
    obtain⟨r',rfl,hr',hrl⟩:=hret
    simp [svAV,hr'.rows.one,ha.rows.one,hd.rows.one,hle,c0,c1,cl,cs,k3,j3,k7,j7,k2,j2,hi,hiI,lr1,hr.slc,hr.one,hr.cells,hr.cells1,Hp.at_set_ne,Hp.at_set,Hp.at_app,List.length_set,m01,m10,ml0,ml1,ms0,ms1,hneo,hneo.symm,ml0.symm,ml1.symm,ms0.symm,ms1.symm,t0,t1,tl,ts,at_len,set_in']
    refine cg_use (l12Size_ok i _ (by omega)) ?_
    simp [ha.rows.one,hd.rows.one,hle,c0,c1,cl,cs,k3,j3,k7,j7,k2,j2,hi,hiI,lr1,hr.slc,hr.one,hr.cells,hr.cells1,Hp.at_set_ne,Hp.at_set,Hp.at_app,List.length_set,m01,m10,ml0,ml1,ms0,ms1,hneo,hneo.symm,ml0.symm,ml1.symm,ms0.symm,ms1.symm,t0,t1,tl,ts,at_len,set_in']
    refine c_split (fun hq=>?_) (fun hq=>?_)<;>simp at hq
    ·have hset:setR s i es=none:=by simp [setR,hso]; omega
     rw [hset]
     simp [ha.rows.one,hd.rows.one,hle,c0,c1,cl,cs,k3,j3,k7,j7,k2,j2,hi,hiI,lr1,hr.slc,hr.one,hr.cells,hr.cells1,Hp.at_set_ne,Hp.at_set,Hp.at_app,List.length_set,m01,m10,ml0,ml1,ms0,ms1,hneo,hneo.symm,ml0.symm,ml1.symm,ms0.symm,ms1.symm,t0,t1,tl,ts,at_len,set_in']
     exact (hle.set (by omega) _).app _
    ·have hset:setR s i es=some { s with lev:=s.lev.set i es,sv:=s.sv.set i x }:=by simp [setR,hso]; omega
     rw [hset]
     simp [hr'.rows.one,ha.rows.one,hd.rows.one,hle,c0,c1,cl,cs,k3,j3,k7,j7,k2,j2,hi,hiI,lr1,hr.slc,hr.one,hr.cells,hr.cells1,Hp.at_set_ne,Hp.at_set,Hp.at_app,List.length_set,m01,m10,ml0,ml1,ms0,ms1,hneo,hneo.symm,ml0.symm,ml1.symm,ms0.symm,ms1.symm,t0,t1,tl,ts,at_len,set_in']
     have hF:=((((hle.fr (S:=fun y=>y=ol\/y=os)).set (.inl (.inl rfl)) (some ⟨obl.rows.set i [r],1,obl.ety,false⟩)).set (.inl (.inr rfl)) (some ⟨obs.rows.set i [.str x.l,.str x.m,.str x.f,r',.int .i64 x.k],5,obs.ety,false⟩)).set (o:=H.length+1) (.inr (by omega)) (some ⟨[[a,.sl ol 0 3,.sl os 0 3,.int .i64 s.keep,.int .i64 s.time,d]],6,28,false⟩))
     have hr2:=(((hr'.rows.fr (Fr.one H3 ol (some ⟨obl.rows.set i [r],1,obl.ety,false⟩)) (fun y hy hh=>by have h7:=hr'.2 y hy; have h8:=hle2.1; (try simp only [List.length_append,List.length_cons,List.length_nil] at h7); (try simp only [List.length_append,List.length_cons,List.length_nil] at h8); omega)).fr (Fr.one _ os (some ⟨obs.rows.set i [.str x.l,.str x.m,.str x.f,r',.int .i64 x.k],5,obs.ety,false⟩)) (fun y hy hh=>by have h7:=hr'.2 y hy; have h8:=hle2.1; (try simp only [List.length_append,List.length_cons,List.length_nil] at h7); (try simp only [List.length_append,List.length_cons,List.length_nil] at h8); omega)).fr (Fr.one _ (H.length+1) (some ⟨[[a,.sl ol 0 3,.sl os 0 3,.int .i64 s.keep,.int .i64 s.time,d]],6,28,false⟩)) (fun y hy hh=>by have h7:=hr'.2 y hy; have h8:=hle2.1; (try simp only [List.length_append,List.length_cons,List.length_nil] at h7); (try simp only [List.length_append,List.length_cons,List.length_nil] at h8); omega))
     exact⟨MSt_set (i:=i) (es:=es) (x:=x) ha hlv hlr hsv hsr hd hdo hol hos hl3 hs3 k1 j1 (hF.app _) (by simp [ha.rows.one,hd.rows.one,hle,c0,c1,cl,cs,k3,j3,k7,j7,k2,j2,hi,hiI,lr1,hr.slc,hr.one,hr.cells,hr.cells1,Hp.at_set_ne,Hp.at_set,Hp.at_app,List.length_set,m01,m10,ml0,ml1,ms0,ms1,hneo,hneo.symm,ml0.symm,ml1.symm,ms0.symm,ms1.symm,t0,t1,tl,ts,at_len,set_in']) (by simp [ha.rows.one,hd.rows.one,hle,c0,c1,cl,cs,k3,j3,k7,j7,k2,j2,hi,hiI,lr1,hr.slc,hr.one,hr.cells,hr.cells1,Hp.at_set_ne,Hp.at_set,Hp.at_app,List.length_set,m01,m10,ml0,ml1,ms0,ms1,hneo,hneo.symm,ml0.symm,ml1.symm,ms0.symm,ms1.symm,t0,t1,tl,ts,at_len,set_in']) hr (Rows.le hr2 (HLe.self _ _)) (fun hy=>by have h7:=hr'.2 ol hy; have h8:=hle2.1; (try simp only [List.length_append,List.length_cons,List.length_nil] at h7); (try simp only [List.length_append,List.length_cons,List.length_nil] at h8); omega) (fun y hy hdy=>by have h7:=hr'.2 y hy; have h9:=hd.1.lt hdy; have h8:=hle2.1; (try simp only [List.length_append,List.length_cons,List.length_nil] at h7); (try simp only [List.length_append,List.length_cons,List.length_nil] at h8); omega) hoff hra hrb,(hF.app _)⟩
  ·have b02':∀ l,Hp.at (H2++l) H.length=_:=fun l=>(HLe.self H2 l).2 _ _ b02
   simp [b02']
   refine cg_ex (SieveOf_ok v2 (keysR es) s.keep _ (Rows.le hk2.strs (HLe.self _ _)) hks hkb) ?_
   rintro v3 H3 ⟨hle3,hret⟩
   have c0:=(((hle2.app _).trans hle3)).2 _ _ b0
   have c1:=(((hle2.app _).trans hle3)).2 _ _ b1
   have cl:=(((hle2.app _).trans hle3)).2 _ _ (hle1.2 _ _ k1)
   have cs:=(((hle2.app _).trans hle3)).2 _ _ (hle1.2 _ _ j1)
   have t0:=Hp.at_lt c0
   have t1:=Hp.at_lt c1
   have tl:=Hp.at_lt cl
   have ts:=Hp.at_lt cs
   have hle:=hle1.trans (((hle2.app _).trans hle3))
   have nle:H.length<=H2.length:=by have h8:=hle2.1; (try simp only [List.length_append,List.length_cons,List.length_nil] at h8); omega
   have cx:H3.at H2.length=some ⟨[[.str ⟨#[]⟩,.str ⟨#[]⟩,.str ⟨#[]⟩,.nils,.int .i64 0]],5,76,false⟩:=hle3.2 _ _ (Hp.at_app_0.trans Hp.at_0)
   have tx:=Hp.at_lt cx
   have nx0:H2.length≠H.length:=by have:=hle2.1; (try simp at this); omega
   have nx1:H2.length≠H.length+1:=by have:=hle2.1; (try simp at this); omega
   have nxl:H2.length≠ol:=by have:=hle2.1; (try simp at this); omega
   have nxs:H2.length≠os:=by have:=hle2.1; (try simp at this); omega
   cases hso:sieveO (keysR es) s.keep with
   | none =>
    rw [hso] at hret
    obtain rfl:=hret
    have hset:setR s i es=none:=by simp [setR,hso]
    rw [hset]
    simp [ha.rows.one,hd.rows.one,hle,c0,c1,cl,cs,k3,j3,k7,j7,k2,j2,hi,hiI,lr1,hr.slc,hr.one,hr.cells,hr.cells1,Hp.at_set_ne,Hp.at_set,Hp.at_app,List.length_set,m01,m10,ml0,ml1,ms0,ms1,hneo,hneo.symm,ml0.symm,ml1.symm,ms0.symm,ms1.symm,t0,t1,tl,ts,cx,tx,nx0,nx1,nxl,nxs,nx0.symm,nx1.symm,nxl.symm,nxs.symm]
    exact (hle.set (o:=H2.length) (by omega) _).set (o:=H.length+1) (by omega) _
   | some x =>
    rw [hso] at hret
    obtain⟨r',rfl,hr',hrl⟩:=hret
    simp [svAV,hr'.rows.one,ha.rows.one,hd.rows.one,hle,c0,c1,cl,cs,k3,j3,k7,j7,k2,j2,hi,hiI,lr1,hr.slc,hr.one,hr.cells,hr.cells1,Hp.at_set_ne,Hp.at_set,Hp.at_app,List.length_set,m01,m10,ml0,ml1,ms0,ms1,hneo,hneo.symm,ml0.symm,ml1.symm,ms0.symm,ms1.symm,t0,t1,tl,ts,cx,tx,nx0,nx1,nxl,nxs,nx0.symm,nx1.symm,nxl.symm,nxs.symm]
    refine cg_use (l12Size_ok i _ (by omega)) ?_
    simp [ha.rows.one,hd.rows.one,hle,c0,c1,cl,cs,k3,j3,k7,j7,k2,j2,hi,hiI,lr1,hr.slc,hr.one,hr.cells,hr.cells1,Hp.at_set_ne,Hp.at_set,Hp.at_app,List.length_set,m01,m10,ml0,ml1,ms0,ms1,hneo,hneo.symm,ml0.symm,ml1.symm,ms0.symm,ms1.symm,t0,t1,tl,ts,cx,tx,nx0,nx1,nxl,nxs,nx0.symm,nx1.symm,nxl.symm,nxs.symm]
    refine c_split (fun hq=>?_) (fun hq=>?_)<;>simp at hq
    ·have hset:setR s i es=none:=by simp [setR,hso]; omega
     rw [hset]
     simp [ha.rows.one,hd.rows.one,hle,c0,c1,cl,cs,k3,j3,k7,j7,k2,j2,hi,hiI,lr1,hr.slc,hr.one,hr.cells,hr.cells1,Hp.at_set_ne,Hp.at_set,Hp.at_app,List.length_set,m01,m10,ml0,ml1,ms0,ms1,hneo,hneo.symm,ml0.symm,ml1.symm,ms0.symm,ms1.symm,t0,t1,tl,ts,cx,tx,nx0,nx1,nxl,nxs,nx0.symm,nx1.symm,nxl.symm,nxs.symm]
     exact (hle.set (o:=H2.length) (by omega) _).set (o:=H.length+1) (by omega) _
    ·have hset:setR s i es=some { s with lev:=s.lev.set i es,sv:=s.sv.set i x }:=by simp [setR,hso]; omega
     rw [hset]
     simp [hr'.rows.one,ha.rows.one,hd.rows.one,hle,c0,c1,cl,cs,k3,j3,k7,j7,k2,j2,hi,hiI,lr1,hr.slc,hr.one,hr.cells,hr.cells1,Hp.at_set_ne,Hp.at_set,Hp.at_app,List.length_set,m01,m10,ml0,ml1,ms0,ms1,hneo,hneo.symm,ml0.symm,ml1.symm,ms0.symm,ms1.symm,t0,t1,tl,ts,cx,tx,nx0,nx1,nxl,nxs,nx0.symm,nx1.symm,nxl.symm,nxs.symm]
     have hF:=(((((hle.fr (S:=fun y=>y=ol\/y=os)).set (o:=H2.length) (.inr (by omega)) (some ⟨[[.str x.l,.str x.m,.str x.f,r',.int .i64 x.k]],5,76,false⟩)).set (.inl (.inl rfl)) (some ⟨obl.rows.set i [r],1,obl.ety,false⟩)).set (.inl (.inr rfl)) (some ⟨obs.rows.set i [.str x.l,.str x.m,.str x.f,r',.int .i64 x.k],5,obs.ety,false⟩)).set (o:=H.length+1) (.inr (by omega)) (some ⟨[[a,.sl ol 0 3,.sl os 0 3,.int .i64 s.keep,.int .i64 s.time,d]],6,28,false⟩))
     have hr2:=((((Rows.fr hr'.rows (Fr.one H3 (H2.length) (some ⟨[[.str x.l,.str x.m,.str x.f,r',.int .i64 x.k]],5,76,false⟩)) (fun y hy hh=>by have h7:=hr'.2 y hy; have h8:=hle2.1; (try simp only [List.length_append,List.length_cons,List.length_nil] at h7); (try simp only [List.length_append,List.length_cons,List.length_nil] at h8); omega)).fr (Fr.one _ ol (some ⟨obl.rows.set i [r],1,obl.ety,false⟩)) (fun y hy hh=>by have h7:=hr'.2 y hy; have h8:=hle2.1; (try simp only [List.length_append,List.length_cons,List.length_nil] at h7); (try simp only [List.length_append,List.length_cons,List.length_nil] at h8); omega)).fr (Fr.one _ os (some ⟨obs.rows.set i [.str x.l,.str x.m,.str x.f,r',.int .i64 x.k],5,obs.ety,false⟩)) (fun y hy hh=>by have h7:=hr'.2 y hy; have h8:=hle2.1; (try simp only [List.length_append,List.length_cons,List.length_nil] at h7); (try simp only [List.length_append,List.length_cons,List.length_nil] at h8); omega)).fr (Fr.one _ (H.length+1) (some ⟨[[a,.sl ol 0 3,.sl os 0 3,.int .i64 s.keep,.int .i64 s.time,d]],6,28,false⟩)) (fun y hy hh=>by have h7:=hr'.2 y hy; have h8:=hle2.1; (try simp only [List.length_append,List.length_cons,List.length_nil] at h7); (try simp only [List.length_append,List.length_cons,List.length_nil] at h8); omega))
     exact⟨MSt_set (i:=i) (es:=es) (x:=x) ha hlv hlr hsv hsr hd hdo hol hos hl3 hs3 k1 j1 hF (by simp [ha.rows.one,hd.rows.one,hle,c0,c1,cl,cs,k3,j3,k7,j7,k2,j2,hi,hiI,lr1,hr.slc,hr.one,hr.cells,hr.cells1,Hp.at_set_ne,Hp.at_set,Hp.at_app,List.length_set,m01,m10,ml0,ml1,ms0,ms1,hneo,hneo.symm,ml0.symm,ml1.symm,ms0.symm,ms1.symm,t0,t1,tl,ts,cx,tx,nx0,nx1,nxl,nxs,nx0.symm,nx1.symm,nxl.symm,nxs.symm]) (by simp [ha.rows.one,hd.rows.one,hle,c0,c1,cl,cs,k3,j3,k7,j7,k2,j2,hi,hiI,lr1,hr.slc,hr.one,hr.cells,hr.cells1,Hp.at_set_ne,Hp.at_set,Hp.at_app,List.length_set,m01,m10,ml0,ml1,ms0,ms1,hneo,hneo.symm,ml0.symm,ml1.symm,ms0.symm,ms1.symm,t0,t1,tl,ts,cx,tx,nx0,nx1,nxl,nxs,nx0.symm,nx1.symm,nxl.symm,nxs.symm]) hr hr2 (fun hy=>by have h7:=hr'.2 ol hy; have h8:=hle2.1; (try simp only [List.length_append,List.length_cons,List.length_nil] at h7); (try simp only [List.length_append,List.length_cons,List.length_nil] at h8); omega) (fun y hy hdy=>by have h7:=hr'.2 y hy; have h9:=hd.1.lt hdy; have h8:=hle2.1; (try simp only [List.length_append,List.length_cons,List.length_nil] at h7); (try simp only [List.length_append,List.length_cons,List.length_nil] at h8); omega) hoff hra hrb,hF⟩
 ·have b0':∀ l,Hp.at (H1++l) H.length=_:=fun l=>(HLe.self H1 l).2 _ _ b0
  simp [b0']
  refine cg_ex (l11Keys_ok r es _ ((hr.le hle1).le (HLe.self _ _)) hes.1) ?_
  rintro v2 H2 ⟨hle2,hk2⟩
  have b02:=hle2.2 _ _ (b0' _)
  simp [b02]
  refine cg_ex (SieveOf_ok v2 (keysR es) s.keep _ hk2.strs hks hkb) ?_
  rintro v3 H3 ⟨hle3,hret⟩
  have c0:=(((HLe.self H1 _).trans hle2).trans hle3).2 _ _ b0
  have c1:=(((HLe.self H1 _).trans hle2).trans hle3).2 _ _ b1
  have cl:=(((HLe.self H1 _).trans hle2).trans hle3).2 _ _ (hle1.2 _ _ k1)
  have cs:=(((HLe.self H1 _).trans hle2).trans hle3).2 _ _ (hle1.2 _ _ j1)
  have t0:=Hp.at_lt c0
  have t1:=Hp.at_lt c1
  have tl:=Hp.at_lt cl
  have ts:=Hp.at_lt cs
  have hle:=hle1.trans (((HLe.self H1 _).trans hle2).trans hle3)
  have nle:H.length<=H1.length:=by have h8:=hle2.1; (try simp only [List.length_append,List.length_cons,List.length_nil] at h8); omega
  have cx:H3.at H1.length=some ⟨[[.str ⟨#[]⟩,.str ⟨#[]⟩,.str ⟨#[]⟩,.nils,.int .i64 0]],5,76,false⟩:=hle3.2 _ _ (hle2.2 _ _ (Hp.at_app_0.trans Hp.at_0))
  have tx:=Hp.at_lt cx
  have nx0:H1.length≠H.length:=by have:=hle2.1; (try simp at this); omega
  have nx1:H1.length≠H.length+1:=by have:=hle2.1; (try simp at this); omega
  have nxl:H1.length≠ol:=by have:=hle2.1; (try simp at this); omega
  have nxs:H1.length≠os:=by have:=hle2.1; (try simp at this); omega
  cases hso:sieveO (keysR es) s.keep with
  | none =>
   rw [hso] at hret
   obtain rfl:=hret
   have hset:setR s i es=none:=by simp [setR,hso]
   rw [hset]
   simp [ha.rows.one,hd.rows.one,hle,c0,c1,cl,cs,k3,j3,k7,j7,k2,j2,hi,hiI,lr1,hr.slc,hr.one,hr.cells,hr.cells1,Hp.at_set_ne,Hp.at_set,Hp.at_app,List.length_set,m01,m10,ml0,ml1,ms0,ms1,hneo,hneo.symm,ml0.symm,ml1.symm,ms0.symm,ms1.symm,t0,t1,tl,ts,cx,tx,nx0,nx1,nxl,nxs,nx0.symm,nx1.symm,nxl.symm,nxs.symm]
   exact (hle.set (o:=H1.length) (by omega) _).set (o:=H.length+1) (by omega) _
  | some x =>
   rw [hso] at hret
   obtain⟨r',rfl,hr',hrl⟩:=hret
   simp [svAV,hr'.rows.one,ha.rows.one,hd.rows.one,hle,c0,c1,cl,cs,k3,j3,k7,j7,k2,j2,hi,hiI,lr1,hr.slc,hr.one,hr.cells,hr.cells1,Hp.at_set_ne,Hp.at_set,Hp.at_app,List.length_set,m01,m10,ml0,ml1,ms0,ms1,hneo,hneo.symm,ml0.symm,ml1.symm,ms0.symm,ms1.symm,t0,t1,tl,ts,cx,tx,nx0,nx1,nxl,nxs,nx0.symm,nx1.symm,nxl.symm,nxs.symm]
   refine cg_use (l12Size_ok i _ (by omega)) ?_
   simp [ha.rows.one,hd.rows.one,hle,c0,c1,cl,cs,k3,j3,k7,j7,k2,j2,hi,hiI,lr1,hr.slc,hr.one,hr.cells,hr.cells1,Hp.at_set_ne,Hp.at_set,Hp.at_app,List.length_set,m01,m10,ml0,ml1,ms0,ms1,hneo,hneo.symm,ml0.symm,ml1.symm,ms0.symm,ms1.symm,t0,t1,tl,ts,cx,tx,nx0,nx1,nxl,nxs,nx0.symm,nx1.symm,nxl.symm,nxs.symm]
   refine c_split (fun hq=>?_) (fun hq=>?_)<;>simp at hq
   ·have hset:setR s i es=none:=by simp [setR,hso]; omega
    rw [hset]
    simp [ha.rows.one,hd.rows.one,hle,c0,c1,cl,cs,k3,j3,k7,j7,k2,j2,hi,hiI,lr1,hr.slc,hr.one,hr.cells,hr.cells1,Hp.at_set_ne,Hp.at_set,Hp.at_app,List.length_set,m01,m10,ml0,ml1,ms0,ms1,hneo,hneo.symm,ml0.symm,ml1.symm,ms0.symm,ms1.symm,t0,t1,tl,ts,cx,tx,nx0,nx1,nxl,nxs,nx0.symm,nx1.symm,nxl.symm,nxs.symm]
    exact (hle.set (o:=H1.length) (by omega) _).set (o:=H.length+1) (by omega) _
   ·have hset:setR s i es=some { s with lev:=s.lev.set i es,sv:=s.sv.set i x }:=by simp [setR,hso]; omega
    rw [hset]
    simp [hr'.rows.one,ha.rows.one,hd.rows.one,hle,c0,c1,cl,cs,k3,j3,k7,j7,k2,j2,hi,hiI,lr1,hr.slc,hr.one,hr.cells,hr.cells1,Hp.at_set_ne,Hp.at_set,Hp.at_app,List.length_set,m01,m10,ml0,ml1,ms0,ms1,hneo,hneo.symm,ml0.symm,ml1.symm,ms0.symm,ms1.symm,t0,t1,tl,ts,cx,tx,nx0,nx1,nxl,nxs,nx0.symm,nx1.symm,nxl.symm,nxs.symm]
    have hF:=(((((hle.fr (S:=fun y=>y=ol\/y=os)).set (o:=H1.length) (.inr (by omega)) (some ⟨[[.str x.l,.str x.m,.str x.f,r',.int .i64 x.k]],5,76,false⟩)).set (.inl (.inl rfl)) (some ⟨obl.rows.set i [r],1,obl.ety,false⟩)).set (.inl (.inr rfl)) (some ⟨obs.rows.set i [.str x.l,.str x.m,.str x.f,r',.int .i64 x.k],5,obs.ety,false⟩)).set (o:=H.length+1) (.inr (by omega)) (some ⟨[[a,.sl ol 0 3,.sl os 0 3,.int .i64 s.keep,.int .i64 s.time,d]],6,28,false⟩))
    have hr2:=((((Rows.fr hr'.rows (Fr.one H3 (H1.length) (some ⟨[[.str x.l,.str x.m,.str x.f,r',.int .i64 x.k]],5,76,false⟩)) (fun y hy hh=>by have h7:=hr'.2 y hy; have h8:=hle2.1; (try simp only [List.length_append,List.length_cons,List.length_nil] at h7); (try simp only [List.length_append,List.length_cons,List.length_nil] at h8); omega)).fr (Fr.one _ ol (some ⟨obl.rows.set i [r],1,obl.ety,false⟩)) (fun y hy hh=>by have h7:=hr'.2 y hy; have h8:=hle2.1; (try simp only [List.length_append,List.length_cons,List.length_nil] at h7); (try simp only [List.length_append,List.length_cons,List.length_nil] at h8); omega)).fr (Fr.one _ os (some ⟨obs.rows.set i [.str x.l,.str x.m,.str x.f,r',.int .i64 x.k],5,obs.ety,false⟩)) (fun y hy hh=>by have h7:=hr'.2 y hy; have h8:=hle2.1; (try simp only [List.length_append,List.length_cons,List.length_nil] at h7); (try simp only [List.length_append,List.length_cons,List.length_nil] at h8); omega)).fr (Fr.one _ (H.length+1) (some ⟨[[a,.sl ol 0 3,.sl os 0 3,.int .i64 s.keep,.int .i64 s.time,d]],6,28,false⟩)) (fun y hy hh=>by have h7:=hr'.2 y hy; have h8:=hle2.1; (try simp only [List.length_append,List.length_cons,List.length_nil] at h7); (try simp only [List.length_append,List.length_cons,List.length_nil] at h8); omega))
    exact⟨MSt_set (i:=i) (es:=es) (x:=x) ha hlv hlr hsv hsr hd hdo hol hos hl3 hs3 k1 j1 hF (by simp [ha.rows.one,hd.rows.one,hle,c0,c1,cl,cs,k3,j3,k7,j7,k2,j2,hi,hiI,lr1,hr.slc,hr.one,hr.cells,hr.cells1,Hp.at_set_ne,Hp.at_set,Hp.at_app,List.length_set,m01,m10,ml0,ml1,ms0,ms1,hneo,hneo.symm,ml0.symm,ml1.symm,ms0.symm,ms1.symm,t0,t1,tl,ts,cx,tx,nx0,nx1,nxl,nxs,nx0.symm,nx1.symm,nxl.symm,nxs.symm]) (by simp [ha.rows.one,hd.rows.one,hle,c0,c1,cl,cs,k3,j3,k7,j7,k2,j2,hi,hiI,lr1,hr.slc,hr.one,hr.cells,hr.cells1,Hp.at_set_ne,Hp.at_set,Hp.at_app,List.length_set,m01,m10,ml0,ml1,ms0,ms1,hneo,hneo.symm,ml0.symm,ml1.symm,ms0.symm,ms1.symm,t0,t1,tl,ts,cx,tx,nx0,nx1,nxl,nxs,nx0.symm,nx1.symm,nxl.symm,nxs.symm]) hr hr2 (fun hy=>by have h7:=hr'.2 ol hy; have h8:=hle2.1; (try simp only [List.length_append,List.length_cons,List.length_nil] at h7); (try simp only [List.length_append,List.length_cons,List.length_nil] at h8); omega) (fun y hy hdy=>by have h7:=hr'.2 y hy; have h9:=hd.1.lt hdy; have h8:=hle2.1; (try simp only [List.length_append,List.length_cons,List.length_nil] at h7); (try simp only [List.length_append,List.length_cons,List.length_nil] at h8); omega) hoff hra hrb,hF⟩
end Go.Proofs.YtepeokaplbbpoaaGreat.B

namespace Go.Proofs.YtepeokaplbbpoaaGreat.B
open Go.RowKit Go.Proofs
set_option linter.unusedVariables false
set_option linter.unusedSimpArgs false
variable {E:Env}
theorem MSt.obj {H0 H:Hp} {v:AV} {s:Sr} (h:MSt H0 H v s):∀ x,stOf v x->H0.length<=x/\∃ ob,H.at x=some ob/\(ob.esz=1\/ob.esz=5):=by
 obtain⟨a,ol,os,d,lr,sr,rfl,ha,hlv,hlr,hsv,hsr,hd,hdo,hol,hos,hl3,hs3,hoff⟩:=h
 obtain⟨e1,obl,k1,k2,k3,k4,k5,k6⟩:=hlv.ob
 obtain⟨e2,obs,j1,j2,j3,j4,j5,j6⟩:=hsv.ob
 rintro x (h | h)
 ·subst h
  exact⟨hol,obl,k1,.inl k3⟩
 ·subst h
  exact⟨hos,obs,j1,.inr j3⟩
theorem MSt.lt {H0 H:Hp} {v:AV} {s:Sr} (h:MSt H0 H v s) {x:Nat} (hx:stOf v x):x<H.length:=by
 obtain⟨_,ob,h1,_⟩:=h.obj x hx
 exact Hp.at_lt h1
theorem MSt.ne4 {H0 H:Hp} {v:AV} {s:Sr} (h:MSt H0 H v s):∀ x ob,stOf v x->H.at x=some ob->ob.esz≠4:=by
 intro x ob hx ho
 obtain⟨_,ob',h1,h2⟩:=h.obj x hx
 rw [ho] at h1
 cases h1
 omega
theorem MSt.fr {S:Nat->Prop} {H0 H H':Hp} {v:AV} {s:Sr} (h:MSt H0 H v s) (hf:Fr S H H') (hS:∀ x ob,S x->H.at x=some ob->ob.esz=6):MSt H0 H' v s:=by
 obtain⟨a,ol,os,d,lr,sr,rfl,ha,hlv,hlr,hsv,hsr,hd,hdo,hol,hos,hl3,hs3,hoff⟩:=h
 have no:∀ {esz ety:Nat} {v:AV} {R:List (List AV)},esz≠6->Own esz ety H v R->∀ x,v.of x->¬S x:=by
  intro esz ety v R hne ho x hx hs
  have hlt:=ho.lt hx
  rcases ho with ⟨rfl,_⟩ | ⟨rfl,_⟩ | ⟨o',ob,rfl,a2,a3,a4,_⟩
  ·exact hx.elim
  ·exact hx.elim
  ·have:o'=x:=hx
   subst this
   exact hne (a4.symm.trans (hS _ _ hs a2))
 refine⟨a,ol,os,d,lr,sr,rfl,ha.fr hf (no (by omega) ha.1),hlv.fr hf (no (by omega) hlv),All2.mono (fun _ _ h=>h.fr hf (fun x ob hs ho=>by have:=hS x ob hs ho; omega)) hlr,hsv.fr hf (no (by omega) hsv),
  All2.mono (fun _ _ h=>h.fr hf (fun x ob hs ho=>.inl (by have:=hS x ob hs ho; omega)) (fun _ _ h=>h)) hsr,hd.fr hf (no (by omega) hd.1),hdo,hol,hos,hl3,hs3,hoff⟩
theorem MSt.shape {H0 H:Hp} {v:AV} {s:Sr} (h:MSt H0 H v s):∃ a ol os d,v=.ag [a,.sl ol 0 3,.sl os 0 3,.int .i64 s.keep,.int .i64 s.time,d]/\one a=true/\one d=true/\OwnI H0 H d s.tms:=by
 obtain⟨a,ol,os,d,lr,sr,rfl,ha,hlv,hlr,hsv,hsr,hd,hdo,hol,hos,hl3,hs3,hoff⟩:=h
 exact⟨a,ol,os,d,by rw [stAV,hl3,hs3],ha.rows.one,hd.rows.one,hd⟩
def SmB (es:List Ent):Prop:=es.length<=1000/\Fits es
theorem EsB.sub {xs ys:List Ent} (h:EsB ys) (hs:xs.Sublist ys):EsB xs:=⟨Nat.lt_of_le_of_lt hs.length_le h.1,fun e he=>h.2 e (hs.subset he)⟩
theorem SmB.big {es:List Ent} (h:SmB es):EsB es:=⟨Nat.lt_of_le_of_lt h.1 (by omega),h.2⟩
theorem SmB.join {xs ys:List Ent} (h:SmB xs) (k:SmB ys):EsB (joinL xs ys):=⟨by
 rw [joinL_len]
 have:=h.1
 have:=k.1
 omega,fun e he=>(joinL_mem he).elim (h.2 e) (k.2 e)⟩
theorem setR_tms {s x:Sr} {i:Nat} {es:List Ent} (h:setR s i es=some x):x.tms=s.tms/\x.top=s.top/\x.keep=s.keep/\x.time=s.time:=by
 unfold setR at h
 split at h
 ·cases h
 ·split at h
  ·cases h
   exact⟨rfl,rfl,rfl,rfl⟩
  ·cases h
theorem intoR_tms:∀ {n:Nat} {s x:Sr} {r:List Ent},intoR n s r=some x->x.tms=s.tms/\x.top=s.top/\x.keep=s.keep/\x.time=s.time
 | 0,s,x,r,h=>setR_tms h
 | n+1,s,x,r,h=>by
  unfold intoR at h
  split at h
  ·cases h
   exact setR_tms (by assumption)
  ·split at h
   ·cases h
   ·rename_i y hy
    have h1:=intoR_tms hy
    have h2:=setR_tms h
    exact⟨h2.1.trans h1.1,h2.2.1.trans h1.2.1,h2.2.2.1.trans h1.2.2.1,h2.2.2.2.trans h1.2.2.2⟩
theorem l12Into_ok:∀ (n:Nat),n<=2->∀ (v r:AV) (s:Sr) (es:List Ent) (H0 H:Hp),MSt H0 H v s->HLe H0 H->Ents H r es->SmB es->(∀ l∈s.lev,SmB l)->s.tms.length<=1000 ->
  AC Tryz.prog E 62 [v,.int .i64 ((2-n:Nat):Int),r] H (fun u H'=>match intoR n s es with
   | some x=>∃ w,u=.tu [w,.bool true]/\MSt H0 H' w x/\stOf w=stOf v/\Fr (stOf v) H H'
   | none=>u=.tu [zst,.bool false]/\Fr (stOf v) H H'):=by
 intro n
 induction n with
 | zero =>
  intro hn v r s es H0 H hs hle0 hr hes hlev htm
  have hs0:=hs
  have hobj:=hs.obj
  have hlt:=fun x=>hs.lt (x:=x)
  obtain⟨a,ol,os,d,lr,sr,rfl,ha,hlv,hlr,hsv,hsr,hd,hdo,hol,hos,hl3,hs3,hoff⟩:=hs
  refine AC_by fol (tC_le tab2_ok) h_spec_l12Into ?_
  obtain⟨e1,obl,k1,k2,k3,k4,k5,k6⟩:=hlv.ob
  have hlr3:lr.length=3:=by omega
  have hlo:ol<H.length:=Hp.at_lt k1
  obtain⟨lvl,hlvl⟩:∃ lvl,lvl=2-0:=⟨_,rfl⟩
  rw [<- hlvl]
  have hl2:lvl=2:=by omega
  subst hl2
  obtain⟨u,hu,hue⟩:=hlr.get 2 (by omega) (by omega)
  have k7:obl.rows[2]?=some [u]:=by
   have:(obl.rows.take lr.length)[2]?=lr[2]?:=by rw [k6]
   rw [List.getElem?_take,if_pos (by omega)] at this
   rw [this,List.getElem?_eq_getElem (by omega),hu]
  have hg:s.lev.getD 2 []=s.lev[2]'(by omega):=by
   rw [List.getD_eq_getElem?_getD,List.getElem?_eq_getElem (by omega)]
   rfl
  have hlm:=hlev _ (List.getElem_mem (show 2<s.lev.length by omega))
  rw [<- hg] at hlm hue
  obtain⟨lv,hlvd⟩:∃ lv,lv=s.lev.getD 2 []:=⟨_,rfl⟩
  rw [<- hlvd] at hlm hue
  simp only [stAV,hl3,hs3] at hs0 hobj hlt ⊢
  obtain⟨H1,hH1⟩:∃ H1,H1=H++[some ⟨[[a,.sl ol 0 3,.sl os 0 3,.int .i64 s.keep,.int .i64 s.time,d]],6,28,false⟩,some ⟨[[.nils,.nils,.nils,.int .i64 0,.int .i64 0,.nils]],6,28,false⟩]:=⟨_,rfl⟩
  have hle1:HLe H H1:=by rw [hH1]; exact HLe.self _ _
  have b0:H1.at H.length=some ⟨[[a,.sl ol 0 3,.sl os 0 3,.int .i64 s.keep,.int .i64 s.time,d]],6,28,false⟩:=by rw [hH1]; simp
  have b1:H1.at (H.length+1)=some ⟨[[.nils,.nils,.nils,.int .i64 0,.int .i64 0,.nils]],6,28,false⟩:=by rw [hH1]; simp
  have hl1:H1.length=H.length+2:=by rw [hH1]; simp
  have g1:=hle1.2 _ _ k1
  simp [c_spec_l12Into,ha.rows.one,hd.rows.one,<- hH1,b0,g1,k3,k7]
  refine cg_ex (l11Join_ok r u es lv H1 (hr.le hle1) (hue.le hle1) (by have:=hes.1; have:=hlm.1; omega)) ?_
  rintro v2 H2 ⟨hle2,hj⟩
  have b02:=hle2.2 _ _ b0
  simp [b02]
  refine cg_ex (l11Trim_ok v2 d (joinL es lv) s.tms true H2 hj.ents ((hd.le hle1).le hle2).ints (hes.join hlm).1 (by omega)) ?_
  rintro v3 H3 ⟨hle3,hq⟩
  have b03:=hle3.2 _ _ b02
  have b13:=hle3.2 _ _ (hle2.2 _ _ b1)
  have hle13:=(hle1.trans hle2).trans hle3
  have hes3:EsB (trimR (joinL es lv) s.tms true):=(hes.join hlm).sub (trimR_sub _ _ _)
  simp [b03]
  refine cg_ex (l12Set_ok _ v3 s 2 _ H0 H3 (hs0.le hle13) (hle0.trans hle13) hq.ents hes3 (by omega) (fun y hy ht=>by have:=hs0.top_lt ht; have:=hq.2 y hy; have:=hle1.1; have:=hle2.1; omega) (fun y hy=>by have:=hq.2 y hy; have:=hle0.1; have:=hle1.1; have:=hle2.1; omega)) ?_
  intro v4 H4 hp
  cases h1:setR s 2 (trimR (joinL es lv) s.tms true) with
  | some x =>
   have hint:intoR 0 s es=some x:=by rw [intoR,<- hlvd,h1]
   rw [h1] at hp
   obtain⟨w,rfl,hm,hst,hfr⟩:=hp
   rw [hint]
   have n0:∀ y,H.length<=y->y<H3.length->¬stOf (.ag [a,.sl ol 0 3,.sl os 0 3,.int .i64 s.keep,.int .i64 s.time,d]) y:=fun y h1 h2 h3=>by have:=hlt y h3; omega
   have t03:=Hp.at_lt b03
   have t13:=Hp.at_lt b13
   have b04:=hfr.2 _ _ (n0 _ (by omega) t03) b03
   have b14:=hfr.2 _ _ (n0 _ (by omega) t13) b13
   have t0:=Hp.at_lt b04
   have t1:=Hp.at_lt b14
   obtain⟨wa,wl,ws,wd,hw,hwa,hwd,hwi⟩:=hm.shape
   have hw':=hw
   subst hw'
   simp [hwa,hwd,Hp.at_app,Hp.at_set,t1,b14,set_in']
   have hF:=(Fr.one H4 (H.length+1) (some ⟨[[wa,.sl wl 0 3,.sl ws 0 3,.int .i64 x.keep,.int .i64 x.time,wd]],6,28,false⟩)).app
   refine⟨hm.fr (hF _) (fun y ob hy ho=>?_),hst,((hle13.fr (S:=stOf _)).same hfr).trans (hF _) (fun y hy=>.inr (by rw [hy]; omega))⟩
   rw [hy,b14] at ho
   cases ho
   rfl
  | none =>
   have hint:intoR 0 s es=none:=by rw [intoR,<- hlvd,h1]
   rw [h1] at hp
   obtain⟨rfl,hle4⟩:=hp
   rw [hint]
   have t13:=Hp.at_lt b13
   have b14:=hle4.2 _ _ b13
   have t1:=Hp.at_lt b14
   simp [Hp.at_app,Hp.at_set,t1,b14,set_in']
   exact (((hle13.trans hle4).fr (S:=stOf _)).set (.inr (by omega)) _).app _
 | succ n ih =>
 intro hn v r s es H0 H hs hle0 hr hes hlev htm
 have hs0:=hs
 have hobj:=hs.obj
 have hlt:=fun x=>hs.lt (x:=x)
 obtain⟨a,ol,os,d,lr,sr,rfl,ha,hlv,hlr,hsv,hsr,hd,hdo,hol,hos,hl3,hs3,hoff⟩:=hs
 refine AC_by fol (tC_le tab2_ok) h_spec_l12Into ?_
 obtain⟨e1,obl,k1,k2,k3,k4,k5,k6⟩:=hlv.ob
 have hlr3:lr.length=3:=by omega
 have hlo:ol<H.length:=Hp.at_lt k1
 obtain⟨lvl,hlvl⟩:∃ lvl,lvl=2-(n+1):=⟨_,rfl⟩
 rw [<- hlvl]
 have hl2:lvl<2:=by omega
 have hl1n:1-n=lvl:=by omega
 obtain⟨u,hu,hue⟩:=hlr.get lvl (by omega) (by omega)
 have k7:obl.rows[lvl]?=some [u]:=by
  have:(obl.rows.take lr.length)[lvl]?=lr[lvl]?:=by rw [k6]
  rw [List.getElem?_take,if_pos (by omega)] at this
  rw [this,List.getElem?_eq_getElem (by omega),hu]
 have hg:s.lev.getD lvl []=s.lev[lvl]'(by omega):=by
  rw [List.getD_eq_getElem?_getD,List.getElem?_eq_getElem (by omega)]
  rfl
 have hlm:=hlev _ (List.getElem_mem (show lvl<s.lev.length by omega))
 rw [<- hg] at hlm hue
 obtain⟨lv,hlvd⟩:∃ lv,lv=s.lev.getD lvl []:=⟨_,rfl⟩
 rw [<- hlvd] at hlm hue
 simp only [stAV,hl3,hs3] at hs0 hobj hlt ⊢
 obtain⟨H1,hH1⟩:∃ H1,H1=H++[some ⟨[[a,.sl ol 0 3,.sl os 0 3,.int .i64 s.keep,.int .i64 s.time,d]],6,28,false⟩,some ⟨[[.nils,.nils,.nils,.int .i64 0,.int .i64 0,.nils]],6,28,false⟩]:=⟨_,rfl⟩
 have hle1:HLe H H1:=by rw [hH1]; exact HLe.self _ _
 have b0:H1.at H.length=some ⟨[[a,.sl ol 0 3,.sl os 0 3,.int .i64 s.keep,.int .i64 s.time,d]],6,28,false⟩:=by rw [hH1]; simp
 have b1:H1.at (H.length+1)=some ⟨[[.nils,.nils,.nils,.int .i64 0,.int .i64 0,.nils]],6,28,false⟩:=by rw [hH1]; simp
 have hl1:H1.length=H.length+2:=by rw [hH1]; simp
 have hiI:(lvl:Int)≠2:=by omega
 have hi3:(lvl:Int)<3:=by omega
 have g1:=hle1.2 _ _ k1
 simp [c_spec_l12Into,ha.rows.one,hd.rows.one,<- hH1,b0,hiI,hi3,g1,k3,k7]
 refine cg_ex (l11Join_ok r u es lv H1 (hr.le hle1) (hue.le hle1) (by have:=hes.1; have:=hlm.1; omega)) ?_
 rintro v2 H2 ⟨hle2,hj⟩
 have b02:=hle2.2 _ _ b0
 simp [b02]
 refine cg_ex (l11Trim_ok v2 d (joinL es lv) s.tms false H2 hj.ents ((hd.le hle1).le hle2).ints (hes.join hlm).1 (by omega)) ?_
 rintro v3 H3 ⟨hle3,hq⟩
 have b03:=hle3.2 _ _ b02
 have b13:=hle3.2 _ _ (hle2.2 _ _ b1)
 have hle13:=(hle1.trans hle2).trans hle3
 have hes3:EsB (trimR (joinL es lv) s.tms false):=(hes.join hlm).sub (trimR_sub _ _ _)
 simp [b03]
 refine cg_ex (l12Set_ok _ v3 s lvl _ H0 H3 (hs0.le hle13) (hle0.trans hle13) hq.ents hes3 (by omega) (fun y hy ht=>by have:=hs0.top_lt ht; have:=hq.2 y hy; have:=hle1.1; have:=hle2.1; omega) (fun y hy=>by have:=hq.2 y hy; have:=hle0.1; have:=hle1.1; have:=hle2.1; omega)) ?_
 intro v4 H4 hp
 cases h1:setR s lvl (trimR (joinL es lv) s.tms false) with
 | some x =>
  have hint:intoR (n+1) s es=some x:=by rw [intoR,hl1n,<- hlvd,h1]
  rw [h1] at hp
  obtain⟨w,rfl,hm,hst,hfr⟩:=hp
  rw [hint]
  have n0:∀ y,H.length<=y->y<H3.length->¬stOf (.ag [a,.sl ol 0 3,.sl os 0 3,.int .i64 s.keep,.int .i64 s.time,d]) y:=fun y h1 h2 h3=>by have:=hlt y h3; omega
  have t03:=Hp.at_lt b03
  have t13:=Hp.at_lt b13
  have b04:=hfr.2 _ _ (n0 _ (by omega) t03) b03
  have b14:=hfr.2 _ _ (n0 _ (by omega) t13) b13
  have t0:=Hp.at_lt b04
  have t1:=Hp.at_lt b14
  obtain⟨wa,wl,ws,wd,hw,hwa,hwd,hwi⟩:=hm.shape
  have hw':=hw
  subst hw'
  simp [hwa,hwd,Hp.at_app,Hp.at_set,t1,b14,set_in']
  have hF:=(Fr.one H4 (H.length+1) (some ⟨[[wa,.sl wl 0 3,.sl ws 0 3,.int .i64 x.keep,.int .i64 x.time,wd]],6,28,false⟩)).app
  refine⟨hm.fr (hF _) (fun y ob hy ho=>?_),hst,((hle13.fr (S:=stOf _)).same hfr).trans (hF _) (fun y hy=>.inr (by rw [hy]; omega))⟩
  rw [hy,b14] at ho
  cases ho
  rfl
 | none =>
  rw [h1] at hp
  obtain⟨rfl,hle4⟩:=hp
  have t03:=Hp.at_lt b03
  have t13:=Hp.at_lt b13
  have b04:=hle4.2 _ _ b03
  have b14:=hle4.2 _ _ b13
  have g14:=(hle13.trans hle4).2 _ _ k1
  have t0:=Hp.at_lt b04
  have t1:=Hp.at_lt b14
  have tl:=Hp.at_lt g14
  simp [Hp.at_app,t0,t1,tl,b14,b04,g14,set_in',k3,k7,hi3]
  have hwr:IntKind.i64.wrap ((lvl:Int)+1)=((2-n:Nat):Int):=by
   rw [wrapN (by omega)]
   congr 1
   omega
  rw [hwr]
  have hle14:=hle13.trans hle4
  refine cg_ex (ih (by omega) _ u s lv H0 _ ((hs0.le hle14).le (HLe.self _ _)) ((hle0.trans hle14).app _) ((hue.le hle14).le (HLe.self _ _)) hlm hlev htm) ?_
  intro v5 H5 hp
  have n0:∀ y,H.length<=y->¬stOf (.ag [a,.sl ol 0 3,.sl os 0 3,.int .i64 s.keep,.int .i64 s.time,d]) y:=fun y h1 h3=>by have:=hlt y h3; omega
  have nn:H.length≠H.length+1:=by omega
  cases h2:intoR n s lv with
  | none =>
   have hint:intoR (n+1) s es=none:=by rw [intoR,hl1n,<- hlvd,h1,h2]
   rw [h2] at hp
   obtain⟨rfl,hfr⟩:=hp
   rw [hint]
   have b05:=hfr.2 _ _ (n0 _ (by omega)) ((HLe.self H4 _).2 _ _ b04)
   have b15:=hfr.2 _ _ (n0 _ (by omega)) ((HLe.self H4 _).2 _ _ b14)
   have u0:=Hp.at_lt b05
   have u1:=Hp.at_lt b15
   simp [b05,b15,Hp.at_set_ne,Hp.at_set,List.length_set,nn,nn.symm,u0,u1]
   exact ((((hle14.app _).fr (S:=stOf _)).same hfr).set (.inr (by omega)) _).set (.inr (by omega)) _
  | some x =>
   have hint:intoR (n+1) s es=setR x lvl (trimR es x.tms false):=by rw [intoR,hl1n,<- hlvd,h1,h2]
   rw [h2] at hp
   obtain⟨w,rfl,hm,hst,hfr⟩:=hp
   rw [hint]
   obtain⟨wa,wl,ws,wd,hw,hwa,hwd,hwi⟩:=hm.shape
   have hw':=hw
   subst hw'
   have b05:=hfr.2 _ _ (n0 _ (by omega)) ((HLe.self H4 _).2 _ _ b04)
   have b15:=hfr.2 _ _ (n0 _ (by omega)) ((HLe.self H4 _).2 _ _ b14)
   have u0:=Hp.at_lt b05
   have u1:=Hp.at_lt b15
   simp [hwa,hwd,b05,Hp.at_set,u0]
   have hF5:=Fr.one H5 H.length (some ⟨[[wa,.sl wl 0 3,.sl ws 0 3,.int .i64 x.keep,.int .i64 x.time,wd]],6,28,false⟩)
   have hm6:=hm.fr hF5 (fun y ob hy ho=>by rw [hy,b05] at ho; cases ho; rfl)
   have hr5:Ents H5 r es:=Rows.frz (hr.le (hle14.app _)) hfr (((hs0.le hle14).le (HLe.self _ _)).ne4)
   have hr6:=Rows.frz hr5 hF5 (fun y ob hy ho=>by rw [hy,b05] at ho; cases ho; simp)
   have hx5:=(intoR_tms h2).1
   obtain⟨_,_,_,_,hw7,_,_,hwi6⟩:=hm6.shape
   cases hw7
   refine cg_ex (l11Trim_ok r wd es x.tms false _ hr6 hwi6.ints hes.big.1 (by rw [hx5]; omega)) ?_
   rintro v7 H7 ⟨hle7,hq7⟩
   have b07:=hle7.2 _ _ (Hp.at_set _ u0)
   have b17:=hle7.2 _ _ ((Hp.at_set_ne nn).trans b15)
   simp [b07]
   have hle07:=((((hle0.trans hle14).app _).fr_le hfr (fun y hy=>(hobj y hy).1)).fr_le hF5 (fun y hy=>by rw [hy]; exact hle0.1)).trans hle7
   have hF7:=((((hle14.app _).fr (S:=stOf _)).same hfr).trans hF5 (fun y hy=>.inr (by rw [hy]; omega))).le_fr hle7
   refine cg_ex (l12Set_ok _ v7 x lvl _ H0 H7 (hm6.le hle7) hle07 hq7.ents (hes.big.sub (trimR_sub _ _ _)) (by omega) (fun y hy ht=>by have:=hm6.top_lt ht; have:=hq7.2 y hy; omega) (fun y hy=>by have h1:=hq7.2 y hy; have:=hle07.1; have h2:=hle14.1; have h3:=hfr.1; simp at h1 h3; have:=hle0.1; omega)) ?_
   intro v8 H8 hp8
   have t17:=Hp.at_lt b17
   cases h3:setR x lvl (trimR es x.tms false) with
   | none =>
    rw [h3] at hp8
    obtain⟨rfl,hle8⟩:=hp8
    have b18:=hle8.2 _ _ b17
    have u1:=Hp.at_lt b18
    simp [b18,Hp.at_set,u1]
    exact (hF7.le_fr hle8).set (.inr (by omega)) _
   | some y =>
    rw [h3] at hp8
    obtain⟨w8,rfl,hm8,hst8,hfr8⟩:=hp8
    have b18:=hfr8.2 _ _ (fun h=>n0 _ (Nat.le_succ _) (hst ▸ h)) b17
    have u1:=Hp.at_lt b18
    obtain⟨xa,xl,xs,xd,hx,hxa,hxd,hxi⟩:=hm8.shape
    subst hx
    simp [hxa,hxd,b18,Hp.at_set,u1]
    have hF8:=Fr.one H8 (H.length+1) (some ⟨[[xa,.sl xl 0 3,.sl xs 0 3,.int .i64 y.keep,.int .i64 y.time,xd]],6,28,false⟩)
    exact⟨hm8.fr hF8 (fun z ob hz ho=>by rw [hz,b18] at ho; cases ho; rfl),hst8.trans hst,(hF7.same (hst ▸ hfr8)).trans hF8 (fun z hz=>.inr (by rw [hz]; omega))⟩
end Go.Proofs.YtepeokaplbbpoaaGreat.B

namespace Go.Proofs.YtepeokaplbbpoaaGreat.B
open Go.RowKit Go.Proofs
set_option linter.unusedVariables false
set_option linter.unusedSimpArgs false
theorem addBs_len (d:Nat):∀ (gs:List (List ByteArray)) (b:Bool) (s:Sv),(addBs d b s gs).r.length<=s.r.length+gs.length
 | [],b,s=>Nat.le_refl _
 | g :: gs,b,s=>by
  have h:=addBs_len d gs false (addB d b s g)
  have h2:(addB d b s g).r.length<=s.r.length+1:=by
   simp only [addB]
   split<;>simp
  simp only [addBs,List.length_cons]
  omega
theorem bfs_len:∀ (n:Nat) (q:List Fk) (s:Sv),(∀ f∈q,f.1.length<=24)->(bfs n q s).r.length<=s.r.length+n * 24
 | 0,q,s,h=>by simp [bfs]
 | n+1,[],s,h=>by simp [bfs]
 | n+1,(ks,d) :: q,s,h=>by
  have hk:ks.length<=24:=h (ks,d) (List.mem_cons_self ..)
  have h1:=bfs_len n (q++subs d (brs d ks)) (addBs d true s (brs d ks)) (fun f hf=>(List.mem_append.1 hf).elim (fun hf=>h f (List.mem_cons_of_mem _ hf)) (subs_len hk f))
  have h2:=addBs_len d (brs d ks) true s
  have h3:=(brs_sum _ d ks (Nat.le_refl _)).2
  simp only [bfs]
  omega
theorem sieveO_len {ks:List ByteArray} {keep:Int} {x:Sv} (h:sieveO ks keep=some x):x.r.length<=12000:=by
 unfold sieveO at h
 split at h
 ·rename_i hc
  cases h
  have:=bfs_len 500 [(ks,0)] ⟨⟨#[]⟩,⟨#[]⟩,⟨#[]⟩,[],keep⟩ (fun f hf=>by
   simp at hf
   subst hf
   exact (keysOk_good hc.1).2)
  simpa [sieveR] using this
 ·cases h
def Small (s:Sr):Prop:=SmB s.top/\(∀ l∈s.lev,SmB l)/\s.tms.length<=1000/\(∀ t∈s.tms,I64 t)/\(∀ x∈s.sv,x.r.length<=12000)/\I64 s.time/\I64 s.keep/\s.lev.length=3/\s.sv.length=3
theorem Small.stB {s:Sr} (h:Small s):StB s:=by
 obtain⟨h1,h2,h3,h4,h5,h6,h7,h8,h9⟩:=h
 exact⟨h1.big,fun l hl=>(h2 l hl).big,by omega,by omega,by omega,fun x hx=>by have:=h5 x hx; omega,h6,h7,h4⟩
theorem asc1_bnd (now:Int):∀ (p:Option Int) (ts:List Int),asc1 now p ts=true->∀ t∈ts,0<=t/\t<=now
 | _,[],_=>by simp
 | p,t :: ts,h=>by
  simp only [asc1,Bool.and_eq_true,decide_eq_true_eq] at h
  intro u hu
  rcases List.mem_cons.1 hu with rfl | hu
  ·exact h.1.1
  ·exact asc1_bnd now (some t) ts h.2 u hu
theorem getD_get {α:Type} {xs:List α} {i:Nat} (d:α) (h:i<xs.length):xs.getD i d=xs[i]:=by
 rw [List.getD_eq_getElem?_getD,List.getElem?_eq_getElem h]
 rfl
theorem storeOk_small {s:Sr} (h:storeOk s=true):Small s:=by
 simp only [storeOk,headOk,timesR,Bool.and_eq_true,decide_eq_true_eq] at h
 obtain⟨⟨⟨⟨⟨⟨h1,h2⟩,h3⟩,h4⟩,h5,h6⟩,h7,h8⟩,h9⟩:=h
 have lv:∀ i,i<3->levelOk s i=true:=by
  intro i hi
  match i,hi with
  | 0,_=>exact h9.1.1
  | 1,_=>exact h9.2.1.1
  | 2,_=>exact h9.2.2.1
 have lv2:∀ i (hi:i<3),SmB (s.lev[i]'(by omega))/\(s.sv[i]'(by omega)).r.length<=12000:=by
  intro i hi
  have:=lv i hi
  simp only [levelOk,Bool.and_eq_true,decide_eq_true_eq,getD_get (xs:=s.lev) (i:=i) [] (by omega),getD_get (xs:=s.sv) (i:=i) default (by omega)] at this
  obtain⟨⟨g1,g2⟩,g3⟩:=this
  exact⟨⟨by unfold sizeL at g2; omega,(runOk_fits g1).1⟩,sieveO_len g3⟩
 refine⟨⟨by omega,(runOk_fits h7).1⟩,fun l hl=>?_,by omega,fun t ht=>?_,fun x hx=>?_,⟨by omega,by omega⟩,⟨by omega,by omega⟩,h1,h2⟩
 ·obtain⟨i,hi,rfl⟩:=List.mem_iff_getElem.1 hl
  exact (lv2 i (by omega)).1
 ·have:=asc1_bnd _ _ _ h5 t ht
  exact⟨by omega,by omega⟩
 ·obtain⟨i,hi,rfl⟩:=List.mem_iff_getElem.1 hx
  exact (lv2 i (by omega)).2
theorem setR_small {s x:Sr} {i:Nat} {es:List Ent} (h:Small s) (hi:i<3) (he:Fits es) (hx:setR s i es=some x):Small x:=by
 obtain⟨h1,h2,h3,h4,h5,h6,h7,h8,h9⟩:=h
 unfold setR at hx
 split at hx
 ·cases hx
 ·rename_i y hy
  split at hx
  ·rename_i hl
   cases hx
   refine⟨h1,fun l hl'=>?_,h3,h4,fun z hz=>?_,h6,h7,by simpa using h8,by simpa using h9⟩
   ·rcases List.mem_or_eq_of_mem_set hl' with h | rfl
    ·exact h2 l h
    ·exact⟨by unfold sizeL at hl; omega,he⟩
   ·rcases List.mem_or_eq_of_mem_set hz with h | rfl
    ·exact h5 z h
    ·exact sieveO_len hy
  ·cases hx
theorem Fits.trim {r:List Ent} (h:Fits r) (ts:List Int) (b:Bool):Fits (trimR r ts b):=fun e he=>h e ((trimR_sub r ts b).subset he)
theorem Fits.join {xs ys:List Ent} (h:Fits xs) (k:Fits ys):Fits (joinL xs ys):=fun e he=>(joinL_mem he).elim (h e) (k e)
theorem Small.lv {s:Sr} (h:Small s) (i:Nat):SmB (s.lev.getD i []):=by
 rcases Nat.lt_or_ge i s.lev.length with hi | hi
 ·rw [getD_get [] hi]
  exact h.2.1 _ (List.getElem_mem hi)
 ·rw [List.getD_eq_getElem?_getD,List.getElem?_eq_none hi]
  exact⟨by simp,fun e he=>by simp at he⟩
theorem intoR_small:∀ {n:Nat} {s x:Sr} {r:List Ent},Small s->Fits r->intoR n s r=some x->Small x
 | 0,s,x,r,h,hr,hx=>setR_small h (by omega) (Fits.trim (hr.join (h.lv 2).2) _ _) hx
 | n+1,s,x,r,h,hr,hx=>by
  unfold intoR at hx
  split at hx
  ·rename_i y hy
   cases hx
   exact setR_small h (i:=1-n) (by omega) (Fits.trim (hr.join (h.lv (1-n)).2) _ _) hy
  ·split at hx
   ·cases hx
   ·rename_i y hy
    exact setR_small (intoR_small h (h.lv (1-n)).2 hy) (by omega) (Fits.trim hr _ _) hx
theorem downR_small {s x:Sr} (h:Small s) (hx:downR s=some x):Small x:=by
 refine intoR_small ?_ h.1.2 hx
 exact⟨⟨by simp,fun e he=>by simp at he⟩,h.2⟩
theorem addR_small {s x:Sr} {e:Ent} (hx:addR s e=some x):Small x:=by
 unfold addR at hx
 split at hx
 ·rename_i hc
  simp only [Bool.and_eq_true] at hc
  have hs:=storeOk_small hc.1
  have he:=(entOk_fit hc.2).1
  have fin:∀ y,Small y->y.top.length<=10->Small { y with top:=joinL [e] y.top,time:=e.time }:=by
   rintro y ⟨h1,h2,h3,h4,h5,h6,h7⟩ hl
   refine⟨⟨by rw [joinL_len]; simp; omega,Fits.join (fun f hf=>?_) h1.2⟩,h2,h3,h4,h5,he.2.2,h7⟩
   simp at hf
   rw [hf]
   exact he
  split at hx
  ·cases hx
  ·rename_i y hy
   cases hx
   split at hy
   ·refine fin y (downR_small hs hy) ?_
    rw [(intoR_tms hy).2.1]
    simp
   ·cases hy
    exact fin _ hs (by omega)
 ·cases hx
theorem doR_small {s x:Sr} {d:Dd} (hx:doR s d=some x):Small x:=by
 unfold doR at hx
 split at hx
 ·exact addR_small hx
 split at hx
 ·exact addR_small hx
 split at hx
 ·unfold holdR at hx
  split at hx
  ·rename_i hc
   have hs:=storeOk_small hc
   simp only at hx
   generalize (if s.tms.getLast?=some s.time then s.tms else s.tms++[s.time])=ts at hx
   split at hx
   ·rename_i ht
    cases hx
    simp only [timesR,Bool.and_eq_true,decide_eq_true_eq] at ht
    obtain⟨h1,h2,h3,h4,h5,h6,h7⟩:=hs
    refine⟨h1,h2,by dsimp only; omega,fun t hh=>?_,h5,h6,h7⟩
    have:=asc1_bnd _ _ _ ht.1 t hh
    have:=h6.2
    exact⟨by omega,by dsimp only at *; omega⟩
   ·cases hx
  ·cases hx
 split at hx
 ·unfold freeR at hx
  split at hx
  ·rename_i hc
   obtain⟨h1,h2,h3,h4,h5,h6,h7⟩:=storeOk_small hc
   simp only at hx
   split at hx
   ·cases hx
   ·cases hx
    refine⟨h1,h2,Nat.le_trans (List.length_filter_le _ _) h3,fun t ht=>h4 t (List.mem_filter.1 ht).1,h5,h6,h7⟩
  ·cases hx
 split at hx
 ·unfold letR at hx
  split at hx
  ·exact downR_small (storeOk_small (by assumption)) hx
  ·cases hx
 split at hx
 ·unfold joinR at hx
  split at hx
  ·rename_i hc
   have hs:=storeOk_small hc.1
   split at hx
   ·cases hx
   ·rename_i y hy
    exact intoR_small (setR_small hs (by omega) (fun e he=>by simp at he) hy) (hs.lv _).2 hx
  ·cases hx
 ·cases hx
theorem newR_small {k:Int} {s:Sr} (h:newR k=some s):Small s:=by
 unfold newR at h
 split at h
 ·cases h
  refine⟨⟨by simp,fun e he=>by simp at he⟩,fun l hl=>?_,by simp,by simp,fun x hx=>?_,⟨by simp,by simp⟩,⟨by dsimp only; omega,by dsimp only; omega⟩,rfl,by simp⟩
  ·simp at hl
   subst hl
   exact⟨by simp,fun e he=>by simp at he⟩
  ·have:=List.eq_of_mem_replicate hx
   subst this
   simp
 ·cases h
end Go.Proofs.YtepeokaplbbpoaaGreat.B

namespace Go.Proofs.YtepeokaplbbpoaaGreat.B
open Go.RowKit
set_option linter.unusedVariables false
set_option linter.unusedSimpArgs false
def joinI (a b:List Ent):Option (List Ent):=if runOk a=true/\runOk b=true/\runOk (joinL a b)=true then some (joinL a b) else none
def trimI (r:List Ent) (ts:List Int) (b:Bool):List Ent:=if runOk r=true then trimR r ts b else []
def pushI:Nat->Sr->List Ent->Option Sr
 | 0,s,r=>(joinI r (s.lev.getD 2 [])).bind fun a=>setR s 2 (trimI a s.tms true)
 | n+1,s,r =>
  match (joinI r (s.lev.getD (1-n) [])).bind fun a=>setR s (1-n) (trimI a s.tms false) with
  | some x=>some x
  | none=>match pushI n s (s.lev.getD (1-n) []) with
   | none=>none
   | some x=>setR x (1-n) (trimI r x.tms false)
def downI (s:Sr):Option Sr:=(pushI 2 s s.top).map fun x=>{ x with top:=[] }
def holdI (s:Sr):Option Sr:=if s.time∈s.tms then some s else if s.tms.length+1<=3 then some { s with tms:=s.tms++[s.time] } else none
def freeI (s:Sr) (t:Int):Option Sr:=if (s.tms.filter fun x=>!decide (x=t)).length<s.tms.length then some { s with tms:=s.tms.filter fun x=>!decide (x=t) } else none
structure Fine (a b:List Ent):Prop where
 ra:runOk a=true
 rb:runOk b=true
 new:∀ x∈a,∀ y∈b,x.key=y.key->y.time<x.time
 len:a.length+b.length<=40
theorem Fine.run {a b:List Ent} (h:Fine a b):runOk (joinL a b)=true:=by
 have ha:=runOk_pair h.ra
 have hb:=runOk_pair h.rb
 have hp:=joinL_perm b a
 have hs:=joinL_srt (runOk_srt h.ra) (runOk_srt h.rb)
 have hne:∀ {x y:Ent},ahead x y=true->¬(x.key=y.key/\x.time=y.time):=fun h e=>by
  rw [ahead_iff,e.1,sless_irrefl] at h
  rcases h with h | h
  ·cases h
  ·omega
 have hd:(a++b).Pairwise (fun x y=>¬(x.key=y.key/\x.time=y.time)):=by
  refine List.pairwise_append.2 ⟨ha.1.imp hne,hb.1.imp hne,fun x hx y hy e=>?_⟩
  have:=h.new x hx y hy e.1
  omega
 have hd2:(joinL a b).Pairwise (fun x y=>¬(x.key=y.key/\x.time=y.time)):=(hp.pairwise_iff (fun {x y} h e=>h ⟨e.1.symm,e.2.symm⟩)).2 hd
 refine runOk_of ?_ (fun e he=>?_) ?_
 ·refine (hs.and hd2).imp (fun {x y} hxy=>?_)
  rcases ahead_total x y with g | g | g
  ·exact g
  ·exact absurd g hxy.2
  ·have h1:ahead y x=false:=hxy.1
   rw [h1] at g; cases g
 ·rcases joinL_mem he with h | h
  ·exact ha.2.1 e h
  ·exact hb.2.1 e h
 ·rw [hp.length_eq,List.length_append]
  exact h.len
theorem Fine.join {a b:List Ent} (h:Fine a b):joinI a b=some (joinL a b):=if_pos ⟨h.ra,h.rb,h.run⟩
def PushOk:Nat->Sr->List Ent->Prop
 | 0,s,r=>Fine r (s.lev.getD 2 [])
 | n+1,s,r=>Fine r (s.lev.getD (1-n) [])/\PushOk n s (s.lev.getD (1-n) [])
theorem pushI_eq:∀ (n:Nat) {s:Sr} {r:List Ent},PushOk n s r->pushI n s r=intoR n s r
 | 0,s,r,h=>by
  have h:Fine r (s.lev.getD 2 []):=h
  rw [pushI,intoR,h.join]
  show setR s 2 (trimI (joinL r (s.lev.getD 2 [])) s.tms true)=_
  rw [trimI,if_pos h.run]
 | n+1,s,r,h=>by
  obtain⟨h1,h2⟩:Fine r (s.lev.getD (1-n) [])/\PushOk n s (s.lev.getD (1-n) []):=h
  rw [pushI,intoR,h1.join,pushI_eq n h2]
  have e1:(some (joinL r (s.lev.getD (1-n) []))).bind (fun a=>setR s (1-n) (trimI a s.tms false))=setR s (1-n) (trimR (joinL r (s.lev.getD (1-n) [])) s.tms false):=by
   show setR s (1-n) (trimI (joinL r (s.lev.getD (1-n) [])) s.tms false)=_
   rw [trimI,if_pos h1.run]
  have e2:∀ x:Sr,trimI r x.tms false=trimR r x.tms false:=fun x=>if_pos h1.ra
  rw [e1]
  simp only [e2]
  rfl
theorem storeOk_ok {s:Sr} (h:storeOk s=true):headI s=true/\okI s 0=true/\okI s 1=true/\okI s 2=true:=by
 rw [<- storeI_eq] at h
 simp only [storeI,Bool.and_eq_true] at h
 exact⟨h.1.1.1,h.1.1.2,h.1.2,h.2⟩
theorem okI_parts {s:Sr} {n:Nat} (h:okI s n=true):runOk (s.lev.getD n [])=true/\(s.lev.getD n []).length<=sizeL n/\(∀ x∈aboveI s n,∀ y∈s.lev.getD n [],x.key=y.key->y.time<x.time)/\(∀ x∈aboveI s n,x.time<=s.time):=by
 simp only [okI,Bool.and_eq_true,decide_eq_true_eq,Bool.not_eq_true'] at h
 exact⟨h.1.1.1.1,h.1.1.1.2,(newerI_iff _ _).1 h.1.2,(lateI_iff _ _).1 h.2⟩
theorem headI_parts {s:Sr} (h:headI s=true):s.lev.length=3/\s.sv.length=3/\runOk s.top=true/\s.top.length<=4/\(0<=s.time/\s.time<=999)/\timesR s.tms s.time=true:=by
 simp only [headI,Bool.and_eq_true,decide_eq_true_eq] at h
 exact⟨h.1.1.1.1.1,h.1.1.1.1.2,h.1.1.1.2,h.1.1.2,h.1.2,h.2⟩
theorem lev_above {s:Sr} {i n:Nat} (hi:i<n) (hl:s.lev.length=3) (h3:n<=3):∀ x∈s.lev.getD i [],x∈aboveI s n:=fun x hx=>by
 refine List.mem_append_right _ (List.mem_flatten.2 ⟨s.lev.getD i [],?_,hx⟩)
 rw [getD_get _ (by omega)]
 exact List.mem_take_iff_getElem.2 ⟨i,by omega,rfl⟩
theorem store_fine {s:Sr} (h:storeOk s=true):Fine s.top (s.lev.getD 0 [])/\Fine (s.lev.getD 0 []) (s.lev.getD 1 [])/\Fine (s.lev.getD 1 []) (s.lev.getD 2 []):=by
 obtain⟨hh,k0,k1,k2⟩:=storeOk_ok h
 obtain⟨a1,a2,a3,a4,a5,a6⟩:=headI_parts hh
 obtain⟨b1,b2,b3,b4⟩:=okI_parts k0
 obtain⟨c1,c2,c3,c4⟩:=okI_parts k1
 obtain⟨d1,d2,d3,d4⟩:=okI_parts k2
 have z0:sizeL 0=8:=rfl
 have z1:sizeL 1=16:=rfl
 have z2:sizeL 2=24:=rfl
 refine⟨⟨a3,b1,fun x hx=>b3 x (by rw [aboveI_0]; exact hx),by omega⟩,⟨b1,c1,fun x hx=>c3 x (lev_above (by omega) a1 (by omega) x hx),by omega⟩,⟨c1,d1,fun x hx=>d3 x (lev_above (by omega) a1 (by omega) x hx),by omega⟩⟩
theorem push_ok {s:Sr} (h:storeOk s=true):PushOk 2 s s.top/\PushOk 1 s (s.lev.getD 0 [])/\PushOk 0 s (s.lev.getD 1 []):=by
 obtain⟨f0,f1,f2⟩:=store_fine h
 exact⟨⟨f0,f1,f2⟩,⟨f1,f2⟩,f2⟩
theorem intoR_frame {F:Sr->Sr} {m:Nat} (h1:∀ s i r,m<=i->i<=2->setR (F s) i r=(setR s i r).map F) (h2:∀ s i,m<=i->(F s).lev.getD i []=s.lev.getD i []) (h3:∀ s,(F s).tms=s.tms) :
  ∀ (n:Nat),m+n<=2->∀ (s:Sr) (r:List Ent),intoR n (F s) r=(intoR n s r).map F
 | 0,hn,s,r=>by
  rw [intoR,intoR,h2 _ _ (by omega),h3,h1 _ _ _ (by omega) (by omega)]
 | n+1,hn,s,r=>by
  rw [intoR,intoR,h2 _ _ (by omega),h3,h1 _ _ _ (by omega) (by omega)]
  have ih:=intoR_frame h1 h2 h3 n (by omega) s (s.lev.getD (1-n) [])
  cases hc:setR s (1-n) (trimR (joinL r (s.lev.getD (1-n) [])) s.tms false) with
  | some x=>rfl
  | none =>
   simp only [Option.map_none]
   rw [ih]
   cases hi:intoR n s (s.lev.getD (1-n) []) with
   | none=>rfl
   | some x =>
    simp only [Option.map_some]
    rw [h3,h1 _ _ _ (by omega) (by omega)]
theorem downI_eq {s:Sr} (h:storeOk s=true):downI s=downR s:=by
 unfold downI downR
 rw [pushI_eq 2 (push_ok h).1]
 have:=intoR_frame (F:=fun x=>{ x with top:=[] }) (m:=0) (fun s i r _ _=>by
  unfold setR
  simp only
  cases sieveO (keysR r) s.keep with
  | none=>rfl
  | some x =>
   simp only
   split<;>rfl) (fun _ _ _=>rfl) (fun _=>rfl) 2 (by omega) s s.top
 exact this.symm
theorem setR_nil {s:Sr} (h:0<=s.keep/\s.keep<=5) (i:Nat):∃ x,∀ s':Sr,s'.keep=s.keep->setR s' i []=some { s' with lev:=s'.lev.set i [],sv:=s'.sv.set i x }:=by
 refine⟨sieveR [] s.keep,fun s' hk=>?_⟩
 unfold setR
 rw [hk]
 have:sieveO (keysR []) s.keep=some (sieveR [] s.keep):=if_pos ⟨by decide,h.1,h.2⟩
 rw [this]
 exact if_pos (Nat.zero_le _)
end Go.Proofs.YtepeokaplbbpoaaGreat.B

namespace Go.Proofs.YtepeokaplbbpoaaGreat.B
open Go.RowKit Go.Proofs
set_option linter.unusedVariables false
set_option linter.unusedSimpArgs false
variable {E:Env}
theorem sort_ok (o:Nat) (es:List Ent) (H:Hp) (hd:Dat H o es) (hn:es.length<500000) {N:Nat} (hN:N=es.length) :
  AC Tryz.prog E 157 [.sl o 0 N,.fn 158 []] H (fun v H'=>v=.tu []/\Fr (fun y=>y=o) H H'/\DatP H' o es Srt):=by
 refine AC_by fol (tC_le tabJ_ok) h_slices_SortStableFunc_Simpl_Entry_impl_Entry ?_
 simp [c_slices_SortStableFunc_Simpl_Entry_impl_Entry]
 refine cg_ex (stable_ok o es H hd hn hN) ?_
 rintro v H' ⟨rfl,h1,h2⟩
 simp
 exact⟨h1,h2⟩
theorem insertion_nil (H:Hp):AC Tryz.prog E 206 [.nils,.int .i64 0,.int .i64 0,.fn 158 []] H (fun v H'=>v=.tu []/\H'=H):=by
 refine AC_byp (tC_le tabJ_ok) h_slices_insertionSortCmpFunc_impl_Entry (by simp) ?_
 simp [c_slices_insertionSortCmpFunc_impl_Entry,wrap1]
 refine W_for (fun k t H'=>t 8=.int .i64 1/\t 2=.int .i64 0/\H'=H) 0 ?_ (tC_mono AC_mono) ?_
 ·simp
 rintro k t H' ⟨h1,h2,rfl⟩
 simp [h1,h2]
theorem sort_nil (H:Hp):AC Tryz.prog E 157 [.nils,.fn 158 []] H (fun v H'=>v=.tu []/\H'=H):=by
 refine AC_byp (tC_le tabJ_ok) h_slices_SortStableFunc_Simpl_Entry_impl_Entry (by simp) ?_
 simp [c_slices_SortStableFunc_Simpl_Entry_impl_Entry]
 refine cg_use (r:=.tu []) (H2:=H) ?_ ?_
 ·refine AC_byp (tC_le tabJ_ok) h_slices_stableCmpFunc_impl_Entry (by simp) ?_
  simp [c_slices_stableCmpFunc_impl_Entry]
  refine W_for (fun k t H'=>t 0=.nils/\t 1=.int .i64 0/\t 2=.fn 158 []/\t 6=.int .i64 20/\t 7=.int .i64 0/\t 8=.int .i64 20/\H'=H) 0 ?_ (tC_mono AC_mono) ?_
  ·simp
  rintro k t H' ⟨h0,h1,h2,h6,h7,h8,rfl⟩
  simp [h0,h1,h2,h6,h7,h8]
  refine cg_use (insertion_nil H') ?_
  simp [h0,h1,h2,h6,h7,h8]
  refine W_for (fun k t H2=>t 6=.int .i64 20/\t 1=.int .i64 0/\H2=H') 0 ?_ (tC_mono AC_mono) ?_
  ·simp [h6,h1]
  rintro k t H2 ⟨h6,h1,rfl⟩
  simp [h6,h1]
 ·simp
theorem appA_x {ety esz bytes:Nat} {x y:AV} {H:Hp} {R R2:List (List AV)} (hx:Own esz ety H x R) (hy:Rows esz H y R2) (hb:(R.length+R2.length) * bytes<=140737488355328) :
  ∃ v H',appA ety esz bytes x y H=some (v,H')/\Own esz ety H' v (R++R2)/\Fr x.of H H'/\(∀ o,v.of o->x.of o\/H.length<=o) /\
   (R++R2≠[]->(R2=[]/\v=x/\H'=H)\/∃ o,v=.sl o 0 (R++R2).length/\H.length<=o/\H'.at o=some ⟨R++R2,esz,ety,false⟩)/\(x=.nils->R2=[]->v=.nils):=by
 have hb2:R2.length * bytes<=140737488355328:=Nat.le_trans (Nat.mul_le_mul_right _ (by omega)) hb
 rcases hy with ⟨rfl,rfl⟩ | ⟨rfl,rfl⟩ | ⟨o2,i2,ob2,rfl,h2,h3,h4,h5⟩
 ·refine⟨x,H,?_,by simpa using hx,Fr.refl _ _,fun o h=>.inl h,fun _=>.inl ⟨rfl,rfl,rfl⟩,fun h _=>h⟩
  rcases hx with ⟨rfl,rfl⟩ | ⟨rfl,rfl⟩ | ⟨o,ob,rfl,_⟩<;>simp [appA]
 ·refine⟨x,H,?_,by simpa using hx,Fr.refl _ _,fun o h=>.inl h,fun _=>.inl ⟨rfl,rfl,rfl⟩,fun h _=>h⟩
  rcases hx with ⟨rfl,rfl⟩ | ⟨rfl,rfl⟩ | ⟨o,ob,rfl,_⟩<;>simp [appA]
 ·rcases hx with ⟨rfl,rfl⟩ | ⟨rfl,rfl⟩ | ⟨o,ob,rfl,k1,k2,k3,k4,k5,k6⟩
  ·by_cases hz:R2.length=0
   ·obtain rfl:=List.length_eq_zero_iff.1 hz
    exact⟨.nils,H,by simp [appA,h2,h3] at h4 ⊢; exact h4,Own.nils,Fr.refl _ _,fun o h=>.inl h,fun _=>.inl ⟨rfl,rfl,rfl⟩,fun h _=>h⟩
   ·refine⟨.sl H.length 0 R2.length,H++[some ⟨R2,esz,ety,false⟩],by simp [appA,h2,h3,hz,h4,h5,hb2],Own.obj (by simp) rfl,(HLe.self _ _).fr,fun o h=>.inr (Nat.le_of_eq h),fun _=>.inr ⟨H.length,rfl,Nat.le_refl _,by simp⟩,fun _ h=>absurd (by rw [h]; rfl) hz⟩
  ·by_cases hz:R2.length=0
   ·obtain rfl:=List.length_eq_zero_iff.1 hz
    exact⟨.sz,H,by simp [appA,h2,h3] at h4 ⊢; exact h4,.inr (.inl ⟨rfl,rfl⟩),Fr.refl _ _,fun o h=>.inl h,fun _=>.inl ⟨rfl,rfl,rfl⟩,fun h _=>h⟩
   ·refine⟨.sl H.length 0 R2.length,H++[some ⟨R2,esz,ety,false⟩],by simp [appA,h2,h3,hz,h4,h5,hb2],Own.obj (by simp) rfl,(HLe.self _ _).fr,fun o h=>.inr (Nat.le_of_eq h),fun _=>.inr ⟨H.length,rfl,Nat.le_refl _,by simp⟩,fun _ h=>absurd (by rw [h]; rfl) hz⟩
  ·have e1:(List.set H o none++[some ⟨R++R2,esz,ety,false⟩]:Hp).at H.length=some ⟨R++R2,esz,ety,false⟩:=by
    have:(List.set H o none).length=H.length:=by simp
    rw [<- this,Hp.at_app_0]
    rfl
   refine⟨.sl H.length 0 (R++R2).length,(List.set H o none)++[some ⟨R++R2,esz,ety,false⟩],?_,Own.obj e1 rfl,?_,fun o h=>.inr (Nat.le_of_eq h),fun _=>.inr ⟨H.length,rfl,Nat.le_refl _,e1⟩,fun h _=>by cases h⟩
   ·simp [appA,h2,h3,h4,h5,hb2,k1,k2,k3,k4,k5,k6,hb]
   ·refine ((Fr.refl _ H).set (.inl rfl) none).app _
def Xact (H0 H:Hp) (v:AV) (es:List Ent):Prop:=∃ o,v=.sl o 0 es.length/\H0.length<=o/\Dat H o es
theorem appG_x {x y:AV} {H0 H:Hp} {xs ys:List Ent} {C:CallP} {d:Option Nat} {ag:List (Option Nat × AOp × Option (Nat × Bool))} {p:Plan} {t:Tm} {K:Tm->Hp->Prop}
  (hx:OwnE H0 H x xs) (hxx:xs≠[]->Xact H0 H x xs) (hy:Ents H y ys) (hle:HLe H0 H) (hb:(xs.length+ys.length) * 40<=140737488355328)
  (hk:∀ v H',HLe H0 H'->OwnE H0 H' v (xs++ys)->(xs++ys≠[]->Xact H0 H' v (xs++ys))->(x=.nils->ys=[]->v=.nils)->Fr x.of H H'->(∀ o,v.of o->x.of o\/H.length<=o)->againG ag (updO t d v) H'/\RgP C p (updO t d v) H' K) :
  appG x y 45 4 40 C d ag p t H K:=by
 obtain⟨v,H',h1,h2,h3,h4,h5,h6⟩:=appA_x (bytes:=40) hx.1 hy (by simpa using hb)
 unfold appG
 rw [h1]
 refine hk v H' (hle.fr_le h3 hx.2) ⟨by simpa using h2,fun o ho=>(h4 o ho).elim (hx.2 o) (fun h=>Nat.le_trans hle.1 h)⟩ (fun hne=>?_) (fun e1 e2=>h6 e1 (by rw [e2]; rfl)) h3 h4
 rcases h5 (by rw [<- List.map_append]; simpa using hne) with ⟨e1,e2,e3⟩ | ⟨o,e1,e2,e3⟩
 ·have e1':ys=[]:=by simpa using e1
  subst e1' e2 e3
  rw [List.append_nil] at hne ⊢
  exact hxx hne
 ·exact⟨o,by rw [e1,<- List.map_append,List.length_map],Nat.le_trans hle.1 e2,by unfold Dat; rw [e3,<- List.map_append]⟩
theorem Grow_ok (n:Nat) (H:Hp) (hn:n<1000000):AC Tryz.prog E 123 [.nils,.int .i64 n] H (fun v H'=>HLe H H'/\OwnE H H' v []/\(n=0->v=.nils)):=by
 refine AC_by fol (tC_le tabJ_ok) h_slices_Grow_Simpl_Entry_impl_Entry ?_
 have w0:IntKind.i64.wrap 0=0:=wrap64 (by omega) (by omega)
 have w1:IntKind.i64.wrap (n:Int)=n:=wrap64 (by omega) (by omega)
 have n1:¬((n:Int)<0):=by omega
 simp [c_slices_Grow_Simpl_Entry_impl_Entry,w0,w1,n1]
 refine c_split (fun hq=>?_) (fun hq=>?_)<;>simp at hq
 ·have n2:(n:Int) * 40<=140737488355328:=by omega
  simp [hq,n2,cutG,optK]
  exact⟨⟨.inr (.inr ⟨H.length,_,rfl,Hp.at_app_0,rfl,rfl,rfl,by simp,by simp⟩),fun o ho=>by
   have:H.length=o:=ho
   omega⟩,fun h=>by omega⟩
 ·simp [hq]
  exact OwnM.nils
def catR (ls:List (List Ent)):List Ent:=ls.flatten
theorem Concat_ok (u:AV) (lr:List (List AV)) (ls:List (List Ent)) (H:Hp) (hu:Rows 1 H u lr) (hl:All2 (LvRow H) lr ls) (hn:(catR ls).length<1000000) (hln:ls.length<1000000) :
  AC Tryz.prog E 76 [u] H (fun v H'=>HLe H H'/\OwnE H H' v (catR ls)/\(catR ls≠[]->Xact H H' v (catR ls))/\(catR ls=[]->v=.nils)):=by
 refine AC_by fol (tC_le tabJ_ok) h_slices_Concat_Simpl_Entry_impl_Entry ?_
 have l1:=hu.len
 have hlen:=hl.length
 have hpre:∀ i,(catR (ls.take i)).length<=(catR ls).length:=fun i=>by
  have e:=congrArg List.length (congrArg List.flatten (List.take_append_drop i ls))
  rw [List.flatten_append,List.length_append] at e
  unfold catR
  omega
 have hsuc:∀ i (h:i<ls.length),catR (ls.take (i+1))=catR (ls.take i)++ls[i]:=fun i h=>by
  unfold catR
  rw [List.take_succ_eq_append_getElem h,List.flatten_append]
  simp
 simp [c_slices_Concat_Simpl_Entry_impl_Entry,l1,hu.slc]
 refine W_for (fun k t H'=>∃ i:Nat,i+k=ls.length/\t 0=u/\t 9=u/\t 10=.int .i64 lr.length/\t 11=.int .i64 i/\t 3=.int .i64 ((catR (ls.take i)).length:Nat)/\H'=H) ls.length ?_ (tC_mono AC_mono) ?_
 ·exact⟨0,by simp,by simp,by simp,by simp,by simp,by simp [catR],rfl⟩
 rintro k t H' ⟨i,hik,h0,h9,h10,h11,h3,rfl⟩
 obtain⟨n,hnn⟩:∃ n,n=(catR (ls.take i)).length:=⟨_,rfl⟩
 rw [<- hnn] at h3
 have hnb:=hpre i
 simp [h0,h9,h10,h11,h3]
 refine c_split (fun hq=>?_) (fun hq=>?_)<;>simp at hq
 ·have hw:=wrapN (i:=i) (by omega)
  obtain⟨o1,i1,ob1,e1,a1,a2,a3⟩:=hu.get hq
  obtain⟨w,hw1,hw2⟩:=hl.get i hq (by omega)
  rw [hw1] at a3
  have hs:=hsuc i (by omega)
  have hnb1:=hpre (i+1)
  have hs2:=congrArg List.length hs
  rw [List.length_append] at hs2
  obtain⟨m,hm⟩:∃ m,m=(catR (ls.take (i+1))).length:=⟨_,rfl⟩
  have w2:IntKind.i64.wrap ((n:Int)+(ls[i].length:Int))=(m:Int):=by rw [wrap2 (by omega)]; omega
  have n1:¬((m:Int)<0):=by omega
  subst e1
  simp [h0,h9,h10,h11,h3,a1,a2,a3,hq,hw2.len,hw2.slc,w2,n1,hw]
  exact⟨k-1,by omega,i+1,by omega,rfl,congrArg Int.ofNat hm⟩
 ·have hi:i=ls.length:=by omega
  subst hi
  rw [List.take_length] at hnn
  simp [h0,h9,h10,h11,h3]
  refine cg_ex (Grow_ok n H' (by omega)) ?_
  rintro v H2 ⟨hle,hv,hv0⟩
  simp [h0,l1,hu.slc]
  refine W_for (fun k t H3=>∃ i v,i+k=ls.length/\t 25=u/\t 26=.int .i64 lr.length/\t 27=.int .i64 (i:Nat)/\t 6=v/\HLe H' H3/\OwnE H' H3 v (catR (ls.take i))/\(catR (ls.take i)≠[]->Xact H' H3 v (catR (ls.take i)))/\(catR ls=[]->v=.nils)) ls.length ?_ (tC_mono AC_mono) ?_
  ·exact⟨0,v,by simp,by simp [h0],by simp,by simp,by simp,hle,by simpa [catR] using hv,by simp [catR],fun h=>hv0 (by rw [hnn,h]; rfl)⟩
  clear h0 h9 h10 h11 h3 hv hle hv0
  rintro k t H3 ⟨j,v,hjk,h25,h26,h27,h6,hle,hv,hvx,hvn⟩
  simp [h25,h26,h27,h6]
  refine c_split (fun hq2=>?_) (fun hq2=>?_)<;>simp at hq2
  ·have hw:=wrapN (i:=j) (by omega)
   obtain⟨o1,i1,ob1,e1,a1,a2,a3⟩:=hu.get hq2
   obtain⟨w,hw1,hw2⟩:=hl.get j hq2 (by omega)
   rw [hw1] at a3
   have a1':=hle.2 _ _ a1
   have hs:=hsuc j (by omega)
   have hnb1:=hpre (j+1)
   have hs2:=congrArg List.length hs
   rw [List.length_append] at hs2
   subst e1
   simp [h25,h26,h27,h6,a1',a2,a3,hq2]
   refine appG_x hv hvx (hw2.le hle) hle (by omega) (fun v2 H4 g1 g2 g3 g4 g5 g6=>?_)
   rw [<- hs] at g2 g3
   simp [h25,h26,h27,h6,hw]
   refine⟨k-1,by omega,j+1,by omega,rfl,g1,g2,g3,fun h=>g4 (hvn h) ?_⟩
   have:catR (ls.take (j+1))=[]:=List.length_eq_zero_iff.1 (by rw [h] at hnb1; simpa using hnb1)
   rw [hs] at this
   exact (List.append_eq_nil_iff.1 this).2
  ·have hi:j=ls.length:=by omega
   subst hi
   rw [List.take_length] at hv hvx
   simp [h6]
   exact⟨hle,hv,hvx,hvn⟩
end Go.Proofs.YtepeokaplbbpoaaGreat.B

namespace Go.Proofs.YtepeokaplbbpoaaGreat.B
open Go.RowKit Go.Proofs
set_option linter.unusedVariables false
set_option linter.unusedSimpArgs false
variable {E:Env}
theorem cloneRun_ok (a:AV) (es:List Ent) (H:Hp) (ha:Ents H a es) (hn:es.length<1099511627776) :
  AC Tryz.prog E 141 [a] H (fun v H'=>HLe H H'/\OwnE H H' v es):=by
 refine AC_by fol (tC_le tabJ_ok) h_impl_cloneRun ?_
 simp [c_impl_cloneRun]
 refine appG_cat (row:=entRow) (H0:=H) (xs:=[]) OwnM.nils ha (HLe.refl _) (by simp; omega) (fun v H' g1 g2 g3 g4=>?_)
 simp
 exact⟨g1,by simpa using g2⟩
def RetJ (H H':Hp) (v:AV) (o:Option (List Ent)):Prop:=HLe H H'/\match o with
 | some l=>∃ w,v=.tu [w,.bool true]/\OwnE H H' w l
 | none=>v=.tu [.nils,.bool false]
theorem joinI_none {a b:List Ent} (h:¬(runOk a=true/\runOk b=true/\runOk (joinL a b)=true)):joinI a b=none:=by
 unfold joinI
 rw [if_neg h]
theorem joinI_some {a b:List Ent} (h:runOk a=true/\runOk b=true/\runOk (joinL a b)=true):joinI a b=some (joinL a b):=by
 unfold joinI
 rw [if_pos h]
theorem RunJoin_ok (a b:AV) (xs ys:List Ent) (H:Hp) (ha:Ents H a xs) (hb:Ents H b ys) (hx:SmB xs) (hy:SmB ys) :
  AC Tryz.prog E 114 [a,b] H (fun v H'=>RetJ H H' v (joinI xs ys)):=by
 refine AC_by fol (tC_le tabJ_ok) h_impl_RunJoin ?_
 have lx:=hx.1
 have ly:=hy.1
 simp [c_impl_RunJoin]
 refine cg_use (implRunOk_ok a xs H ha hx.2.short (by omega)) ?_
 cases h1:runOk xs with
 | false =>
  simp [joinI_none (a:=xs) (b:=ys) (by simp [h1]),RetJ,HLe.refl]
 | true =>
 simp
 refine cg_use (implRunOk_ok b ys H hb hy.2.short (by omega)) ?_
 cases h2:runOk ys with
 | false =>
  simp [joinI_none (a:=xs) (b:=ys) (by simp [h2]),RetJ,HLe.refl]
 | true =>
 simp [Rows.cells ha,Rows.cells hb,Rows.cells1 ha,Rows.cells1 hb]
 obtain⟨H1,hH1⟩:∃ H1:Hp,H1=H++[some ⟨[[a],[b]],1,23,false⟩]:=⟨_,rfl⟩
 have hle1:HLe H H1:=by rw [hH1]; exact HLe.self _ _
 have b0:H1.at H.length=some ⟨[[a],[b]],1,23,false⟩:=by rw [hH1]; simp
 rw [<- hH1]
 refine cg_ex (Concat_ok (.sl H.length 0 2) [[a],[b]] [xs,ys] H1 (Rows.whole b0) ⟨⟨a,rfl,ha.le hle1⟩,⟨b,rfl,hb.le hle1⟩,trivial⟩ (by simp [catR]; omega) (by simp)) ?_
 have ec:catR [xs,ys]=xs++ys:=by simp [catR]
 rw [ec]
 rintro v H2 ⟨hle2,hv,hvx,hvn⟩
 simp
 by_cases hne:xs++ys=[]
 ·rw [hvn hne]
  obtain⟨rfl,rfl⟩:=List.append_eq_nil_iff.1 hne
  refine cg_use (sort_nil H2) ?_
  simp
  refine cg_use (implRunOk_ok .nils [] H2 Rows.nil (fun e he=>by cases he) (by simp)) ?_
  have e1:runOk ([]:List Ent)=true:=h1
  simp [e1]
  refine cg_ex (cloneRun_ok .nils [] H2 Rows.nil (by simp)) ?_
  rintro w H3 ⟨hle3,hw⟩
  simp
  rw [joinI_some ⟨h1,h2,by rw [joinL]; exact h1⟩,joinL]
  exact⟨(hle1.trans hle2).trans hle3,w,rfl,hw.base (Nat.le_trans hle1.1 hle2.1)⟩
 ·obtain⟨o,rfl,ho,hD⟩:=hvx hne
  refine cg_ex (sort_ok o (xs++ys) H2 hD (by simp; omega) rfl) ?_
  rintro w H3 ⟨rfl,hF,l,hD3,hp,hS⟩
  have hl:=hp.length_eq
  have hle3:HLe H H3:=((hle1.trans hle2).fr_le hF (fun x hx=>by rw [hx]; exact Nat.le_trans hle1.1 ho))
  have hE:Ents H3 (.sl o 0 (xs++ys).length) l:=by
   rw [<- hl]
   have:=Rows.whole hD3
   unfold Ents
   simpa using this
  obtain⟨s1,s2⟩:=sorted_join h1 h2 hS hp
  have hfl:Fits l:=fun e he=>(List.mem_append.1 (hp.subset he)).elim (hx.2 e) (hy.2 e)
  simp
  refine cg_use (implRunOk_ok _ l H3 (by simpa using hE) hfl.short (by rw [hl]; simp; omega)) ?_
  cases h3:runOk l with
  | false =>
   rw [h3] at s1
   simp [joinI_none (a:=xs) (b:=ys) (by simp [<- s1]),RetJ]
   exact hle3
  | true =>
   rw [h3] at s1
   have e:=s2 h3
   subst e
   simp
   refine cg_ex (cloneRun_ok _ _ H3 (by simpa using hE) (by rw [hl]; simp; omega)) ?_
   rintro w H4 ⟨hle4,hw⟩
   simp
   rw [joinI_some ⟨h1,h2,h3⟩]
   exact⟨hle3.trans hle4,w,rfl,hw.base hle3.1⟩
end Go.Proofs.YtepeokaplbbpoaaGreat.B

namespace Go.Proofs.YtepeokaplbbpoaaGreat.B
open Go.RowKit Go.Proofs
set_option linter.unusedVariables false
set_option linter.unusedSimpArgs false
variable {E:Env}
theorem label_ok (k:ByteArray) (d:Nat) (H:Hp) (hd:d<=k.size) (hk:k.size<4611686018427387904):AC Tryz.prog E 150 [.str k,.int .i64 d] H (fun v H'=>v=.int .u8 (letter k d).toNat/\H'=H):=by
 refine AC_byp (tC_le tabJ_ok) h_impl_label (by simp) ?_
 simp [c_impl_label]
 refine c_split (fun hq=>?_) (fun hq=>?_)<;>simp at hq
 ·have:letter k d=45:=letter_ge (by omega)
  simp [this]
 ·have hlt:d<k.size:=by omega
  have:=letter_lt hlt
  simp [hlt,<- this]
theorem room_ok (i:Nat) (H:Hp) (hi:i<1000000):AC Tryz.prog E 71 [.int .i64 i] H (fun v H'=>v=.int .i64 (sizeL i:Nat)/\H'=H):=by
 refine AC_byp (tC_le tabJ_ok) h_impl_room (by simp) ?_
 have hw:=wrapN (i:=i) (by omega)
 have hw3:IntKind.i64.wrap (8 * ((i:Int)+1))=8 * ((i:Int)+1):=by rw [wrap64 (by omega) (by omega)]
 simp [c_impl_room,hw,hw3,sizeL]
theorem isKeep_ok (n:Int) (H:Hp):AC Tryz.prog E 119 [.int .i64 n] H (fun v H'=>v=.bool (decide (0<=n/\n<=5))/\H'=H):=by
 refine AC_byp (tC_le tabJ_ok) h_impl_isKeep (by simp) ?_
 simp [c_impl_isKeep]
theorem at_ok (a:AV) (r:List Ent) (k:ByteArray) (time:Int) (H:Hp) (ha:Ents H a r) (hn:r.length<1099511627776) :
  AC Tryz.prog E 108 [a,.str k,.int .i64 time] H (fun v H'=>v=.tu (entAV (atR k time r))/\H'=H):=by
 refine AC_byp (tC_le tabJ_ok) h_impl_at (by unfold entAV; split<;>simp [entRow]) ?_
 have l1:=ha.len
 simp [c_impl_at,l1,ha.slc]
 refine W_for (fun m t H'=>∃ i,i+m=r.length/\t 1=.str k/\t 2=.int .i64 time/\t 6=.pt H.length 0 0/\t 10=a/\t 11=.int .i64 r.length/\t 12=.int .i64 (i:Nat)/\HLe H H'/\H'.at H.length=some ⟨[[.str ⟨#[]⟩,.int .i64 0,.bool false,.int .i64 0]],4,45,false⟩/\atR k time (r.drop i)=atR k time r) r.length ?_ (tC_mono AC_mono) ?_
 ·exact⟨0,by simp⟩
 rintro m t H' ⟨i,him,h1,h2,h6,h10,h11,h12,hle,b6,hI⟩
 simp [h1,h2,h6,h10,h11,h12]
 refine c_split (fun hq=>?_) (fun hq=>?_)<;>simp at hq
 ·have hw:=wrapN (i:=i) (by omega)
  obtain⟨o,i0,ob,rfl,aH,a2,a3⟩:=ha.get hq
  have a1:=hle.2 _ _ aH
  rw [List.drop_eq_getElem_cons hq] at hI
  simp only [atR] at hI
  obtain⟨G,hG⟩:∃ G:Hp,G=H'++[some ⟨[[.str r[i].key,.int .i64 r[i].val,.bool r[i].gone,.int .i64 r[i].time]],4,45,false⟩]:=⟨_,rfl⟩
  have hleG:HLe H' G:=by rw [hG]; exact HLe.self _ _
  have bG:G.at H'.length=some ⟨[[.str r[i].key,.int .i64 r[i].val,.bool r[i].gone,.int .i64 r[i].time]],4,45,false⟩:=by rw [hG]; simp
  have u1:=Hp.at_lt a1
  have b6G:=hleG.2 _ _ b6
  have u6:=Hp.at_lt b6G
  simp [h1,h2,h6,h10,h11,h12,hq,a1,a2,a3,Hp.at_app,u1,<- hG,bG]
  by_cases hk:r[i].key=k
  ·by_cases ht:r[i].time<=time
   ·rw [if_pos ⟨hk,ht⟩] at hI
    simp [h1,h2,h6,h10,h11,h12,hq,hw,hk,ht,bG,b6G,u6,Hp.at_set]
    rw [<- hI]
    simp [entAV,entRow,hk]
    exact (hle.trans hleG).set (Nat.le_refl _) _
   ·rw [if_neg (fun h=>ht h.2)] at hI
    simp [h1,h2,h6,h10,h11,h12,hq,hw,hk,ht,bG]
    exact⟨m-1,by omega,i+1,by omega,by omega,hle.trans hleG,b6G,hI⟩
  ·rw [if_neg (fun h=>hk h.1)] at hI
   simp [h1,h2,h6,h10,h11,h12,hq,hw,hk,bG]
   exact⟨m-1,by omega,i+1,by omega,by omega,hle.trans hleG,b6G,hI⟩
 ·have:i=r.length:=by omega
  subst this
  rw [List.drop_length] at hI
  have u6:=Hp.at_lt b6
  rw [<- hI]
  simp [h6,atR,entAV,entRow,b6,u6,Hp.at_set]
  exact hle.set (Nat.le_refl _) _
theorem keysOf_ok (a:AV) (r:List Ent) (H:Hp) (ha:Ents H a r) (hn:r.length<1099511627776) :
  AC Tryz.prog E 55 [a] H (fun v H'=>HLe H H'/\OwnS H H' v (keysR r)):=by
 refine AC_by fol (tC_le tabJ_ok) h_impl_keysOf ?_
 have l1:=ha.len
 simp [c_impl_keysOf,l1,ha.slc]
 refine W_for (fun m t H'=>∃ i out v,i+m=r.length/\t 0=a/\t 3=v/\t 6=a/\t 7=.int .i64 r.length/\t 8=.int .i64 (i:Nat)/\HLe H H'/\OwnS H H' v out/\out++keys1 (prev r i) (r.drop i)=keysR r) r.length ?_ (tC_mono AC_mono) ?_
 ·exact⟨0,[],.nils,by simp,by simp,by simp,by simp,by simp,by simp,HLe.refl _,OwnM.nils,by simp [prev,keysR]⟩
 rintro m t H' ⟨i,out,v,him,h0,h3,h6,h7,h8,hle,hv,hI⟩
 simp [h0,h3,h6,h7,h8]
 refine c_split (fun hq=>?_) (fun hq=>?_)<;>simp at hq
 ·have hw:=wrapN (i:=i) (by omega)
  have hol:out.length<=r.length:=by
   have:=congrArg List.length hI
   simp only [List.length_append] at this
   have h9:(keysR r).length<=r.length:=keys1_len none r
   omega
  obtain⟨o,i0,ob,rfl,aH,a2,a3⟩:=ha.get hq
  have a1:=hle.2 _ _ aH
  rw [List.drop_eq_getElem_cons hq] at hI
  simp only [keys1] at hI
  obtain⟨G,hG⟩:∃ G:Hp,G=H'++[some ⟨[[.str r[i].key,.int .i64 r[i].val,.bool r[i].gone,.int .i64 r[i].time]],4,45,false⟩]:=⟨_,rfl⟩
  have hleG:HLe H' G:=by rw [hG]; exact HLe.self _ _
  have bG:G.at H'.length=some ⟨[[.str r[i].key,.int .i64 r[i].val,.bool r[i].gone,.int .i64 r[i].time]],4,45,false⟩:=by rw [hG]; simp
  have u1:=Hp.at_lt a1
  have a1G:=hleG.2 _ _ a1
  have hvG:=hv.le hleG
  have hleH:=hle.trans hleG
  rcases Nat.eq_zero_or_pos i with rfl | hp
  ·rw [Nat.add_zero] at a3
   rw [if_pos (by simp [prev,newK])] at hI
   simp [h0,h3,h6,h7,h8,hq,a1,a2,a3,hw,Hp.at_app,u1,<- hG,bG]
   refine appG_add (y:=r[0].key) hvG hleH (by omega) rfl (fun v3 H3 g1 g2 g3 g4=>?_)
   simp [h0,h3,h6,h7,h8,wrap1]
   exact⟨m-1,by omega,1,by omega,by omega,g1,out++[r[0].key],g2,by rw [prev_succ hq]; simpa using hI⟩
  ·have hlt:i-1<r.length:=by omega
   have hw1:=wrapP hp (by omega)
   obtain⟨o2,i2,ob2,e2,b1,b2,b3⟩:=ha.get hlt
   cases e2
   rw [aH] at b1
   cases b1
   have hi0:¬i=0:=by omega
   rw [prev_pos hp (by omega)] at hI
   by_cases hk:r[i-1].key=r[i].key
   ·rw [if_neg (by simp [newK,hk])] at hI
    simp [h0,h3,h6,h7,h8,hq,hlt,hi0,a1,a2,a3,b3,hw,hw1,hk,Hp.at_app,u1,<- hG,bG,a1G]
    exact⟨m-1,by omega,i+1,by omega,by omega,hleH,out,hvG,by rw [prev_succ hq]; exact hI⟩
   ·rw [if_pos (by simp [newK,hk])] at hI
    simp [h0,h3,h6,h7,h8,hq,hlt,hi0,a1,a2,a3,b3,hw,hw1,hk,Hp.at_app,u1,<- hG,bG,a1G]
    refine appG_add (y:=r[i].key) hvG hleH (by omega) rfl (fun v3 H3 g1 g2 g3 g4=>?_)
    simp [h0,h3,h6,h7,h8,hw]
    exact⟨m-1,by omega,i+1,by omega,by omega,g1,out++[r[i].key],g2,by rw [prev_succ hq]; simpa using hI⟩
 ·have:i=r.length:=by omega
  subst this
  rw [List.drop_length] at hI
  simp only [keys1,List.append_nil] at hI
  subst hI
  simp [h3]
  exact⟨hle,hv⟩
theorem RunKeys_ok (a:AV) (r:List Ent) (H:Hp) (ha:Ents H a r) (hb:EsB r) :
  AC Tryz.prog E 70 [a] H (fun v H'=>HLe H H'/\OwnS H H' v (if runOk r=true then keysR r else [])):=by
 refine AC_by fol (tC_le tabJ_ok) h_impl_RunKeys ?_
 simp [c_impl_RunKeys]
 refine cg_use (implRunOk_ok a r H ha hb.2.short (by have:=hb.1; omega)) ?_
 cases h1:runOk r with
 | false =>
  simp
  exact OwnM.nils
 | true =>
  simp
  refine cg_ex (keysOf_ok a r H ha hb.1) ?_
  rintro v H' ⟨h2,h3⟩
  simp
  exact⟨h2,h3⟩
end Go.Proofs.YtepeokaplbbpoaaGreat.B

namespace Go.Proofs.YtepeokaplbbpoaaGreat.B
open Go.RowKit Go.Proofs
set_option linter.unusedVariables false
set_option linter.unusedSimpArgs false
variable {E:Env}
def BitsIs (s:ByteArray) (b:List Bool):Prop:=s.data.toList=b.map bitC
theorem BitsIs.size {s:ByteArray} {b:List Bool} (h:BitsIs s b):s.size=b.length:=by
 have:=congrArg List.length h
 rw [List.length_map] at this
 rw [<- this]
 exact Array.length_toList.symm
theorem BitsIs.bt {s:ByteArray} {b:List Bool} (h:BitsIs s b) {i:Nat} (hi:i<b.length):bt s i=if b[i]=true then 49 else 48:=by
 have hl:s.data.toList.length=b.length:=by rw [h,List.length_map]
 rw [bt_at (by omega)]
 have:s.data.toList[i]'(by omega)=bitC b[i]:=by
  have h2:s.data.toList[i]?=(b.map bitC)[i]?:=by rw [h]
  rw [List.getElem?_eq_getElem (by omega),List.getElem?_eq_getElem (by simpa using hi),List.getElem_map] at h2
  exact Option.some.inj h2
 rw [this]
 cases b[i]<;>rfl
theorem oneP_drop_t {b:List Bool} {i:Nat} (hi:i<b.length) (h:b[i]=true):oneP (b.drop i) 0=some 0/\∀ n,oneP (b.drop i) (n+1)=(oneP (b.drop (i+1)) n).map (·+1):=by
 rw [List.drop_eq_getElem_cons hi,h]
 exact⟨rfl,fun n=>rfl⟩
theorem oneP_drop_f {b:List Bool} {i:Nat} (hi:i<b.length) (h:b[i]=false):∀ n,oneP (b.drop i) n=(oneP (b.drop (i+1)) n).map (·+1):=by
 rw [List.drop_eq_getElem_cons hi,h]
 exact fun n=>rfl
theorem opt_add (o:Option Nat) (i:Nat):(o.map (·+1)).map (·+i)=o.map (·+(i+1)):=by
 cases o with
 | none=>rfl
 | some x =>
  simp only [Option.map_some]
  congr 1
  omega
def posI (o:Option Nat):Int:=match o with
 | none=>-1
 | some i=>i
theorem one_ok (s:ByteArray) (b:List Bool) (n:Nat) (H:Hp) (hb:BitsIs s b) (hs:b.length<1099511627776) (hn:n<1099511627776) :
  AC Tryz.prog E 186 [.str s,.int .i64 n] H (fun v H'=>v=.int .i64 (posI (oneP b n))/\H'=H):=by
 refine AC_byp (CLe.refl (AC Tryz.prog E)) h_impl_one (by simp) ?_
 have hsz:=hb.size
 simp [c_impl_one,hsz]
 refine W_for (fun k t H'=>∃ i m:Nat,i+k=b.length/\m<1099511627776/\t 0=.str s/\t 1=.int .i64 m/\t 7=.int .i64 b.length/\t 8=.int .i64 i/\(oneP (b.drop i) m).map (·+i)=oneP b n/\HLe H H') b.length ?_ AC_mono ?_
 ·exact⟨0,n,by simp,hn,by simp,by simp,by simp [hsz],by simp,by simp,HLe.refl _⟩
 rintro k t H' ⟨i,m,hik,hm,h0,h1,h7,h8,hP,hle⟩
 simp [h0,h1,h7,h8]
 refine c_split (fun hq=>?_) (fun hq=>?_)<;>simp at hq
 ·have hi:i<b.length:=by omega
  have hw:=wrapN (i:=i) (by omega)
  have hbt:=hb.bt hi
  simp [h0,h1,h7,h8,hbt,hsz,hi]
  cases hbi:b[i] with
  | false =>
   simp [h0,h1,h7,h8,hw]
   rw [oneP_drop_f hi hbi,opt_add] at hP
   exact⟨k-1,by omega,i+1,by omega,m,hm,rfl,by omega,hP,hle⟩
  | true =>
   obtain⟨p0,p1⟩:=oneP_drop_t hi hbi
   simp [h0,h1,h7,h8]
   refine c_split (fun hq2=>?_) (fun hq2=>?_)<;>simp at hq2
   ·have:m=0:=by omega
    subst this
    rw [p0] at hP
    rw [<- hP]
    simp [h0,h1,h7,h8,posI,hle]
   ·obtain⟨m',rfl⟩:∃ m',m=m'+1:=⟨m-1,by omega⟩
    rw [p1,opt_add] at hP
    have hw2:IntKind.i64.wrap (m':Int)=m':=wrap64 (by omega) (by omega)
    simp [h0,h1,h7,h8,hw,hw2]
    exact⟨k-1,by omega,i+1,by omega,m',by omega,rfl,by omega,hP,hle⟩
 ·have:i=b.length:=by omega
  subst this
  rw [List.drop_length] at hP
  rw [<- hP]
  simp [posI,oneP,hle]
theorem Count_ok (s:ByteArray) (c:UInt8) (H:Hp):AC Tryz.prog E 171 [.str s,.str ⟨#[c]⟩] H (fun v H'=>v=.int .i64 (s.data.toList.count c)/\H'=H):=by
 refine⟨?_,fun φ w vals hv hH=>?_⟩
 ·exact⟨_,_,Tryz.func171,by kernel_rfl,rfl⟩
 ·have e:vals=[.string s,.string ⟨#[c]⟩]:=by
   obtain⟨v,vs,rfl,h1,h2⟩:=hv
   obtain⟨v2,vs2,rfl,h3,h4⟩:=h2
   have h1:v=.string s:=h1
   have h3:v2=.string ⟨#[c]⟩:=h3
   have h4:vs2=[]:=h4
   rw [h1,h3,h4]
  subst e
  refine Calls.mono (Any.strings_Count_one Tryz.laysCount s c w) ?_
  rintro e w' ⟨rfl,rfl⟩
  exact⟨φ,H,.int .i64 (s.data.toList.count c),fun _ _ h=>h,hH,Below.refl _ _,rfl,rfl,rfl⟩
end Go.Proofs.YtepeokaplbbpoaaGreat.B

namespace Go.Proofs.YtepeokaplbbpoaaGreat.B
open Go.RowKit Go.Proofs
set_option linter.unusedVariables false
set_option linter.unusedSimpArgs false
variable {E:Env}
theorem svBox (s:Sv) (r:AV) (H:Hp):∃ H1:Hp,H1=H++[some ⟨[[.str s.l,.str s.m,.str s.f,r,.int .i64 s.k]],5,76,false⟩]/\HLe H H1/\H1.at H.length=some ⟨[[.str s.l,.str s.m,.str s.f,r,.int .i64 s.k]],5,76,false⟩ :=
 ⟨_,rfl,HLe.self _ _,by simp⟩
def nullsN (b:List Bool):Nat:=(b.takeWhile (fun x=>!x)).length
theorem nullsN_f {b:List Bool} {i:Nat} (hi:i<b.length) (h:b[i]=false):nullsN (b.drop i)=nullsN (b.drop (i+1))+1:=by
 unfold nullsN
 rw [List.drop_eq_getElem_cons hi,h]
 rfl
theorem nullsN_t {b:List Bool} {i:Nat} (hi:i<b.length) (h:b[i]=true):nullsN (b.drop i)=0:=by
 unfold nullsN
 rw [List.drop_eq_getElem_cons hi,h]
 rfl
def spanI (b:List Bool) (n:Nat):AV:=match oneP b n with
 | none=>.tu [.int .i64 0,.int .i64 0]
 | some a=>.tu [.int .i64 a,.int .i64 ((a+1+nullsN (b.drop (a+1)):Nat):Int)]
theorem oneP_lt:∀ (b:List Bool) (n a:Nat),oneP b n=some a->a<b.length
 | [],n,a,h=>by cases h
 | true :: b,0,a,h=>by
  have:0=a:=Option.some.inj h
  simp
  omega
 | true :: b,n+1,a,h=>by
  obtain⟨x,hx,rfl⟩:=Option.map_eq_some_iff.1 h
  have:=oneP_lt b n x hx
  simp
  omega
 | false :: b,n,a,h=>by
  obtain⟨x,hx,rfl⟩:=Option.map_eq_some_iff.1 h
  have:=oneP_lt b n x hx
  simp
  omega
theorem branches_ok (s:Sv) (r:AV) (b:List Bool) (n:Nat) (H:Hp) (hr:one r=true) (hb:BitsIs s.f b) (hs:b.length<1099511627776) (hn:n<1099511627776) :
  AC Tryz.prog E 149 [svAV s r,.int .i64 n] H (fun v H'=>v=spanI b n/\H'=H):=by
 refine AC_byp (tC_le tabJ_ok) h_impl_Sieve_branches (by unfold spanI; split<;>rfl) ?_
 have hsz:=hb.size
 obtain⟨H1,hH1,hle1,b0⟩:=svBox s r H
 simp [c_impl_Sieve_branches,svAV,hr,<- hH1,b0]
 refine cg_use (one_ok s.f b n H1 hb hs hn) ?_
 cases hp:oneP b n with
 | none=>simp [posI,spanI,hp,hle1]
 | some a =>
  have ha:=oneP_lt b n a hp
  have hw:=wrapN (i:=a) (by omega)
  have hneg:¬((a:Int)<0):=by omega
  simp [posI,spanI,hp,hneg,hw]
  refine W_for (fun k t H'=>∃ i:Nat,i+k=b.length/\t 2=.pt H.length 0 0/\t 6=.int .i64 a/\t 7=.int .i64 i/\i+nullsN (b.drop i)=a+1+nullsN (b.drop (a+1))/\HLe H H'/\H'.at H.length=some ⟨[[.str s.l,.str s.m,.str s.f,r,.int .i64 s.k]],5,76,false⟩) (b.length-(a+1)) ?_ (tC_mono AC_mono) ?_
  ·exact⟨a+1,by omega,by simp,by simp,by simp,rfl,hle1,b0⟩
  rintro k t H' ⟨i,hik,h2,h6,h7,hP,hle,b0'⟩
  simp [h2,h6,h7,b0',hsz]
  by_cases hi:i<b.length
  ·have hbt:=hb.bt hi
   have hiI:(i:Int)<b.length:=by omega
   have hw2:=wrapN (i:=i) (by omega)
   cases hbi:b[i] with
   | false =>
    rw [nullsN_f hi hbi] at hP
    simp [h2,h6,h7,b0',hi,hbt,hbi,hsz,hw2]
    exact⟨k-1,by omega,i+1,by omega,by omega,by omega,hle⟩
   | true =>
    rw [nullsN_t hi hbi] at hP
    simp [h2,h6,h7,b0',hi,hbt,hbi,hsz,hle]
    omega
  ·have:i=b.length:=by omega
   subst this
   have e:nullsN (b.drop b.length)=0:=by rw [List.drop_length]; rfl
   rw [e] at hP
   simp [h2,h6,h7,b0',hle]
   omega
theorem bits_count {s:ByteArray} {b:List Bool} (h:BitsIs s b) (n:Nat):((s.extract 0 n).data.toList.count 49=(b.take n).countP id)/\((s.extract 0 n).data.toList.count 48=(b.take n).countP (fun x=>!x)):=by
 have e:(s.extract 0 n).data.toList=(b.take n).map bitC:=by
  rw [ByteArray.data_extract,Array.toList_extract,List.map_take,<- h]
  rfl
 rw [e,List.count,List.count,List.countP_map,List.countP_map]
 constructor
 ·congr 1
  funext x
  cases x<;>rfl
 ·congr 1
  funext x
  cases x<;>rfl
theorem node_ok (s:Sv) (r:AV) (b:List Bool) (i:Nat) (H:Hp) (hr:one r=true) (hb:BitsIs s.m b) (hs:b.length<1099511627776) (hi:i<b.length) :
  AC Tryz.prog E 151 [svAV s r,.int .i64 i] H (fun v H'=>v=.int .i64 ((b.take (i+1)).countP id)/\H'=H):=by
 refine AC_byp (tC_le tabJ_ok) h_impl_Sieve_node (by simp) ?_
 have hsz:=hb.size
 obtain⟨H1,hH1,hle1,b0⟩:=svBox s r H
 have hw:=wrapN (i:=i) (by omega)
 simp [c_impl_Sieve_node,svAV,hr,<- hH1,b0,hw,hsz]
 refine⟨by omega,?_⟩
 refine cg_use (Count_ok _ 49 H1) ?_
 rw [(bits_count hb (i+1)).1]
 simp [hle1]
theorem rest_ok (s:Sv) (r:AV) (b:List Bool) (i:Nat) (H:Hp) (hr:Strs H r s.r) (hb:BitsIs s.m b) (hs:b.length<1099511627776) (hi:i<b.length) (x:ByteArray) (hx:s.r[(b.take i).countP (fun x=>!x)]?=some x) :
  AC Tryz.prog E 153 [svAV s r,.int .i64 i] H (fun v H'=>v=.str x/\H'=H):=by
 refine AC_byp (tC_le tabJ_ok) h_impl_Sieve_rest (by simp) ?_
 have hsz:=hb.size
 obtain⟨H1,hH1,hle1,b0⟩:=svBox s r H
 simp [c_impl_Sieve_rest,svAV,Rows.one hr,<- hH1,b0,hsz]
 refine⟨by omega,?_⟩
 refine cg_use (Count_ok _ 48 H1) ?_
 rw [(bits_count hb i).2]
 obtain⟨n,hn⟩:∃ n,n=(b.take i).countP (fun x=>!x):=⟨_,rfl⟩
 rw [<- hn] at hx ⊢
 obtain⟨hl,hxe⟩:=List.getElem?_eq_some_iff.1 hx
 obtain⟨o1,i1,ob1,rfl,a1,a2,a3⟩:=(hr.le hle1).get hl
 rw [hxe] at a3
 simp [b0,a1,a2,a3,hl,hle1]
theorem complete_ok (s:Sv) (r:AV) (b:List Bool) (i:Nat) (H:Hp) (hr:Strs H r s.r) (hb:BitsIs s.m b) (hs:b.length<1099511627776) (hi:i<b.length) (hl:s.l.size=b.length) (x:ByteArray) (hx:s.r[(b.take i).countP (fun x=>!x)]?=some x) (c:UInt8) (hc:bt s.l i=c.toNat) :
  AC Tryz.prog E 152 [svAV s r,.int .i64 i] H (fun v H'=>v=.bool (decide (c=45)||decide ((x.size:Int)<s.k))/\H'=H):=by
 refine AC_byp (tC_le tabJ_ok) h_impl_Sieve_complete (by simp) ?_
 obtain⟨H1,hH1,hle1,b0⟩:=svBox s r H
 have hcd:decide ((c.toNat:Int)=45)=decide (c=45):=u8_eq c 45
 have hiI:(i:Int)<b.length:=by omega
 simp [c_impl_Sieve_complete,svAV,Rows.one hr,<- hH1,b0,hl,hc,hi,hcd]
 by_cases he:c=45
 ·simp [he,hle1]
 ·simp [he,b0,Rows.one hr]
  have hR:=rest_ok (E:=E) s r b i H1 (hr.le hle1) hb hs hi x hx
  simp only [svAV] at hR
  refine cg_use hR ?_
  simp [b0,hle1]
end Go.Proofs.YtepeokaplbbpoaaGreat.B

namespace Go.Proofs.YtepeokaplbbpoaaGreat.B
open Go.RowKit Go.Proofs
set_option linter.unusedVariables false
set_option linter.unusedSimpArgs false
variable {E:Env}
theorem HasPrefix_in (k p:ByteArray) (H:Hp) (hk:k.size<4611686018427387904) (hp:p.size<4611686018427387904):AC Tryz.prog E 199 [.str k,.str p] H (fun v H'=>v=.bool (begins k p)/\H'=H):=by
 refine AC_byp (CLe.refl (AC Tryz.prog E)) h_internal_stringslite_HasPrefix (by simp) ?_
 simp [c_internal_stringslite_HasPrefix]
 by_cases h:p.size<=k.size
 ·have hI:(p.size:Int)<=k.size:=by omega
  simp [h,hI,begins]
 ·have hI:¬(p.size:Int)<=k.size:=by omega
  simp [h,hI,begins]
theorem HasPrefix_ok (k p:ByteArray) (H:Hp) (hk:k.size<4611686018427387904) (hp:p.size<4611686018427387904):AC Tryz.prog E 174 [.str k,.str p] H (fun v H'=>v=.bool (begins k p)/\H'=H):=by
 refine AC_byp (CLe.refl (AC Tryz.prog E)) h_strings_HasPrefix (by simp) ?_
 simp [c_strings_HasPrefix]
 refine callG_use (HasPrefix_in k p H hk hp) ?_
 simp
theorem KeyBegins_ok (k p:ByteArray) (H:Hp) (hk:k.size<4611686018427387904) (hp:p.size<4611686018427387904):AC Tryz.prog E 146 [.str k,.str p] H (fun v H'=>v=.bool (begins k p)/\H'=H):=by
 refine AC_byp (CLe.refl (AC Tryz.prog E)) h_impl_KeyBegins (by simp) ?_
 simp [c_impl_KeyBegins]
 refine callG_use (HasPrefix_ok k p H hk hp) ?_
 simp
structure Svt (ks:List ByteArray) (keep:Int) (F:List Fk) (L:List Br) (s:Sv):Prop where
 tr:Tr ks F L
 en:Enc L keep s
 len:L.length<1000000
 kp:0<=keep/\keep<=5
theorem Svt.bm {ks:List ByteArray} {keep:Int} {F:List Fk} {L:List Br} {s:Sv} (h:Svt ks keep F L s):BitsIs s.m (L.map Br.many):=by
 unfold BitsIs
 rw [h.en.m,List.map_map]
 rfl
theorem Svt.bf {ks:List ByteArray} {keep:Int} {F:List Fk} {L:List Br} {s:Sv} (h:Svt ks keep F L s):BitsIs s.f (L.map (·.fst)):=by
 unfold BitsIs
 rw [h.en.f,List.map_map]
 rfl
theorem Svt.ls {ks:List ByteArray} {keep:Int} {F:List Fk} {L:List Br} {s:Sv} (h:Svt ks keep F L s):s.l.size=L.length:=by
 have:=congrArg List.length h.en.l
 rw [List.length_map] at this
 rw [<- this]
 exact Array.length_toList.symm
theorem Svt.lt {ks:List ByteArray} {keep:Int} {F:List Fk} {L:List Br} {s:Sv} (h:Svt ks keep F L s) {i:Nat} (hi:i<L.length):bt s.l i=(L[i].ltr).toNat:=by
 have hl:s.l.data.toList.length=L.length:=by rw [h.en.l,List.length_map]
 rw [bt_at (by omega)]
 have h2:s.l.data.toList[i]?=(L.map Br.ltr)[i]?:=by rw [h.en.l]
 rw [List.getElem?_eq_getElem (by omega),List.getElem?_eq_getElem (by simpa using hi),List.getElem_map] at h2
 rw [Option.some.inj h2]
theorem Svt.rs {ks:List ByteArray} {keep:Int} {F:List Fk} {L:List Br} {s:Sv} (h:Svt ks keep F L s) {i:Nat} (hi:i<L.length) (hm:L[i].many=false):s.r[((L.map Br.many).take i).countP (fun x=>!x)]?=some (L[i].rst keep):=by
 rw [<- List.map_take,List.countP_map,h.en.r,List.getElem?_map]
 have:=filter_at (fun b:Br=>!b.many) L i hi (by simp [hm])
 have e:((fun x=>!x) ∘ Br.many)=(fun b:Br=>!b.many):=rfl
 rw [e,this]
 rfl
theorem Svt.kid {ks:List ByteArray} {keep:Int} {F:List Fk} {L:List Br} {s:Sv} (h:Svt ks keep F L s) {i:Nat} (hi:i<L.length) (hm:L[i].many=true):F[((L.map Br.many).take (i+1)).countP id]?=some L[i].kid:=by
 rw [<- List.map_take,List.countP_map]
 exact h.tr.kid hi hm
theorem pick_none {d:Nat} {c:UInt8}:pickG d c []=none:=rfl
theorem pick_drop {d:Nat} {c:UInt8} {gs:List (List ByteArray)} {i:Nat} (hi:i<gs.length):pickG d c (gs.drop i)=if letter ((gs[i]).headD ⟨#[]⟩) d=c then some gs[i] else pickG d c (gs.drop (i+1)):=by
 rw [List.drop_eq_getElem_cons hi,pickG]
theorem letter_more {ks g:List ByteArray} {d:Nat} {k:ByteArray} (hok:keyOk k=true) (hs:SP d ks) (hg:g∈brs d ks) (hm:many g=true) (hl:letter (g.headD ⟨#[]⟩) d=letter k d):d+1<=k.size:=by
 have h2:=SP.of_brs ks.length d (Nat.le_refl _) hs g hg
 have hlen:2<=g.length:=by
  have:1<g.length:=by simpa [many] using hm
  omega
 match g,hlen,h2,hl with
 | a :: b :: g,hlen,h2,hl =>
  have hsz:=h2.size hlen a (by simp)
  have hak:=h2.ok a (by simp)
  rcases Nat.lt_or_ge d k.size with h | h
  ·omega
  ·have e1:letter k d=45:=(letter_ok hok d).2 h
   have e2:letter a d=letter k d:=hl
   rw [e1] at e2
   have:=(letter_ok hak d).1 e2
   omega
def HsI (keep:Int) (k:ByteArray) (F:List Fk) (R:Bool) (s:Sv) (r:AV) (H:Hp) (m:Nat) (t:Tm) (H':Hp):Prop:=∃ (j d:Nat) (ks:List ByteArray),F[j]?=some (ks,d)/\m+d=7/\d<=k.size/\hasF keep k m ks d=R/\t 1=.str k/\t 2=.pt H.length 0 0/\t 5=.int .i64 j/\t 6=.int .i64 d/\HLe H H'/\H'.at H.length=some ⟨[[.str s.l,.str s.m,.str s.f,r,.int .i64 s.k]],5,76,false⟩
def HsJ (k:ByteArray) (s:Sv) (r:AV) (H:Hp) (a nb q j d:Nat) (gs:List (List ByteArray)) (m:Nat) (t:Tm) (H':Hp):Prop:=∃ i p:Nat,i+m=nb/\p=a+i/\t 1=.str k/\t 2=.pt H.length 0 0/\t 5=.int .i64 j/\t 6=.int .i64 d/\t 8=.int .i64 q/\t 9=.int .i64 p/\pickG d (letter k d) (gs.drop i)=pickG d (letter k d) gs/\HLe H H'/\H'.at H.length=some ⟨[[.str s.l,.str s.m,.str s.f,r,.int .i64 s.k]],5,76,false⟩
set_option maxHeartbeats 1600000 in
theorem has_ok (s:Sv) (r:AV) (k:ByteArray) (ks:List ByteArray) (keep:Int) (F:List Fk) (L:List Br) (H:Hp) (h:Svt ks keep F L s) (hr:Strs H r s.r) (hk:keyOk k=true) :
  AC Tryz.prog E 109 [svAV s r,.str k] H (fun v H'=>v=.bool (hasR ks keep k)/\H'=H):=by
 refine AC_byp (tC_le tabJ_ok) h_impl_Sieve_has (by simp) ?_
 obtain⟨H1,hH1,hle1,b0⟩:=svBox s r H
 have hks:=keyOk_size hk
 have hll:=h.len
 have hr1:=Rows.one hr
 simp [c_impl_Sieve_has,svAV,hr1,<- hH1]
 by_cases hke:ks=[]
 ·
  have hL:=h.tr.z hke
  have e1:spanI (L.map (·.fst)) 0=.tu [.int .i64 0,.int .i64 0]:=by
   rw [hL]
   rfl
  have e2:hasR ks keep k=false:=by
   unfold hasR
   rw [hke,hasF,brs]
   rfl
  rw [e2]
  refine W_for (fun m t H'=>t 1=.str k/\t 2=.pt H.length 0 0/\t 5=.int .i64 0/\t 6=.int .i64 0/\HLe H H'/\H'.at H.length=some ⟨[[.str s.l,.str s.m,.str s.f,r,.int .i64 s.k]],5,76,false⟩) 0 ?_ (tC_mono AC_mono) ?_
  ·exact⟨by simp,by simp,by simp,by simp,hle1,b0⟩
  rintro m t H' ⟨t1,t2,t5,t6,hle,b0'⟩
  simp [t1,t2,t5,t6,b0']
  have cB:=branches_ok (E:=E) s r (L.map (·.fst)) 0 H' hr1 h.bf (by rw [List.length_map]; omega) (by omega)
  simp only [svAV] at cB
  refine cg_use cB ?_
  rw [e1]
  simp
  refine W_for (fun m t2 H2=>t2 8=.int .i64 0/\t2 9=.int .i64 0/\H2=H') 0 ?_ (tC_mono AC_mono) ?_
  ·exact⟨by simp,by simp,rfl⟩
  rintro m t2 H2 ⟨u8,u9,rfl⟩
  simp [u8,u9,hle]
 refine W_for (HsI keep k F (hasR ks keep k) s r H) 7 ?_ (tC_mono AC_mono) ?_
 ·refine⟨0,0,ks,by rw [h.tr.f]; rfl,rfl,Nat.zero_le _,rfl,by simp,by simp,by simp,by simp,hle1,b0⟩
 rintro m t H' ⟨j,d,ks',hj,hmd,hdk,hR,t1,t2,t5,t6,hle,b0'⟩
 obtain⟨hjl,hje⟩:=List.getElem?_eq_some_iff.1 hj
 have hgd:=h.tr.good F[j] (List.getElem_mem hjl)
 have hsp:=h.tr.sp F[j] (List.getElem_mem hjl)
 rw [hje] at hgd hsp
 have hd5:d<=5:=hgd.deep
 obtain⟨n,rfl⟩:∃ n,m=n+1:=⟨m-1,by omega⟩
 have hjb:j<1099511627776:=by
  have e:=congrArg List.length h.tr.f
  rw [List.length_cons,List.length_map] at e
  have:=List.length_filter_le Br.many L
  omega
 simp [t1,t2,t5,t6,b0']
 have cB:=branches_ok (E:=E) s r (L.map (·.fst)) j H' hr1 h.bf (by rw [List.length_map]; omega) hjb
 simp only [svAV] at cB
 refine cg_use cB ?_
 obtain⟨a,p1,p2,p3,p4,p5⟩:=h.tr.span hke hjl
 rw [hje] at p2 p3 p4
 have p6:∀ (i:Nat) (hi:i<(brs d ks').length) (hl:a+i<L.length),(L[a+i]).g=(brs d ks')[i]/\(L[a+i]).d=d:=by
  intro i hi hl
  have:=p5 i (by rw [hje]; exact hi) hl
  simp only [hje] at this
  exact this
 clear p5
 simp only at p2 p3 p4
 rw [hasF] at hR
 obtain⟨gs,hgs⟩:∃ gs,gs=brs d ks':=⟨_,rfl⟩
 have hgm:∀ g∈gs,g∈brs d ks':=by rw [hgs]; exact fun g h=>h
 simp only [<- hgs] at p2 p3 p4 p6 hR
 obtain⟨q,hqa⟩:∃ q:Nat,q=a+gs.length:=⟨_,rfl⟩
 have hspan:spanI (L.map (·.fst)) j=.tu [.int .i64 a,.int .i64 q]:=by
  unfold spanI nullsN
  rw [p1]
  simp only
  rw [p4,show a+1+(gs.length-1)=q by omega]
 rw [hspan]
 simp [t1,t2,t5,t6]
 refine W_for (HsJ k s r H a gs.length q j d gs) gs.length ?_ (tC_mono AC_mono) ?_
 ·exact⟨0,a,by omega,rfl,by simp [t1],by simp [t2],by simp [t5],by simp [t6],by simp,by simp,rfl,hle,b0'⟩
 clear t1 t2 t5 t6 hle b0'
 rintro m t H' ⟨i,p,him,hp,t1,t2,t5,t6,t8,t9,hP,hle,b0'⟩
 simp [t1,t2,t5,t6,t8,t9,b0']
 by_cases hi:i<gs.length
 ·have hpq:p<q:=by omega
  have hpL:p<L.length:=by omega
  have hpI:(p:Int)<L.length:=by omega
  have hls:=h.ls
  obtain⟨z1,z2⟩:=p6 i hi (by omega)
  simp only [<- hp] at z1 z2
  have hlt:=h.lt hpL
  obtain⟨x,hx⟩:∃ x,x=gs[i].headD ⟨#[]⟩:=⟨_,rfl⟩
  have hltr:L[p].ltr=letter x d:=by
   unfold Br.ltr
   rw [z1,z2,hx]
  rw [hltr] at hlt
  have hw:=wrapN (i:=p) (by omega)
  have hbm:=h.bm.bt (i:=p) (by rw [List.length_map]; omega)
  rw [List.getElem_map] at hbm
  have hms:s.m.size=L.length:=by rw [h.bm.size,List.length_map]
  have hmany:L[p].many=many gs[i]:=by unfold Br.many; rw [z1]
  simp [hpq,t1,t2,t5,t6,t8,t9,b0',hlt,hls,hpL]
  refine cg_use (label_ok k d H' hdk (by omega)) ?_
  rw [pick_drop hi,<- hx] at hP
  by_cases hc:letter x d=letter k d
  ·rw [if_pos hc] at hP
   rw [<- hP] at hR
   simp only [<- hx] at hR
   have hgi:=hgm _ (List.getElem_mem hi)
   have hpn:¬p=q:=by omega
   have hpn2:¬(p:Int)=q:=by omega
   cases hm:many gs[i] with
   | true =>
    rw [hm] at hmany
    rw [hmany,if_pos rfl] at hbm
    rw [hm,if_pos rfl] at hR
    simp [t1,t2,t5,t6,t8,t9,b0',hlt,hls,hpL,hc,hpn,hpn2,hbm,hms]
    have cN:=node_ok (E:=E) s r (L.map Br.many) p H' hr1 h.bm (by rw [List.length_map]; omega) (by rw [List.length_map]; omega)
    simp only [svAV] at cN
    refine cg_use cN ?_
    have hkd:=h.kid hpL hmany
    obtain⟨j2,hj2⟩:∃ j2,j2=((L.map Br.many).take (p+1)).countP id:=⟨_,rfl⟩
    rw [<- hj2] at hkd ⊢
    have hkk:L[p].kid=(gs[i],d+1):=by unfold Br.kid; rw [z1,z2]
    rw [hkk] at hkd
    have hw2:=wrapN (i:=d) (by omega)
    simp [t1,t2,t5,t6,t8,t9,b0',hw2]
    refine⟨n,by omega,j2,d+1,gs[i],hkd,by omega,letter_more hk hsp hgi hm (by rw [<- hx]; exact hc),hR,by simp [t1],by simp [t2],by simp,by simp,hle,b0'⟩
   | false =>
    rw [hm] at hmany
    rw [hmany] at hbm
    simp only [Bool.false_eq_true,if_false] at hbm
    rw [hm] at hR
    simp only [Bool.false_eq_true,if_false] at hR
    have hw2:=wrapN (i:=d) (by omega)
    have hrs:=h.rs hpL hmany
    have hrst:L[p].rst keep=restK x (d+1) keep:=by unfold Br.rst; rw [z1,z2,hx]
    rw [hrst] at hrs
    obtain⟨e,he⟩:∃ e:Nat,e=min (d+1) k.size:=⟨_,rfl⟩
    have hmin:(if (k.size:Int)<(d:Int)+1 then (k.size:Int) else (d:Int)+1)=e:=by
     split<;>omega
    have het:k.extract e k.size=tailK k d:=by unfold tailK; rw [he]
    have hts:(tailK k d).size<=k.size:=by rw [<- het,ByteArray.size_extract]; omega
    have hxs:(restK x (d+1) keep).size<1000:=by
     unfold restK
     rw [ByteArray.size_extract]
     have:=h.kp
     omega
    simp [t1,t2,t5,t6,t8,t9,b0',hlt,hls,hpL,hc,hpn,hpn2,hbm,hms,hw2,hmin,het]
    refine⟨by omega,?_⟩
    have cC:=complete_ok (E:=E) s r (L.map Br.many) p H' (hr.le hle) h.bm (by rw [List.length_map]; omega) (by rw [List.length_map]; omega) (by rw [List.length_map]; exact hls) _ hrs _ hlt
    have cR:=rest_ok (E:=E) s r (L.map Br.many) p H' (hr.le hle) h.bm (by rw [List.length_map]; omega) (by rw [List.length_map]; omega) _ hrs
    simp only [svAV] at cC cR
    refine cg_use cC ?_
    have hwk:(decide (letter x d=45)||decide (((restK x (d+1) keep).size:Int)<s.k))=wholeK x d keep:=by rw [h.en.k]; rfl
    rw [hwk]
    unfold leafHas at hR
    cases hwh:wholeK x d keep with
    | true =>
     rw [hwh,if_pos rfl] at hR
     simp [t1,t2,t5,t6,t8,t9,b0']
     refine cg_use cR ?_
     simp [hle,hR]
    | false =>
     rw [hwh] at hR
     simp only [Bool.false_eq_true,if_false] at hR
     simp [t1,t2,t5,t6,t8,t9,b0']
     refine cg_use cR ?_
     simp
     refine cg_use (KeyBegins_ok _ _ H' (by omega) (by omega)) ?_
     simp [hle,hR]
  ·rw [if_neg hc] at hP
   have hcn:¬((letter x d).toNat:Int)=(letter k d).toNat:=fun e=>hc (UInt8.toNat_inj.1 (by omega))
   have hcn2:¬(letter x d).toNat=(letter k d).toNat:=fun e=>hc (UInt8.toNat_inj.1 e)
   simp [t1,t2,t5,t6,t8,t9,b0',hlt,hls,hpL,hcn,hcn2,hw]
   exact⟨m-1,by omega,i+1,p+1,by omega,by omega,by simp [t1],by simp [t2],by simp [t5],by simp [t6],by simp [t8],by simp,hP,hle,b0'⟩
 ·have hpq:¬p<q:=by omega
  have hpq2:p=q:=by omega
  rw [List.drop_of_length_le (by omega),pick_none] at hP
  rw [<- hP] at hR
  simp only at hR
  simp [hpq,hpq2,t1,t2,t5,t6,t8,t9,b0',hR.symm,hle]
end Go.Proofs.YtepeokaplbbpoaaGreat.B

namespace Go.Proofs.YtepeokaplbbpoaaGreat.B
open Go.RowKit Go.Proofs
set_option linter.unusedVariables false
set_option linter.unusedSimpArgs false
variable {E:Env}
set_option maxRecDepth 100000 in
theorem copy_used (b:Nat) (w:World) (h0:w.cell? ⟨b,0,none⟩=some (.pointer (some ⟨b,0,none⟩))) :
  Calls Tryz.prog 193 #[.pointer (some ⟨b,0,none⟩)] w fun e w'=>e=.returned (.tuple #[])/\w'=w:=by
 obtain⟨j,hj,_⟩:=Option.map_eq_some_iff.1 (show (Tryz.prog.info? 167).map (·.size)=some 2 by kernel_rfl)
 go_enter Tryz.func193,Tryz.ntmps193
 go_wp2
 rw [Lib.run_neq_ptr_same w _ Tryz.underlying165 hj]
 go_wp2
 go_end0
 exact⟨rfl,rfl⟩
theorem lies_builder {n:Nat} (hn:1<=n):liesAt Tryz.prog Tryz.prog.depth 167 n 0 167 1=true:=by
 have hs:Tryz.prog.cellsOf 167=2:=by kernel_rfl
 have hf:sameLayout Tryz.prog Tryz.prog.depth 167 167=true:=by kernel_rfl
 have hd:∃ d,Tryz.prog.depth=d+1:=⟨Tryz.prog.depth-1,by
  have:0<Tryz.prog.depth:=Nat.lt_of_lt_of_le (show 0<1 by omega) (Nat.le_of_ble_eq_true (by kernel_rfl))
  omega⟩
 obtain⟨d,hd⟩:=hd
 rw [hd] at hf
 simp only [hd,liesAt,rowAt,hs,hf]
 simp [hn]
set_option maxRecDepth 100000 in
theorem copy_fresh (b c:Nat) (w:World) (h0:w.cell? ⟨b,0,none⟩=some (.pointer none)) (hsh:w.shape? b=some (167,c)) (hc:2<=c) (hfz:w.frozen? ⟨b,0,none⟩=false) :
  Calls Tryz.prog 193 #[.pointer (some ⟨b,0,none⟩)] w fun e w'=>e=.returned (.tuple #[])/\w'=w.setCell ⟨b,0,none⟩ (.pointer (some ⟨b,0,none⟩)):=by
 obtain⟨j,hj,hjs⟩:=Option.map_eq_some_iff.1 (show (Tryz.prog.info? 167).map (·.size)=some 2 by kernel_rfl)
 have hs:Tryz.prog.cellsOf 167=2:=by kernel_rfl
 have hlies:liesAt Tryz.prog Tryz.prog.depth 167 (c / Tryz.prog.cellsOf 167) 0 167 1=true:=by
  rw [hs]
  exact lies_builder (by omega)
 go_enter Tryz.func193,Tryz.ntmps193
 go_wp2
 rw [Lib.run_to_unsafe w ⟨b,0,none⟩ Tryz.underlying165 Tryz.underlying210 hj (by rw [hjs]; decide) hsh (show 0<c by omega)]
 simp only [Result.andThen]
 rw [Oper.upon_value]
 go_wp2
 rw [run_callFunc_extern Tryz.func208 (by kernel_rfl) (by kernel_rfl) (by kernel_rfl) (e:=Extern.AbiNoEscape.same) (by kernel_rfl)]
 rw [Lib.run_noEscape]
 simp only [Result.andThen]
 rw [Oper.upon_value]
 go_wp2
 rw [Lib.run_from_unsafe w ⟨b,0,none⟩ Tryz.underlying210 Tryz.underlying165 hj hsh hlies]
 simp only [Result.andThen]
 rw [Oper.upon_value]
 go_wp2
 go_end0
 exact⟨rfl,rfl⟩
theorem bld_parts {φ:Phi} {H:Hp} {w:World} (hH:HR E φ H w) {o:Nat} {a x:AV} (ho:H.at o=some ⟨[[a,x]],2,167,false⟩) {v:Value} (hv:VR φ (.pt o 0 0) v) :
  ∃ p cells va vx,φ o=some p/\v=.pointer (some ⟨p.b,0,none⟩)/\p.base=0/\p.esz=2/\w.heap[p.b]?=some (.cells cells 167 (0,0))/\2<=cells.size/\cells[0]?=some va/\cells[1]?=some vx/\VR φ a va/\VR φ x vx/\E.B0<=p.b:=by
 obtain⟨p,hp,rfl⟩:=hv
 have ho':=Hp.at_some ho
 obtain⟨q1,q2,cells,ee,fr,hblk,hrw,hrows⟩:=hH.obj _ _ ho' p hp
 obtain⟨rfl,he,hpsz,hbase,hB⟩:=hrw rfl
 have he:ee=167:=he
 rw [he] at hblk
 have hpe:p.esz=2:=q2
 obtain⟨hl,hc⟩:=hrows 0 [a,x] rfl
 obtain⟨h1,va,hva,hRa⟩:=hc 0 a rfl
 obtain⟨h2,vx,hvx,hRx⟩:=hc 1 x rfl
 rw [hbase] at hva hvx
 simp only [Nat.zero_mul,Nat.add_zero,Nat.zero_add] at hva hvx
 have hsz:1<cells.size:=(Array.getElem?_eq_some_iff.1 hvx).1
 exact⟨p,cells,va,vx,hp,by simp [hbase],hbase,hpe,hblk,hsz,hva,hvx,hRa,hRx,hB⟩
theorem copy_HR {φ:Phi} {H:Hp} {w:World} (hH:HR E φ H w) {o:Nat} {a x:AV} (ho:H.at o=some ⟨[[a,x]],2,167,false⟩) (ha:a=.nilp\/a=.pt o 0 0) {p:Pl} (hp:φ o=some p) (hb:p.base=0) (he:p.esz=2) :
  Calls Tryz.prog 193 #[.pointer (some ⟨p.b,0,none⟩)] w fun e w'=>e=.returned (.tuple #[])/\Below E.B0 w w'/\HR E φ (List.set H o (some ⟨[[.pt o 0 0,x]],2,167,false⟩)) w':=by
 have hvp:VR φ (.pt o 0 0) (.pointer (some ⟨p.b,0,none⟩)):=⟨p,hp,by simp [hb]⟩
 obtain⟨p',cells,va,vx,hp',_,_,_,hblk,hsz,c0,c1,ra,rx,hB⟩:=bld_parts hH ho hvp
 obtain rfl:=Option.some.inj (hp.symm.trans hp')
 have k0:w.cell? ⟨p.b,0,none⟩=some va:=by simp [World.cell?,hblk,c0]
 have ho':=Hp.at_some ho
 rcases ha with rfl | rfl
 ·have hva:va=.pointer none:=ra
  subst hva
  refine (copy_fresh p.b cells.size w k0 (by simp [World.shape?,hblk]) hsz (by simp [World.frozen?,hblk])).mono ?_
  rintro e w' ⟨rfl,rfl⟩
  have hs:=hH.set1 ho' rfl hp (i:=0) (row:=[.nilp,x]) rfl (f:=0) (by simp) (a:=.pt o 0 0) (v:=.pointer (some ⟨p.b,0,none⟩)) rfl hvp
  rw [hb] at hs
  simp only [Nat.zero_mul,Nat.add_zero] at hs
  exact⟨rfl,hs.2.2.1,hs.2.2.2⟩
 ·obtain⟨p2,hp2,hva⟩:=ra
  obtain rfl:=Option.some.inj (hp.symm.trans hp2)
  rw [hva] at k0
  simp only [hb,Nat.zero_mul,Nat.add_zero] at k0
  refine (copy_used p.b w k0).mono ?_
  rintro e w' ⟨rfl,rfl⟩
  have e1:List.set H o (some ⟨[[.pt o 0 0,x]],2,167,false⟩)=H:=by
   apply List.ext_getElem?
   intro j
   rw [List.getElem?_set]
   split
   ·rename_i h
    subst h
    split
    ·exact ho'.symm
    ·rename_i h2
     rw [List.getElem?_eq_none (by omega)]
   ·rfl
  rw [e1]
  exact⟨rfl,Below.refl _ _,hH⟩
end Go.Proofs.YtepeokaplbbpoaaGreat.B

namespace Go.Proofs.YtepeokaplbbpoaaGreat.B
open Go.RowKit Go.Proofs
set_option linter.unusedVariables false
set_option linter.unusedSimpArgs false
variable {E:Env}
def Bld (H:Hp) (o:Nat) (x:AV) (bs:List Int):Prop:=∃ a,H.at o=some ⟨[[a,x]],2,167,false⟩/\(a=.nilp\/a=.pt o 0 0)/\BufA 5 H x bs/\(bs=[]->x=.nils)
theorem bufA_ne {e:Nat} {H:Hp} {x:AV} {bs:List Int} (h:BufA e H x bs) {o:Nat} {ob:Ob} (ho:H.at o=some ob) (he:ob.esz≠1):¬x.of o:=by
 rcases h with ⟨rfl,_⟩ | ⟨o',rfl,h2⟩
 ·exact fun h=>h
 ·intro h
  have:o'=o:=h
  subst this
  rw [ho] at h2
  cases h2
  exact he rfl
theorem BufA.fr {e:Nat} {S:Nat->Prop} {H H':Hp} {x:AV} {bs:List Int} (h:BufA e H x bs) (hf:Fr S H H') (hs:∀ y,x.of y->¬S y):BufA e H' x bs:=by
 rcases h with h | ⟨o,rfl,h2⟩
 ·exact .inl h
 ·exact .inr ⟨o,rfl,hf.2 _ _ (hs o rfl) h2⟩
end Go.Proofs.YtepeokaplbbpoaaGreat.B

/- A part of the proof: The program's sieve: whether it lets a key. strings.Builder: its copies are looked for. strings.Builder: a string is written. strings.Builder: its string. strings.Builder: a byte is written. The program's functions that take a predicate; seen. The program's checks of keys, times and runs; filters alike; copies. The memory in which the program makes a filter. How the program goes through forks, in plain Lean. The program's filter of keys. The program's RunTrim. The reference's stores: what is put. The reference's stores: what is added. The reference's stores: put, taken, let down. The reference's stores: levels are joined. The reference's stores: times are kept, and let go. The reference's stores: times are let go. The program's StoreOk. The program's copy of a store. The program puts a run into a level. Deeds of the program are those of the reference, in plain Lean. The program pushes runs down. The program writes an entry; times are held, and let go. The program holds times, and lets them go. What is found of a key at a time, in plain Lean: trimming leaves it. A run that is let into a level leaves what is found, in plain Lean. There is no condition. -/
import Derived.Shelf.Strings.Builder1
import Derived.Test.YtgoeenodllmdpaaGreatM0
import Derived.Test.YtgoeenodllmdpaaGreatM1
import Derived.Test.YtgoeenodllmdpaaGreatM2
import Derived.Test.YtgoeenodllmdpaaGreatM3
namespace Go.Proofs.YtgoeenodllmdpaaGreat.B
open Go.RowKit Go.Proofs
set_option linter.unusedVariables false
set_option linter.unusedSimpArgs false
variable {E:Env}
theorem HasPrefix_in (k p:ByteArray) (H:Hp) (hk:k.size<4611686018427387904) (hp:p.size<4611686018427387904):AC Tryz.prog E 262 [.str k,.str p] H (fun v H'=>v=.bool (begins k p)/\H'=H):=by
 refine AC_byp (CLe.refl (AC Tryz.prog E)) h_internal_stringslite_HasPrefix (by simp) ?_
 simp [c_internal_stringslite_HasPrefix]
 by_cases h:p.size<=k.size
 ·have hI:(p.size:Int)<=k.size:=by omega
  simp [h,hI,begins]
 ·have hI:¬(p.size:Int)<=k.size:=by omega
  simp [h,hI,begins]
theorem HasPrefix_ok (k p:ByteArray) (H:Hp) (hk:k.size<4611686018427387904) (hp:p.size<4611686018427387904):AC Tryz.prog E 232 [.str k,.str p] H (fun v H'=>v=.bool (begins k p)/\H'=H):=by
 refine AC_byp (CLe.refl (AC Tryz.prog E)) h_strings_HasPrefix (by simp) ?_
 simp [c_strings_HasPrefix]
 refine callG_use (HasPrefix_in k p H hk hp) ?_
 simp
theorem KeyBegins_ok (k p:ByteArray) (H:Hp) (hk:k.size<4611686018427387904) (hp:p.size<4611686018427387904):AC Tryz.prog E 185 [.str k,.str p] H (fun v H'=>v=.bool (begins k p)/\H'=H):=by
 refine AC_byp (CLe.refl (AC Tryz.prog E)) h_impl_KeyBegins (by simp) ?_
 simp [c_impl_KeyBegins]
 refine callG_use (HasPrefix_ok k p H hk hp) ?_
 simp
structure Svt (ks:List ByteArray) (keep:Int) (F:List Fk) (L:List Br) (s:Sv):Prop where
 tr:Tr ks F L
 en:Enc L keep s
 len:L.length<1000000
 kp:0<=keep/\keep<=5
theorem Svt.bm {ks:List ByteArray} {keep:Int} {F:List Fk} {L:List Br} {s:Sv} (h:Svt ks keep F L s):BitsIs s.m (L.map Br.many):=by
 unfold BitsIs
 rw [h.en.m,List.map_map]
 rfl
theorem Svt.bf {ks:List ByteArray} {keep:Int} {F:List Fk} {L:List Br} {s:Sv} (h:Svt ks keep F L s):BitsIs s.f (L.map (·.fst)):=by
 unfold BitsIs
 rw [h.en.f,List.map_map]
 rfl
theorem Svt.ls {ks:List ByteArray} {keep:Int} {F:List Fk} {L:List Br} {s:Sv} (h:Svt ks keep F L s):s.l.size=L.length:=by
 have:=congrArg List.length h.en.l
 rw [List.length_map] at this
 rw [<- this]
 exact Array.length_toList.symm
theorem Svt.lt {ks:List ByteArray} {keep:Int} {F:List Fk} {L:List Br} {s:Sv} (h:Svt ks keep F L s) {i:Nat} (hi:i<L.length):bt s.l i=(L[i].ltr).toNat:=by
 have hl:s.l.data.toList.length=L.length:=by rw [h.en.l,List.length_map]
 rw [bt_at (by omega)]
 have h2:s.l.data.toList[i]?=(L.map Br.ltr)[i]?:=by rw [h.en.l]
 rw [List.getElem?_eq_getElem (by omega),List.getElem?_eq_getElem (by simpa using hi),List.getElem_map] at h2
 rw [Option.some.inj h2]
theorem Svt.rs {ks:List ByteArray} {keep:Int} {F:List Fk} {L:List Br} {s:Sv} (h:Svt ks keep F L s) {i:Nat} (hi:i<L.length) (hm:L[i].many=false):s.r[((L.map Br.many).take i).countP (fun x=>!x)]?=some (L[i].rst keep):=by
 rw [<- List.map_take,List.countP_map,h.en.r,List.getElem?_map]
 have:=filter_at (fun b:Br=>!b.many) L i hi (by simp [hm])
 have e:((fun x=>!x) ∘ Br.many)=(fun b:Br=>!b.many):=rfl
 rw [e,this]
 rfl
theorem Svt.kid {ks:List ByteArray} {keep:Int} {F:List Fk} {L:List Br} {s:Sv} (h:Svt ks keep F L s) {i:Nat} (hi:i<L.length) (hm:L[i].many=true):F[((L.map Br.many).take (i+1)).countP id]?=some L[i].kid:=by
 rw [<- List.map_take,List.countP_map]
 exact h.tr.kid hi hm
theorem pick_none {d:Nat} {c:UInt8}:pickG d c []=none:=rfl
theorem pick_drop {d:Nat} {c:UInt8} {gs:List (List ByteArray)} {i:Nat} (hi:i<gs.length):pickG d c (gs.drop i)=if letter ((gs[i]).headD ⟨#[]⟩) d=c then some gs[i] else pickG d c (gs.drop (i+1)):=by
 rw [List.drop_eq_getElem_cons hi,pickG]
theorem letter_more {ks g:List ByteArray} {d:Nat} {k:ByteArray} (hok:keyOk k=true) (hs:SP d ks) (hg:g∈brs d ks) (hm:many g=true) (hl:letter (g.headD ⟨#[]⟩) d=letter k d):d+1<=k.size:=by
 have h2:=SP.of_brs ks.length d (Nat.le_refl _) hs g hg
 have hlen:2<=g.length:=by
  have:1<g.length:=by simpa [many] using hm
  omega
 match g,hlen,h2,hl with
 | a :: b :: g,hlen,h2,hl =>
  have hsz:=h2.size hlen a (by simp)
  have hak:=h2.ok a (by simp)
  rcases Nat.lt_or_ge d k.size with h | h
  ·omega
  ·have e1:letter k d=45:=(letter_ok hok d).2 h
   have e2:letter a d=letter k d:=hl
   rw [e1] at e2
   have:=(letter_ok hak d).1 e2
   omega
def HsI (keep:Int) (k:ByteArray) (F:List Fk) (R:Bool) (s:Sv) (r:AV) (H:Hp) (m:Nat) (t:Tm) (H':Hp):Prop:=∃ (j d:Nat) (ks:List ByteArray),F[j]?=some (ks,d)/\m+d=7/\d<=k.size/\hasF keep k m ks d=R/\t 1=.str k/\t 2=.pt H.length 0 0/\t 5=.int .i64 j/\t 6=.int .i64 d/\HLe H H'/\H'.at H.length=some ⟨[[.str s.l,.str s.m,.str s.f,r,.int .i64 s.k]],5,66,false⟩
def HsJ (k:ByteArray) (s:Sv) (r:AV) (H:Hp) (a nb q j d:Nat) (gs:List (List ByteArray)) (m:Nat) (t:Tm) (H':Hp):Prop:=∃ i p:Nat,i+m=nb/\p=a+i/\t 1=.str k/\t 2=.pt H.length 0 0/\t 5=.int .i64 j/\t 6=.int .i64 d/\t 8=.int .i64 q/\t 9=.int .i64 p/\pickG d (letter k d) (gs.drop i)=pickG d (letter k d) gs/\HLe H H'/\H'.at H.length=some ⟨[[.str s.l,.str s.m,.str s.f,r,.int .i64 s.k]],5,66,false⟩
set_option maxHeartbeats 1600000 in
theorem has_ok (s:Sv) (r:AV) (k:ByteArray) (ks:List ByteArray) (keep:Int) (F:List Fk) (L:List Br) (H:Hp) (h:Svt ks keep F L s) (hr:Strs H r s.r) (hk:keyOk k=true) :
  AC Tryz.prog E 110 [svAV s r,.str k] H (fun v H'=>v=.bool (hasR ks keep k)/\H'=H):=by
 refine AC_byp (tC_le tabJ_ok) h_impl_Sieve_has (by simp) ?_
 obtain⟨H1,hH1,hle1,b0⟩:=svBox s r H
 have hks:=keyOk_size hk
 have hll:=h.len
 have hr1:=Rows.one hr
 simp [c_impl_Sieve_has,svAV,hr1,<- hH1]
 by_cases hke:ks=[]
 ·
  have hL:=h.tr.z hke
  have e1:spanI (L.map (·.fst)) 0=.tu [.int .i64 0,.int .i64 0]:=by
   rw [hL]
   rfl
  have e2:hasR ks keep k=false:=by
   unfold hasR
   rw [hke,hasF,brs]
   rfl
  rw [e2]
  refine W_for (fun m t H'=>t 1=.str k/\t 2=.pt H.length 0 0/\t 5=.int .i64 0/\t 6=.int .i64 0/\HLe H H'/\H'.at H.length=some ⟨[[.str s.l,.str s.m,.str s.f,r,.int .i64 s.k]],5,66,false⟩) 0 ?_ (tC_mono AC_mono) ?_
  ·exact⟨by simp,by simp,by simp,by simp,hle1,b0⟩
  rintro m t H' ⟨t1,t2,t5,t6,hle,b0'⟩
  simp [t1,t2,t5,t6,b0']
  have cB:=branches_ok (E:=E) s r (L.map (·.fst)) 0 H' hr1 h.bf (by rw [List.length_map]; omega) (by omega)
  simp only [svAV] at cB
  refine cg_use cB ?_
  rw [e1]
  simp
  refine W_for (fun m t2 H2=>t2 8=.int .i64 0/\t2 9=.int .i64 0/\H2=H') 0 ?_ (tC_mono AC_mono) ?_
  ·exact⟨by simp,by simp,rfl⟩
  rintro m t2 H2 ⟨u8,u9,rfl⟩
  simp [u8,u9,hle]
 refine W_for (HsI keep k F (hasR ks keep k) s r H) 7 ?_ (tC_mono AC_mono) ?_
 ·refine⟨0,0,ks,by rw [h.tr.f]; rfl,rfl,Nat.zero_le _,rfl,by simp,by simp,by simp,by simp,hle1,b0⟩
 rintro m t H' ⟨j,d,ks',hj,hmd,hdk,hR,t1,t2,t5,t6,hle,b0'⟩
 obtain⟨hjl,hje⟩:=List.getElem?_eq_some_iff.1 hj
 have hgd:=h.tr.good F[j] (List.getElem_mem hjl)
 have hsp:=h.tr.sp F[j] (List.getElem_mem hjl)
 rw [hje] at hgd hsp
 have hd5:d<=5:=hgd.deep
 obtain⟨n,rfl⟩:∃ n,m=n+1:=⟨m-1,by omega⟩
 have hjb:j<1099511627776:=by
  have e:=congrArg List.length h.tr.f
  rw [List.length_cons,List.length_map] at e
  have:=List.length_filter_le Br.many L
  omega
 simp [t1,t2,t5,t6,b0']
 have cB:=branches_ok (E:=E) s r (L.map (·.fst)) j H' hr1 h.bf (by rw [List.length_map]; omega) hjb
 simp only [svAV] at cB
 refine cg_use cB ?_
 obtain⟨a,p1,p2,p3,p4,p5⟩:=h.tr.span hke hjl
 rw [hje] at p2 p3 p4
 have p6:∀ (i:Nat) (hi:i<(brs d ks').length) (hl:a+i<L.length),(L[a+i]).g=(brs d ks')[i]/\(L[a+i]).d=d:=by
  intro i hi hl
  have:=p5 i (by rw [hje]; exact hi) hl
  simp only [hje] at this
  exact this
 clear p5
 simp only at p2 p3 p4
 rw [hasF] at hR
 obtain⟨gs,hgs⟩:∃ gs,gs=brs d ks':=⟨_,rfl⟩
 have hgm:∀ g∈gs,g∈brs d ks':=by rw [hgs]; exact fun g h=>h
 simp only [<- hgs] at p2 p3 p4 p6 hR
 obtain⟨q,hqa⟩:∃ q:Nat,q=a+gs.length:=⟨_,rfl⟩
 have hspan:spanI (L.map (·.fst)) j=.tu [.int .i64 a,.int .i64 q]:=by
  unfold spanI nullsN
  rw [p1]
  simp only
  rw [p4,show a+1+(gs.length-1)=q by omega]
 rw [hspan]
 simp [t1,t2,t5,t6]
 refine W_for (HsJ k s r H a gs.length q j d gs) gs.length ?_ (tC_mono AC_mono) ?_
 ·exact⟨0,a,by omega,rfl,by simp [t1],by simp [t2],by simp [t5],by simp [t6],by simp,by simp,rfl,hle,b0'⟩
 clear t1 t2 t5 t6 hle b0'
 rintro m t H' ⟨i,p,him,hp,t1,t2,t5,t6,t8,t9,hP,hle,b0'⟩
 simp [t1,t2,t5,t6,t8,t9,b0']
 by_cases hi:i<gs.length
 ·have hpq:p<q:=by omega
  have hpL:p<L.length:=by omega
  have hpI:(p:Int)<L.length:=by omega
  have hls:=h.ls
  obtain⟨z1,z2⟩:=p6 i hi (by omega)
  simp only [<- hp] at z1 z2
  have hlt:=h.lt hpL
  obtain⟨x,hx⟩:∃ x,x=gs[i].headD ⟨#[]⟩:=⟨_,rfl⟩
  have hltr:L[p].ltr=letter x d:=by
   unfold Br.ltr
   rw [z1,z2,hx]
  rw [hltr] at hlt
  have hw:=wrapN (i:=p) (by omega)
  have hbm:=h.bm.bt (i:=p) (by rw [List.length_map]; omega)
  rw [List.getElem_map] at hbm
  have hms:s.m.size=L.length:=by rw [h.bm.size,List.length_map]
  have hmany:L[p].many=many gs[i]:=by unfold Br.many; rw [z1]
  simp [hpq,t1,t2,t5,t6,t8,t9,b0',hlt,hls,hpL]
  refine cg_use (label_ok k d H' hdk (by omega)) ?_
  rw [pick_drop hi,<- hx] at hP
  by_cases hc:letter x d=letter k d
  ·rw [if_pos hc] at hP
   rw [<- hP] at hR
   simp only [<- hx] at hR
   have hgi:=hgm _ (List.getElem_mem hi)
   have hpn:¬p=q:=by omega
   have hpn2:¬(p:Int)=q:=by omega
   cases hm:many gs[i] with
   | true =>
    rw [hm] at hmany
    rw [hmany,if_pos rfl] at hbm
    rw [hm,if_pos rfl] at hR
    simp [t1,t2,t5,t6,t8,t9,b0',hlt,hls,hpL,hc,hpn,hpn2,hbm,hms]
    have cN:=node_ok (E:=E) s r (L.map Br.many) p H' hr1 h.bm (by rw [List.length_map]; omega) (by rw [List.length_map]; omega)
    simp only [svAV] at cN
    refine cg_use cN ?_
    have hkd:=h.kid hpL hmany
    obtain⟨j2,hj2⟩:∃ j2,j2=((L.map Br.many).take (p+1)).countP id:=⟨_,rfl⟩
    rw [<- hj2] at hkd ⊢
    have hkk:L[p].kid=(gs[i],d+1):=by unfold Br.kid; rw [z1,z2]
    rw [hkk] at hkd
    have hw2:=wrapN (i:=d) (by omega)
    simp [t1,t2,t5,t6,t8,t9,b0',hw2]
    refine⟨n,by omega,j2,d+1,gs[i],hkd,by omega,letter_more hk hsp hgi hm (by rw [<- hx]; exact hc),hR,by simp [t1],by simp [t2],by simp,by simp,hle,b0'⟩
   | false =>
    rw [hm] at hmany
    rw [hmany] at hbm
    simp only [Bool.false_eq_true,if_false] at hbm
    rw [hm] at hR
    simp only [Bool.false_eq_true,if_false] at hR
    have hw2:=wrapN (i:=d) (by omega)
    have hrs:=h.rs hpL hmany
    have hrst:L[p].rst keep=restK x (d+1) keep:=by unfold Br.rst; rw [z1,z2,hx]
    rw [hrst] at hrs
    obtain⟨e,he⟩:∃ e:Nat,e=min (d+1) k.size:=⟨_,rfl⟩
    have hmin:(if (k.size:Int)<(d:Int)+1 then (k.size:Int) else (d:Int)+1)=e:=by
     split<;>omega
    have het:k.extract e k.size=tailK k d:=by unfold tailK; rw [he]
    have hts:(tailK k d).size<=k.size:=by rw [<- het,ByteArray.size_extract]; omega
    have hxs:(restK x (d+1) keep).size<1000:=by
     unfold restK
     rw [ByteArray.size_extract]
     have:=h.kp
     omega
    simp [t1,t2,t5,t6,t8,t9,b0',hlt,hls,hpL,hc,hpn,hpn2,hbm,hms,hw2,hmin,het]
    refine⟨by omega,?_⟩
    have cC:=complete_ok (E:=E) s r (L.map Br.many) p H' (hr.le hle) h.bm (by rw [List.length_map]; omega) (by rw [List.length_map]; omega) (by rw [List.length_map]; exact hls) _ hrs _ hlt
    have cR:=rest_ok (E:=E) s r (L.map Br.many) p H' (hr.le hle) h.bm (by rw [List.length_map]; omega) (by rw [List.length_map]; omega) _ hrs
    simp only [svAV] at cC cR
    refine cg_use cC ?_
    have hwk:(decide (letter x d=45)||decide (((restK x (d+1) keep).size:Int)<s.k))=wholeK x d keep:=by rw [h.en.k]; rfl
    rw [hwk]
    unfold leafHas at hR
    cases hwh:wholeK x d keep with
    | true =>
     rw [hwh,if_pos rfl] at hR
     simp [t1,t2,t5,t6,t8,t9,b0']
     refine cg_use cR ?_
     simp [hle,hR]
    | false =>
     rw [hwh] at hR
     simp only [Bool.false_eq_true,if_false] at hR
     simp [t1,t2,t5,t6,t8,t9,b0']
     refine cg_use cR ?_
     simp
     refine cg_use (KeyBegins_ok _ _ H' (by omega) (by omega)) ?_
     simp [hle,hR]
  ·rw [if_neg hc] at hP
   have hcn:¬((letter x d).toNat:Int)=(letter k d).toNat:=fun e=>hc (UInt8.toNat_inj.1 (by omega))
   have hcn2:¬(letter x d).toNat=(letter k d).toNat:=fun e=>hc (UInt8.toNat_inj.1 e)
   simp [t1,t2,t5,t6,t8,t9,b0',hlt,hls,hpL,hcn,hcn2,hw]
   exact⟨m-1,by omega,i+1,p+1,by omega,by omega,by simp [t1],by simp [t2],by simp [t5],by simp [t6],by simp [t8],by simp,hP,hle,b0'⟩
 ·have hpq:¬p<q:=by omega
  have hpq2:p=q:=by omega
  rw [List.drop_of_length_le (by omega),pick_none] at hP
  rw [<- hP] at hR
  simp only at hR
  simp [hpq,hpq2,t1,t2,t5,t6,t8,t9,b0',hR.symm,hle]
end Go.Proofs.YtgoeenodllmdpaaGreat.B

namespace Go.Proofs.YtgoeenodllmdpaaGreat.B
open Go.RowKit Go.Proofs
set_option linter.unusedVariables false
set_option linter.unusedSimpArgs false
variable {E:Env}
set_option maxRecDepth 100000 in
theorem copy_used (b:Nat) (w:World) (h0:w.cell? ⟨b,0,none⟩=some (.pointer (some ⟨b,0,none⟩))) :
  Calls Tryz.prog 212 #[.pointer (some ⟨b,0,none⟩)] w fun e w'=>e=.returned (.tuple #[])/\w'=w:=by
 obtain⟨j,hj,_⟩:=Option.map_eq_some_iff.1 (show (Tryz.prog.info? 167).map (·.size)=some 2 by kernel_rfl)
 go_enter Tryz.func212,Tryz.ntmps212
 go_wp2
 rw [Lib.run_neq_ptr_same w _ Tryz.underlying165 hj]
 go_wp2
 go_end0
 exact⟨rfl,rfl⟩
theorem lies_builder {n:Nat} (hn:1<=n):liesAt Tryz.prog Tryz.prog.depth 167 n 0 167 1=true:=by
 have hs:Tryz.prog.cellsOf 167=2:=by kernel_rfl
 have hf:sameLayout Tryz.prog Tryz.prog.depth 167 167=true:=by kernel_rfl
 have hd:∃ d,Tryz.prog.depth=d+1:=⟨Tryz.prog.depth-1,by
  have:0<Tryz.prog.depth:=Nat.lt_of_lt_of_le (show 0<1 by omega) (Nat.le_of_ble_eq_true (by kernel_rfl))
  omega⟩
 obtain⟨d,hd⟩:=hd
 rw [hd] at hf
 simp only [hd,liesAt,rowAt,hs,hf]
 simp [hn]
set_option maxRecDepth 100000 in
theorem copy_fresh (b c:Nat) (w:World) (h0:w.cell? ⟨b,0,none⟩=some (.pointer none)) (hsh:w.shape? b=some (167,c)) (hc:2<=c) (hfz:w.frozen? ⟨b,0,none⟩=false) :
  Calls Tryz.prog 212 #[.pointer (some ⟨b,0,none⟩)] w fun e w'=>e=.returned (.tuple #[])/\w'=w.setCell ⟨b,0,none⟩ (.pointer (some ⟨b,0,none⟩)):=by
 obtain⟨j,hj,hjs⟩:=Option.map_eq_some_iff.1 (show (Tryz.prog.info? 167).map (·.size)=some 2 by kernel_rfl)
 have hs:Tryz.prog.cellsOf 167=2:=by kernel_rfl
 have hlies:liesAt Tryz.prog Tryz.prog.depth 167 (c / Tryz.prog.cellsOf 167) 0 167 1=true:=by
  rw [hs]
  exact lies_builder (by omega)
 go_enter Tryz.func212,Tryz.ntmps212
 go_wp2
 rw [Lib.run_to_unsafe w ⟨b,0,none⟩ Tryz.underlying165 Tryz.underlying243 hj (by rw [hjs]; decide) hsh (show 0<c by omega)]
 simp only [Result.andThen]
 rw [Oper.upon_value]
 go_wp2
 rw [run_callFunc_extern Tryz.func251 (by kernel_rfl) (by kernel_rfl) (by kernel_rfl) (e:=Extern.AbiNoEscape.same) (by kernel_rfl)]
 rw [Lib.run_noEscape]
 simp only [Result.andThen]
 rw [Oper.upon_value]
 go_wp2
 rw [Lib.run_from_unsafe w ⟨b,0,none⟩ Tryz.underlying243 Tryz.underlying165 hj hsh hlies]
 simp only [Result.andThen]
 rw [Oper.upon_value]
 go_wp2
 go_end0
 exact⟨rfl,rfl⟩
theorem bld_parts {φ:Phi} {H:Hp} {w:World} (hH:HR E φ H w) {o:Nat} {a x:AV} (ho:H.at o=some ⟨[[a,x]],2,167,false⟩) {v:Value} (hv:VR φ (.pt o 0 0) v) :
  ∃ p cells va vx,φ o=some p/\v=.pointer (some ⟨p.b,0,none⟩)/\p.base=0/\p.esz=2/\w.heap[p.b]?=some (.cells cells 167 (0,0))/\2<=cells.size/\cells[0]?=some va/\cells[1]?=some vx/\VR φ a va/\VR φ x vx/\E.B0<=p.b:=by
 obtain⟨p,hp,rfl⟩:=hv
 have ho':=Hp.at_some ho
 obtain⟨q1,q2,cells,ee,fr,hblk,hrw,hrows⟩:=hH.obj _ _ ho' p hp
 obtain⟨rfl,he,hpsz,hbase,hB⟩:=hrw rfl
 have he:ee=167:=he
 rw [he] at hblk
 have hpe:p.esz=2:=q2
 obtain⟨hl,hc⟩:=hrows 0 [a,x] rfl
 obtain⟨h1,va,hva,hRa⟩:=hc 0 a rfl
 obtain⟨h2,vx,hvx,hRx⟩:=hc 1 x rfl
 rw [hbase] at hva hvx
 simp only [Nat.zero_mul,Nat.add_zero,Nat.zero_add] at hva hvx
 have hsz:1<cells.size:=(Array.getElem?_eq_some_iff.1 hvx).1
 exact⟨p,cells,va,vx,hp,by simp [hbase],hbase,hpe,hblk,hsz,hva,hvx,hRa,hRx,hB⟩
theorem copy_HR {φ:Phi} {H:Hp} {w:World} (hH:HR E φ H w) {o:Nat} {a x:AV} (ho:H.at o=some ⟨[[a,x]],2,167,false⟩) (ha:a=.nilp\/a=.pt o 0 0) {p:Pl} (hp:φ o=some p) (hb:p.base=0) (he:p.esz=2) :
  Calls Tryz.prog 212 #[.pointer (some ⟨p.b,0,none⟩)] w fun e w'=>e=.returned (.tuple #[])/\Below E.B0 w w'/\HR E φ (List.set H o (some ⟨[[.pt o 0 0,x]],2,167,false⟩)) w':=by
 have hvp:VR φ (.pt o 0 0) (.pointer (some ⟨p.b,0,none⟩)):=⟨p,hp,by simp [hb]⟩
 obtain⟨p',cells,va,vx,hp',_,_,_,hblk,hsz,c0,c1,ra,rx,hB⟩:=bld_parts hH ho hvp
 obtain rfl:=Option.some.inj (hp.symm.trans hp')
 have k0:w.cell? ⟨p.b,0,none⟩=some va:=by simp [World.cell?,hblk,c0]
 have ho':=Hp.at_some ho
 rcases ha with rfl | rfl
 ·have hva:va=.pointer none:=ra
  subst hva
  refine (copy_fresh p.b cells.size w k0 (by simp [World.shape?,hblk]) hsz (by simp [World.frozen?,hblk])).mono ?_
  rintro e w' ⟨rfl,rfl⟩
  have hs:=hH.set1 ho' rfl hp (i:=0) (row:=[.nilp,x]) rfl (f:=0) (by simp) (a:=.pt o 0 0) (v:=.pointer (some ⟨p.b,0,none⟩)) rfl hvp
  rw [hb] at hs
  simp only [Nat.zero_mul,Nat.add_zero] at hs
  exact⟨rfl,hs.2.2.1,hs.2.2.2⟩
 ·obtain⟨p2,hp2,hva⟩:=ra
  obtain rfl:=Option.some.inj (hp.symm.trans hp2)
  rw [hva] at k0
  simp only [hb,Nat.zero_mul,Nat.add_zero] at k0
  refine (copy_used p.b w k0).mono ?_
  rintro e w' ⟨rfl,rfl⟩
  have e1:List.set H o (some ⟨[[.pt o 0 0,x]],2,167,false⟩)=H:=by
   apply List.ext_getElem?
   intro j
   rw [List.getElem?_set]
   split
   ·rename_i h
    subst h
    split
    ·exact ho'.symm
    ·rename_i h2
     rw [List.getElem?_eq_none (by omega)]
   ·rfl
  rw [e1]
  exact⟨rfl,Below.refl _ _,hH⟩
end Go.Proofs.YtgoeenodllmdpaaGreat.B

namespace Go.Proofs.YtgoeenodllmdpaaGreat.B
open Go.RowKit Go.Proofs
set_option linter.unusedVariables false
set_option linter.unusedSimpArgs false
variable {E:Env}
def Bld (H:Hp) (o:Nat) (x:AV) (bs:List Int):Prop:=∃ a,H.at o=some ⟨[[a,x]],2,167,false⟩/\(a=.nilp\/a=.pt o 0 0)/\BufA 5 H x bs/\(bs=[]->x=.nils)
theorem bufA_ne {e:Nat} {H:Hp} {x:AV} {bs:List Int} (h:BufA e H x bs) {o:Nat} {ob:Ob} (ho:H.at o=some ob) (he:ob.esz≠1):¬x.of o:=by
 rcases h with ⟨rfl,_⟩ | ⟨o',rfl,h2⟩
 ·exact fun h=>h
 ·intro h
  have:o'=o:=h
  subst this
  rw [ho] at h2
  cases h2
  exact he rfl
theorem BufA.fr {e:Nat} {S:Nat->Prop} {H H':Hp} {x:AV} {bs:List Int} (h:BufA e H x bs) (hf:Fr S H H') (hs:∀ y,x.of y->¬S y):BufA e H' x bs:=by
 rcases h with h | ⟨o,rfl,h2⟩
 ·exact .inl h
 ·exact .inr ⟨o,rfl,hf.2 _ _ (hs o rfl) h2⟩
end Go.Proofs.YtgoeenodllmdpaaGreat.B

namespace Go.Proofs.YtgoeenodllmdpaaGreat.B
open Go.RowKit Go.Proofs
set_option linter.unusedVariables false
set_option linter.unusedSimpArgs false
variable {E:Env}
theorem freeze_other (w:World) (g n k:Nat) (h:k≠g):(w.freeze ⟨g,0,none⟩ n).heap[k]?=w.heap[k]?:=by
 unfold World.freeze
 split
 ·rfl
 ·simp only [Array.getElem?_modify]
  rw [if_neg (fun e=>h e.symm)]
set_option maxHeartbeats 2000000 in
set_option maxRecDepth 100000 in
theorem BString_ok (o:Nat) (x:AV) (s:ByteArray) (H:Hp) (hb:Bld H o x (bytesOf s)) (hl:s.size<=140737488355328) :
  AC Tryz.prog E 164 [.pt o 0 0] H (fun u H'=>u=.str s/\Fr x.of H H'):=by
 obtain⟨a,ho,ha,hx,hxn⟩:=hb
 have hsl:=bytesOf_len s
 have mixed:Tryz.prog.follows .mixedOrders=true:=fol
 refine⟨⟨_,_,Tryz.func164,by kernel_rfl,rfl⟩,fun φ w vals hv hH=>?_⟩
 obtain⟨v,vs,rfl,hv1,h3⟩:=hv
 have h3:vs=[]:=h3
 subst h3
 obtain⟨p,cells,va,vx,hp,rfl,hbase,hpe,hblk,hsz,c0,c1,ra,rx,hB⟩:=bld_parts hH ho hv1
 show Calls Tryz.prog 164 #[.pointer (some ⟨p.b,0,none⟩)] w _
 rcases hx with ⟨rfl,hs0⟩ | ⟨o2,rfl,ho2⟩
 ·have hvx:vx=.slice none 0 0:=rx
  subst hvx
  have hse:s=⟨#[]⟩:=by
   apply ByteArray.ext
   apply Array.eq_empty_of_size_eq_zero
   rw [hs0] at hsl
   exact hsl.symm
  have k1:w.drew.cell? ⟨p.b,1,none⟩=some (.slice none 0 0):=by
   have:w.drew.heap[p.b]?=some (.cells cells 167 (0,0)):=hblk
   simp [World.cell?,this,c1]
  have hSD:(Builtin.unsafeSliceData_ #[22] 214 #[.slice none 0 0]).run Tryz.prog w.drew=.ok (.pointer none) w.drew:=rfl
  have hUS:=Lib.run_unsafeString_none (P:=Tryz.prog) w.drew 214 3 9 none
  go_enter Tryz.func164,Tryz.ntmps164
  go_wp2
  go_region_o
  all_goals (go_wp2; go_ret; exact⟨φ,H,.str s,PLe.refl _,hH.drew,Below.drew (Below.refl _ w),by rw [hse]; rfl,rfl,Fr.refl _ _⟩)
 ·obtain⟨p2,ad,c,hp2,rfl,hmc,hc⟩:=rx
  have ho2':=Hp.at_some ho2
  obtain⟨r1,r2,cells2,ee,fr,hblk2,hrw2,hrows2⟩:=hH.obj _ _ ho2' p2 hp2
  obtain⟨rfl,he,hpsz2,hbase2,hB2⟩:=hrw2 rfl
  have he:ee=5:=he
  rw [he] at hblk2
  have hne:bytesOf s≠[]:=fun h=>by have:=hxn h; cases this
  have hpos:0<(bytesOf s).length:=List.length_pos_iff.2 hne
  rcases hc with hc | ⟨rfl,hc⟩
  ·omega
  rcases hc with hc | hc
  ·have:p2.ro=false:=r1
   rw [this] at hc; cases hc
  have hpe2:p2.esz=1:=r2
  have ead:(⟨p2.b,p2.base+0 * p2.esz,none⟩:Addr)=⟨p2.b,0,none⟩:=by simp [hbase2]
  rw [ead] at c1
  rw [Nat.zero_add,hpe2,Nat.mul_one,hpsz2] at hc
  subst hc
  obtain⟨l,hlist⟩:∃ l:List UInt8,l=s.data.toList:=⟨_,rfl⟩
  have hll:(bytesOf s).length=l.length:=by rw [hlist,bytesOf,List.length_map]
  have hl0:l≠[]:=fun h=>by rw [h] at hll; rw [hll] at hpos; exact absurd hpos (by simp)
  have hls:l.length=s.size:=by omega
  have hcell:∀ (j:Nat) (b:UInt8),l[j]?=some b->w.drew.cell? ((⟨p2.b,0,none⟩:Addr).add j)=some (.int .u8 b.toNat):=by
   intro j b hj
   have hr:((bytesOf s).map byteRow)[j]?=some (byteRow b.toNat):=by
    rw [bytesOf,<- hlist,List.getElem?_map,List.getElem?_map,hj]
    rfl
   obtain⟨_,hcc⟩:=hrows2 j (byteRow b.toNat) hr
   obtain⟨_,u,hu,hRu⟩:=hcc 0 (.int .u8 b.toNat) rfl
   have hRu:u=.int .u8 b.toNat:=hRu
   rw [hRu,hbase2] at hu
   have h1:(⟨[] ,1,0,false⟩:Ob).esz=1:=rfl
   simp only [Nat.zero_add,Nat.add_zero,Nat.mul_one] at hu
   have hbk:w.drew.heap[p2.b]?=some (.cells cells2 5 (0,0)):=hblk2
   rw [Addr_add]
   simp [World.cell?,hbk,hu]
  have k1:w.drew.cell? ⟨p.b,1,none⟩=some (.slice (some ⟨p2.b,0,none⟩) s.size cells2.size):=by
   have:w.drew.heap[p.b]?=some (.cells cells 167 (0,0)):=hblk
   rw [<- hsl]
   simp [World.cell?,this,c1]
  have hSD:(Builtin.unsafeSliceData_ #[22] 214 #[.slice (some ⟨p2.b,0,none⟩) s.size cells2.size]).run Tryz.prog w.drew=.ok (.pointer (some ⟨p2.b,0,none⟩)) w.drew :=
   Lib.run_unsafeSliceData_row _ _ _ _ _ _ (by omega)
  have hUS:=Lib.run_unsafeString_row (P:=Tryz.prog) w.drew 214 3 9 5 Tryz.underlying214 (by kernel_rfl) p2.b cells2.size (by
   have hg':w.drew.heap[p2.b]?=some (.cells cells2 5 (0,0)):=hblk2
   simp [World.shape?,hg']) l hl0 (by omega) (by omega) hcell
  have hst:(⟨l.toArray⟩:ByteArray)=s:=by rw [hlist]
  rw [hst,hls] at hUS
  have hbel:Below E.B0 w (w.drew.freeze ⟨p2.b,0,none⟩ s.size):=Lib.below_freeze (Below.drew (Below.refl _ w)) (p:=⟨p2.b,0,none⟩) hB2 _
  have hHR:HR E φ (List.set H o2 none) (w.drew.freeze ⟨p2.b,0,none⟩ s.size):=by
   refine (hH.kill o2).keep hbel (fun o' ob' p' ho' hp'=>?_)
   have hne':o2≠o':=fun e=>by
    rw [e,List.getElem?_set] at ho'
    split at ho'
    ·split at ho'<;>simp at ho'
    ·exact absurd rfl ‹_›
   rw [List.getElem?_set_ne hne'] at ho'
   have hbn:p'.b≠p2.b:=fun e=>hH.inj o2 o' _ ob' ho2' ho' p2 p' hp2 hp' rfl hne' e.symm
   exact freeze_other _ _ _ _ hbn
  go_enter Tryz.func164,Tryz.ntmps164
  go_wp2
  go_region_o
  all_goals (go_wp2; go_ret; exact⟨φ,List.set H o2 none,.str s,PLe.refl _,hHR,hbel,rfl,rfl,(Fr.refl _ H).set (.inl rfl) _⟩)
end Go.Proofs.YtgoeenodllmdpaaGreat.B

namespace Go.Proofs.YtgoeenodllmdpaaGreat.B
open Go.RowKit Go.Proofs
set_option linter.unusedVariables false
set_option linter.unusedSimpArgs false
variable {E:Env}
set_option maxRecDepth 100000 in
theorem copyCheck_ok (o:Nat) (a x:AV) (H:Hp) (ho:H.at o=some ⟨[[a,x]],2,167,false⟩) (ha:a=.nilp\/a=.pt o 0 0) :
  AC Tryz.prog E 212 [.pt o 0 0] H (fun v H'=>v=.tu []/\H'=List.set H o (some ⟨[[.pt o 0 0,x]],2,167,false⟩)):=by
 refine⟨⟨_,_,Tryz.func212,by kernel_rfl,rfl⟩,fun φ w vals hv hH=>?_⟩
 obtain⟨v,vs,rfl,hv1,h3⟩:=hv
 have h3:vs=[]:=h3
 subst h3
 obtain⟨p,cells,va,vx,hp,rfl,hbase,hpe,hblk,hsz,c0,c1,ra,rx,hB⟩:=bld_parts hH ho hv1
 refine (copy_HR hH ho ha hp hbase hpe).mono ?_
 rintro e w' ⟨rfl,hbel,hHR⟩
 exact⟨φ,_,.tu [],PLe.refl _,hHR,hbel,⟨[],rfl,rfl⟩,rfl,rfl⟩
theorem WriteByte_ok (o:Nat) (x:AV) (bs:List Int) (c:Int) (H:Hp) (hb:Bld H o x bs) (hl:bs.length+1<=140737488355328) :
  AC Tryz.prog E 163 [.pt o 0 0,.int .u8 c] H (fun u H'=>u=.nili/\∃ x',Bld H' o x' (bs++[c])/\Fr (fun y=>y=o\/x.of y) H H'/\∀ y,x'.of y->x.of y\/H.length<=y):=by
 obtain⟨a,ho,ha,hx,hxn⟩:=hb
 refine AC_by fol (tC_le tabJ_ok) h_strings_Builder_WriteByte ?_
 have uo:=Hp.at_lt ho
 simp [c_strings_Builder_WriteByte]
 refine cg_use (copyCheck_ok o a x H ho ha) ?_
 obtain⟨H1,hH1⟩:∃ H1:Hp,H1=List.set H o (some ⟨[[.pt o 0 0,x]],2,167,false⟩):=⟨_,rfl⟩
 rw [<- hH1]
 have ho1:H1.at o=some ⟨[[.pt o 0 0,x]],2,167,false⟩:=by rw [hH1]; exact Hp.at_set _ uo
 have hF1:Fr (fun y=>y=o) H H1:=by rw [hH1]; exact Fr.one _ _ _
 have hxo:¬x.of o:=bufA_ne hx ho (by simp)
 have hx1:BufA 5 H1 x bs:=hx.fr hF1 (fun y hy e=>hxo (e ▸ hy))
 have hl1:H1.length=H.length:=by rw [hH1]; simp
 have hone:one x=true:=by
  rcases hx with ⟨rfl,_⟩ | ⟨o',rfl,_⟩<;>rfl
 simp [ho1,hone]
 have hown:Own 1 5 (H1++[some ⟨[[.int .u8 c]],1,5,false⟩]) x (bs.map byteRow):=by
  rcases hx1 with ⟨rfl,rfl⟩ | ⟨o',rfl,h2⟩
  ·exact Own.nils
  ·exact Own.obj ((HLe.self _ _).2 _ _ h2) (by simp)
 have hrow:Rows 1 (H1++[some ⟨[[.int .u8 c]],1,5,false⟩]) (.sl H1.length 0 1) [byteRow c]:=Own.rows (ety:=5) (Own.obj (by simp [byteRow]) rfl)
 obtain⟨v,H2,g1,g2,g3,g4,g5,-⟩:=appA_x (bytes:=1) hown hrow (by simp; omega)
 rcases g5 (by simp) with ⟨h,_⟩ | ⟨o2,rfl,ho2,b2⟩
 ·cases h
 unfold appG
 rw [g1]
 have hF2:Fr x.of H1 H2:=⟨Nat.le_trans (by simp) g3.1,fun y ob hn hy=>g3.2 y ob hn ((HLe.self _ _).2 y ob hy)⟩
 have c1:=hF2.2 _ _ hxo ho1
 have uo2:=Hp.at_lt c1
 have ho3:o≠o2:=by
  intro h
  subst h
  rw [c1] at b2
  have:=congrArg Ob.esz (Option.some.inj b2)
  simp at this
 simp only [List.length_append,List.length_singleton] at ho2
 simp [optK,c1,uo2,Hp.at_set]
 have hS:=Fr.one H2 o (some ⟨[[.pt o 0 0,.sl o2 0 (bs.length+1)]],2,167,false⟩)
 refine⟨.sl o2 0 (bs.length+1),⟨.pt o 0 0,Hp.at_set _ uo2,.inr rfl,.inr ⟨o2,by simp,?_⟩,fun h=>by simp at h⟩,?_,?_⟩
 ·rw [Hp.at_set_ne ho3,b2]
  simp
 ·exact ((hF1.mono (fun y hy=>.inl (.inl hy))).trans hF2 (fun y hy=>.inl (.inr hy))).trans hS (fun y hy=>.inl (.inl hy))
 ·intro y hy
  have:o2=y:=hy
  exact .inr (by omega)
end Go.Proofs.YtgoeenodllmdpaaGreat.B

namespace Go.Proofs.YtgoeenodllmdpaaGreat.B
open Go.RowKit Go.Proofs
set_option linter.unusedVariables false
set_option linter.unusedSimpArgs false
variable {E:Env}
def Says {α:Type} (P:Program) (E:Env) (g:Nat) (caps:List AV) (arg:α->AV) (p:α->Bool) (xs:List α) (H:Hp):Prop:=∀ x∈xs,∀ H',HLe H H'->AC P E g (arg x :: caps) H' (fun v H2=>v=.bool (p x)/\H2=H')
theorem findIdx_first {α:Type} {p:α->Bool} {xs:List α} {i:Nat} (h:i<xs.length) (h1:p xs[i]=true) (h2:∀ x∈xs.take i,p x=false):xs.any p=true/\xs.findIdx p=i:=by
 refine⟨List.any_eq_true.2 ⟨xs[i],List.getElem_mem h,h1⟩,(List.findIdx_eq h).2 ⟨h1,fun j hj=>h2 _ ?_⟩⟩
 exact List.mem_take_iff_getElem.2 ⟨j,by omega,rfl⟩
theorem take_snoc {α:Type} {p:α->Bool} {xs:List α} {i:Nat} (h:i<xs.length) (h1:p xs[i]=false) (h2:∀ x∈xs.take i,p x=false):∀ x∈xs.take (i+1),p x=false:=by
 intro x hx
 rw [List.take_succ_eq_append_getElem h] at hx
 rcases List.mem_append.1 hx with hx | hx
 ·exact h2 x hx
 ·rw [List.mem_singleton.1 hx]
  exact h1
def idxV {α:Type} (p:α->Bool) (xs:List α):Int:=if xs.any p=true then (xs.findIdx p:Nat) else -1
theorem idxV_pos {α:Type} (p:α->Bool) (xs:List α):0<=idxV p xs↔xs.any p=true:=by
 unfold idxV
 split
 ·rename_i h
  exact⟨fun _=>h,fun _=>by omega⟩
 ·rename_i h
  exact⟨fun h'=>by omega,fun h'=>absurd h' h⟩
theorem IndexInt_ok (a:AV) (ts:List Int) (g:Nat) (caps:List AV) (p:Int->Bool) (H:Hp) (ha:Ints H a ts) (hn:ts.length<1099511627776) (hp:Says Tryz.prog E g caps (.int .i64) p ts H) (hg:∀ x,tabJ g (.int .i64 x :: caps)=none) :
  AC Tryz.prog E 200 [a,.fn g caps] H (fun v H'=>v=.int .i64 (idxV p ts)/\H'=H):=by
 refine AC_byp (tC_le tabJ_ok) h_slices_IndexFunc_Sint_int (by simp) ?_
 have l1:=ha.len
 simp [c_slices_IndexFunc_Sint_int,l1,ha.slc]
 refine W_for (fun m t H'=>∃ i,i+m=ts.length/\t 0=a/\t 1=.fn g caps/\t 7=.int .i64 ts.length/\t 8=.int .i64 (i:Nat)/\H'=H/\∀ x∈ts.take i,p x=false) ts.length ?_ (tC_mono AC_mono) ?_
 ·exact⟨0,by simp⟩
 rintro m t H' ⟨i,him,h0,h1,h7,h8,rfl,hI⟩
 simp [h0,h1,h7,h8]
 refine c_split (fun hq=>?_) (fun hq=>?_)<;>simp at hq
 ·have hw:=wrapN (i:=i) (by omega)
  obtain⟨o,i0,ob,rfl,a1,a2,a3⟩:=ha.get hq
  simp [h0,h1,h7,h8,hq,a1,a2,a3]
  refine cg_use (hp ts[i] (List.getElem_mem hq) H' (HLe.refl _)) ?_ (hg _)
  cases hpx:p ts[i] with
  | true =>
   obtain⟨e1,e2⟩:=findIdx_first hq hpx hI
   simp [idxV,e1,e2]
  | false =>
   simp [h0,h1,h7,h8,hw]
   exact⟨m-1,by omega,i+1,by omega,by omega,take_snoc hq hpx hI⟩
 ·have:i=ts.length:=by omega
  subst this
  rw [List.take_length] at hI
  have:ts.any p=false:=by
   rw [List.any_eq_false]
   intro x hx
   rw [hI x hx]
   simp
  simp [idxV,this]
theorem ContainsInt_ok (a:AV) (ts:List Int) (g:Nat) (caps:List AV) (p:Int->Bool) (H:Hp) (ha:Ints H a ts) (hn:ts.length<1099511627776) (hp:Says Tryz.prog E g caps (.int .i64) p ts H) (hg:∀ x,tabJ g (.int .i64 x :: caps)=none) :
  AC Tryz.prog E 275 [a,.fn g caps] H (fun v H'=>v=.bool (ts.any p)/\H'=H):=by
 refine AC_byp (tC_le tabJ_ok) h_slices_ContainsFunc_Sint_int (by simp) ?_
 simp [c_slices_ContainsFunc_Sint_int]
 refine cg_use (IndexInt_ok a ts g caps p H ha hn hp hg) ?_
 have:=idxV_pos p ts
 simp
 rw [Bool.eq_iff_iff]
 simpa using this
theorem IndexEnt_ok (a:AV) (es:List Ent) (g:Nat) (caps:List AV) (p:Ent->Bool) (H:Hp) (ha:Ents H a es) (hn:es.length<1099511627776) (hp:Says Tryz.prog E g caps (fun e=>.ag (entRow e)) p es H) (hg:∀ x,tabJ g (.ag x :: caps)=none) :
  AC Tryz.prog E 173 [a,.fn g caps] H (fun v H'=>v=.int .i64 (idxV p es)/\H'=H):=by
 refine AC_byp (tC_le tabJ_ok) h_slices_IndexFunc_Simpl_Entry_impl_Entry (by simp) ?_
 have l1:=ha.len
 simp [c_slices_IndexFunc_Simpl_Entry_impl_Entry,l1,ha.slc]
 refine W_for (fun m t H'=>∃ i,i+m=es.length/\t 0=a/\t 1=.fn g caps/\t 7=.int .i64 es.length/\t 8=.int .i64 (i:Nat)/\H'=H/\∀ x∈es.take i,p x=false) es.length ?_ (tC_mono AC_mono) ?_
 ·exact⟨0,by simp⟩
 rintro m t H' ⟨i,him,h0,h1,h7,h8,rfl,hI⟩
 simp [h0,h1,h7,h8]
 refine c_split (fun hq=>?_) (fun hq=>?_)<;>simp at hq
 ·have hw:=wrapN (i:=i) (by omega)
  obtain⟨o,i0,ob,rfl,a1,a2,a3⟩:=ha.get hq
  simp [h0,h1,h7,h8,hq,a1,a2,a3]
  refine cg_use (hp es[i] (List.getElem_mem hq) H' (HLe.refl _)) ?_ (hg _)
  cases hpx:p es[i] with
  | true =>
   obtain⟨e1,e2⟩:=findIdx_first hq hpx hI
   simp [idxV,e1,e2]
  | false =>
   simp [h0,h1,h7,h8,hw]
   exact⟨m-1,by omega,i+1,by omega,by omega,take_snoc hq hpx hI⟩
 ·have:i=es.length:=by omega
  subst this
  rw [List.take_length] at hI
  have:es.any p=false:=by
   rw [List.any_eq_false]
   intro x hx
   rw [hI x hx]
   simp
  simp [idxV,this]
theorem ContainsEnt_ok (a:AV) (es:List Ent) (g:Nat) (caps:List AV) (p:Ent->Bool) (H:Hp) (ha:Ents H a es) (hn:es.length<1099511627776) (hp:Says Tryz.prog E g caps (fun e=>.ag (entRow e)) p es H) (hg:∀ x,tabJ g (.ag x :: caps)=none) :
  AC Tryz.prog E 96 [a,.fn g caps] H (fun v H'=>v=.bool (es.any p)/\H'=H):=by
 refine AC_byp (tC_le tabJ_ok) h_slices_ContainsFunc_Simpl_Entry_impl_Entry (by simp) ?_
 simp [c_slices_ContainsFunc_Simpl_Entry_impl_Entry]
 refine cg_use (IndexEnt_ok a es g caps p H ha hn hp hg) ?_
 have:=idxV_pos p es
 simp
 rw [Bool.eq_iff_iff]
 simpa using this
def betw (e q:Ent) (t:Int):Bool:=decide (e.time<=t)&&decide (t<q.time)
theorem seen1_ok (e q:Ent) (x:Int) (o1 o2:Nat) (H:Hp) (h1:H.at o1=some ⟨[entRow e],4,99,false⟩) (h2:H.at o2=some ⟨[entRow q],4,99,false⟩) :
  AC Tryz.prog E 276 [.int .i64 x,.pt o1 0 0,.pt o2 0 0] H (fun v H'=>v=.bool (betw e q x)/\H'=H):=by
 refine AC_byp (tC_le tabJ_ok) h_impl_seen_1 (by simp) ?_
 by_cases hx:e.time<=x<;>simp [c_impl_seen_1,h1,h2,entRow,betw,hx]
theorem seen_ok (a:AV) (ts:List Int) (e q:Ent) (H:Hp) (ha:Ints H a ts) (hn:ts.length<1099511627776) :
  AC Tryz.prog E 268 [a,.ag (entRow e),.ag (entRow q)] H (fun v H'=>v=.bool (ts.any (betw e q))/\H'=H):=by
 refine AC_byp (tC_le tabJ_ok) h_impl_seen (by simp) ?_
 obtain⟨H1,hH1⟩:∃ H1:Hp,H1=H++[some ⟨[entRow e],4,99,false⟩,some ⟨[entRow q],4,99,false⟩]:=⟨_,rfl⟩
 have hle1:HLe H H1:=by rw [hH1]; exact HLe.self _ _
 have b0:H1.at H.length=some ⟨[entRow e],4,99,false⟩:=by rw [hH1]; simp
 have b1:H1.at (H.length+1)=some ⟨[entRow q],4,99,false⟩:=by rw [hH1]; simp
 have hH1':=hH1
 simp only [entRow] at hH1'
 simp [c_impl_seen,entRow,<- hH1']
 refine cg_use (ContainsInt_ok a ts _ _ (betw e q) H1 (ha.le hle1) hn ?_ (fun _=>rfl)) ?_
 ·intro x _ H' hle
  exact seen1_ok e q x _ _ H' (hle.2 _ _ b0) (hle.2 _ _ b1)
 ·simp
  exact hle1
end Go.Proofs.YtgoeenodllmdpaaGreat.B

namespace Go.Proofs.YtgoeenodllmdpaaGreat.B
open Go.RowKit Go.Proofs
set_option linter.unusedVariables false
set_option linter.unusedSimpArgs false
variable {E:Env}
theorem implKeysOk_ok (a:AV) (ks:List ByteArray) (H:Hp) (ha:Strs H a ks) (hs:∀ k∈ks,k.size<4611686018427387904) (hn:ks.length<4611686018427387904):AC Tryz.prog E 108 [a] H (fun v H'=>v=.bool (keysOk ks)/\H'=H):=by
 refine AC_byp (tC_le tabJ_ok) h_impl_KeysOk (by simp) ?_
 have l1:=ha.len
 simp [c_impl_KeysOk,l1,ha.slc]
 refine W_for (fun m t H'=>∃ i:Nat,i+m=ks.length/\t 0=a/\t 5=a/\t 6=.int .i64 ks.length/\t 7=.int .i64 i/\(∀ j:Nat,∀ h:j<ks.length,j<i->keyOk ks[j]=true/\∀ h0:0<j,sless ks[j-1] ks[j]=true)/\H'=H) ks.length ?_ (tC_mono AC_mono) ?_
 ·exact⟨0,by simp⟩
 rintro m t H' ⟨i,him,h0,h5,h6,h7,hI,rfl⟩
 simp [h0,h5,h6,h7]
 refine c_split (fun hq=>?_) (fun hq=>?_)<;>simp at hq
 ·have hw:=wrapN (i:=i) (by omega)
  obtain⟨o1,i1,ob1,rfl,a1,a2,a3⟩:=ha.get hq
  have no:(keyOk ks[i]=true/\∀ h0:0<i,sless ks[i-1] ks[i]=true)\/keysOk ks=false:=by
   rcases Classical.em (keyOk ks[i]=true/\∀ h0:0<i,sless ks[i-1] ks[i]=true) with h | h
   ·exact .inl h
   ·refine .inr ?_
    simp only [keysOk,decide_eq_false_iff_not]
    exact fun hh=>h (hh.1 i hq)
  have yes:(keyOk ks[i]=true/\∀ h0:0<i,sless ks[i-1] ks[i]=true)->∀ j:Nat,∀ h:j<ks.length,j<i+1->keyOk ks[j]=true/\∀ h0:0<j,sless ks[j-1] ks[j]=true:=by
   intro hi j hj hji
   rcases Nat.lt_or_ge j i with h | h
   ·exact hI j hj h
   ·have:j=i:=by omega
    subst this
    exact hi
  have hks:=hs ks[i] (List.getElem_mem hq)
  simp [h0,h5,h6,h7,hq,a1,a2,a3]
  rw [tabJ_key (hk:=hks)]
  cases he:keyOk ks[i] with
  | false =>
   simp [h0,h5,h6,h7,he]
   exact no.resolve_left (fun h=>by rw [he] at h; cases h.1)
  | true =>
   rcases Nat.eq_zero_or_pos i with rfl | hp
   ·simp [h0,h5,h6,h7,wrap1]
    exact⟨m-1,by omega,1,by omega,by decide,fun j hj hj1=>yes ⟨he,fun h=>by omega⟩ j hj (by omega)⟩
   ·have hw2:IntKind.i64.wrap ((i:Int)-1)=((i-1:Nat):Int):=by rw [wrap64 (by omega) (by omega)]; omega
    have hlt:i-1<ks.length:=by omega
    obtain⟨o2,i2,ob2,e2,b1,b2,b3⟩:=ha.get hlt
    cases e2
    rw [a1] at b1
    cases b1
    cases hb:sless ks[i-1] ks[i] with
    | false =>
     simp [h0,h5,h6,h7,hp,hw2,a1,a2,b3,hlt,hb]
     exact no.resolve_left (fun h=>by rw [h.2 hp] at hb; cases hb)
    | true =>
     simp [h0,h5,h6,h7,hw,hp,hw2,a1,a2,b3,hlt,hb]
     exact⟨m-1,by omega,i+1,by omega,rfl,yes ⟨he,fun _=>hb⟩⟩
 ·have:i=ks.length:=by omega
  subst this
  simp [h0,l1,ha.slc]
  simp only [keysOk,decide_eq_decide]
  exact⟨fun h=>⟨fun j hj=>hI j hj hj,by omega⟩,fun h=>by omega⟩
theorem timesOk_ok (a:AV) (ts:List Int) (now:Int) (H:Hp) (ha:Ints H a ts) (hn:ts.length<1099511627776) :
  AC Tryz.prog E 91 [a,.int .i64 now] H (fun v H'=>v=.bool (timesR ts now)/\H'=H):=by
 refine AC_byp (tC_le tabJ_ok) h_impl_timesOk (by simp) ?_
 have l1:=ha.len
 simp [c_impl_timesOk,l1,ha.slc]
 refine W_for (fun m t H'=>∃ i,i+m=ts.length/\t 0=a/\t 1=.int .i64 now/\t 7=a/\t 8=.int .i64 ts.length/\t 9=.int .i64 (i:Nat)/\H'=H/\asc1 now (prev ts i) (ts.drop i)=asc1 now none ts) ts.length ?_ (tC_mono AC_mono) ?_
 ·exact⟨0,by simp [prev]⟩
 rintro m t H' ⟨i,him,h0,h1,h7,h8,h9,rfl,hI⟩
 simp [h0,h1,h7,h8,h9]
 refine c_split (fun hq=>?_) (fun hq=>?_)<;>simp at hq
 ·have hw:=wrapN (i:=i) (by omega)
  obtain⟨o,i0,ob,rfl,a1,a2,a3⟩:=ha.get hq
  rw [List.drop_eq_getElem_cons hq] at hI
  simp only [asc1] at hI
  by_cases hin:0<=ts[i]/\ts[i]<=now
  ·rcases Nat.eq_zero_or_pos i with rfl | hp
   ·rw [Nat.add_zero] at a3
    simp [prev,hin.1,hin.2] at hI
    simp [h0,h1,h7,h8,h9,hq,a1,a2,a3,wrap1,hin.1,hin.2]
    exact⟨m-1,by omega,1,by omega,by omega,by rw [prev_succ hq]; simpa using hI⟩
   ·have hlt:i-1<ts.length:=by omega
    have hw1:=wrapP hp (by omega)
    obtain⟨o2,i2,ob2,e2,b1,b2,b3⟩:=ha.get hlt
    cases e2
    rw [a1] at b1
    cases b1
    rw [prev_pos hp (by omega)] at hI
    by_cases hk:ts[i-1]<ts[i]
    ·have hk':¬ts[i]<=ts[i-1]:=by omega
     simp [hk,hin.1,hin.2] at hI
     simp [h0,h1,h7,h8,h9,hq,hlt,hp,a1,a2,a3,b3,hw,hw1,hin.1,hin.2,hk']
     exact⟨m-1,by omega,i+1,by omega,by omega,by rw [prev_succ hq]; exact hI⟩
    ·have hk':ts[i]<=ts[i-1]:=by omega
     simp [hk,hin.1,hin.2] at hI
     simp [h0,h1,h7,h8,h9,hq,hlt,hp,a1,a2,a3,b3,hw,hw1,hin.1,hin.2,hk']
     simp [timesR,hI]
  ·have hno:timesR ts now=false:=by
    rw [timesR,<- hI]
    by_cases h:0<=ts[i]
    ·simp [show ¬ts[i]<=now by omega]
    ·simp [h]
   have hno2:decide (0<=ts[i]/\ts[i]<=now)=false:=by simpa using fun h=>Int.not_le.1 (fun h2=>hin ⟨h,h2⟩)
   simp only [h0,h1,h7,h8,h9,hq,a1,a2,a3,hw,hno2]
   simp [h0,h1,h7,h8,h9,hq,a1,a2,a3,hw,hno2,hno]
   done
 ·have:i=ts.length:=by omega
  subst this
  rw [List.drop_length] at hI
  simp only [asc1] at hI
  simp [h0,l1,ha.slc,timesR,<- hI]
  omega
def nwA (x:Ent) (ys:List Ent):Bool:=ys.all fun y=>!(decide (x.key=y.key)&&decide (x.time<=y.time))
theorem nwA_cons (x y:Ent) (ys:List Ent):nwA x (y :: ys)=(!(decide (x.key=y.key)&&decide (x.time<=y.time))&&nwA x ys):=rfl
theorem newerI_cons (x:Ent) (xs ys:List Ent):newerI (x :: xs) ys=(nwA x ys&&newerI xs ys):=rfl
theorem newer_ok (a b:AV) (xs ys:List Ent) (H:Hp) (ha:Ents H a xs) (hb:Ents H b ys) (hn:xs.length<1099511627776) (hm:ys.length<1099511627776) :
  AC Tryz.prog E 95 [a,b] H (fun v H'=>v=.bool (newerI xs ys)/\H'=H):=by
 refine AC_byp (tC_le tabJ_ok) h_impl_newer (by simp) ?_
 have l1:=ha.len
 have l2:=hb.len
 simp [c_impl_newer,l1,ha.slc]
 refine W_for (fun m t H'=>∃ i,i+m=xs.length/\t 1=b/\t 9=a/\t 10=.int .i64 xs.length/\t 11=.int .i64 (i:Nat)/\HLe H H'/\newerI (xs.drop i) ys=newerI xs ys) xs.length ?_ (tC_mono AC_mono) ?_
 ·exact⟨0,by simp⟩
 rintro m t H' ⟨i,him,h1,h9,h10,h11,hle,hI⟩
 simp [h1,h9,h10,h11]
 refine c_split (fun hq=>?_) (fun hq=>?_)<;>simp at hq
 ·have hw:=wrapN (i:=i) (by omega)
  obtain⟨o,i0,ob,rfl,aH,a2,a3⟩:=ha.get hq
  have a1:=hle.2 _ _ aH
  rw [List.drop_eq_getElem_cons hq] at hI
  rw [newerI_cons] at hI
  obtain⟨G,hG⟩:∃ G:Hp,G=H'++[some ⟨[[.str xs[i].key,.int .i64 xs[i].val,.bool xs[i].gone,.int .i64 xs[i].time]],4,99,false⟩]:=⟨_,rfl⟩
  have hleG:HLe H' G:=by rw [hG]; exact HLe.self _ _
  have bG:G.at H'.length=some ⟨[[.str xs[i].key,.int .i64 xs[i].val,.bool xs[i].gone,.int .i64 xs[i].time]],4,99,false⟩:=by rw [hG]; simp
  have u1:=Hp.at_lt a1
  simp [h1,h9,h10,h11,hq,a1,a2,a3,Hp.at_app,u1,<- hG,bG,l2,hb.slc]
  refine W_for (fun m2 t H2=>∃ j,j+m2=ys.length/\t 1=b/\t 6=.pt H'.length 0 0/\t 9=.sl o i0 xs.length/\t 10=.int .i64 xs.length/\t 11=.int .i64 (i:Nat)/\t 15=b/\t 16=.int .i64 ys.length/\t 17=.int .i64 (j:Nat)/\HLe G H2/\nwA xs[i] (ys.drop j)=nwA xs[i] ys) ys.length ?_ (tC_mono AC_mono) ?_
  ·exact⟨0,by simp,by simp [h1],by simp,by simp [h9],by simp [h10],by simp [h11],by simp,by simp,by simp,HLe.refl _,by simp⟩
  clear h1 h9 h10 h11
  rintro m2 t H2 ⟨j,hjm,h1,h6,h9,h10,h11,h15,h16,h17,hle2,hJ⟩
  simp [h1,h6,h9,h10,h11,h15,h16,h17]
  refine c_split (fun hq2=>?_) (fun hq2=>?_)<;>simp at hq2
  ·have hw2:=wrapN (i:=j) (by omega)
   obtain⟨o2,i2,ob2,e2,bH,b2,b3⟩:=hb.get hq2
   have b1:=hle2.2 _ _ (hleG.2 _ _ (hle.2 _ _ bH))
   rw [List.drop_eq_getElem_cons hq2] at hJ
   rw [nwA_cons] at hJ
   obtain⟨G2,hG2⟩:∃ G2:Hp,G2=H2++[some ⟨[[.str ys[j].key,.int .i64 ys[j].val,.bool ys[j].gone,.int .i64 ys[j].time]],4,99,false⟩]:=⟨_,rfl⟩
   have hleG2:HLe H2 G2:=by rw [hG2]; exact HLe.self _ _
   have bG2:G2.at H2.length=some ⟨[[.str ys[j].key,.int .i64 ys[j].val,.bool ys[j].gone,.int .i64 ys[j].time]],4,99,false⟩:=by rw [hG2]; simp
   have u2:=Hp.at_lt b1
   have bGG:=hleG2.2 _ _ (hle2.2 _ _ bG)
   subst e2
   have hle3:=((hle.trans hleG).trans hle2).trans hleG2
   by_cases hk:xs[i].key=ys[j].key
   ·by_cases ht:xs[i].time<=ys[j].time
    ·simp [hk,ht] at hJ
     simp [h1,h6,h9,h10,h11,h15,h16,h17,hq2,b1,b2,b3,Hp.at_app,u2,<- hG2,bG2,bGG,hk,ht]
     rw [<- hI,hJ]
     exact⟨by simp,hle3⟩
    ·simp [hk,ht] at hJ
     simp [h1,h6,h9,h10,h11,h15,h16,h17,hq2,b1,b2,b3,Hp.at_app,u2,<- hG2,bG2,bGG,hk,ht,hw2]
     exact⟨m2-1,by omega,j+1,by omega,by omega,hle2.trans hleG2,hJ⟩
   ·simp [hk] at hJ
    simp [h1,h6,h9,h10,h11,h15,h16,h17,hq2,b1,b2,b3,Hp.at_app,u2,<- hG2,bG2,bGG,hk,hw2]
    exact⟨m2-1,by omega,j+1,by omega,by omega,hle2.trans hleG2,hJ⟩
  ·have:j=ys.length:=by omega
   subst this
   rw [List.drop_length] at hJ
   have hJ2:nwA xs[i] ys=true:=by rw [<- hJ]; rfl
   rw [hJ2,Bool.true_and] at hI
   simp [h1,h9,h10,h11,hw]
   exact⟨m-1,by omega,i+1,by omega,by omega,(hle.trans hleG).trans hle2,hI⟩
 ·have:i=xs.length:=by omega
  subst this
  rw [List.drop_length] at hI
  rw [<- hI]
  simp [hle,newerI]
theorem Equal_ok (a b:AV) (xs ys:List ByteArray) (H:Hp) (ha:Strs H a xs) (hb:Strs H b ys) (hx:xs.length<4611686018427387904):AC Tryz.prog E 172 [a,b] H (fun v H'=>v=.bool (decide (xs=ys))/\H'=H):=by
 refine AC_byp (tC_le tabJ_ok) h_slices_Equal_Sstring_string (by simp) ?_
 have l1:=ha.len
 have l2:=hb.len
 simp [c_slices_Equal_Sstring_string,l1,l2,ha.slc,hb.slc]
 refine c_split (fun hq=>?_) (fun hq=>?_)<;>simp at hq<;>simp [l1,ha.slc]
 ·intro h
  subst h
  exact hq rfl
 ·refine W_for (fun k t H'=>∃ i:Nat,i+k=xs.length/\t 0=a/\t 1=b/\t 12=.int .i64 xs.length/\t 13=.int .i64 i/\(∀ j:Nat,j<i->xs[j]?=ys[j]?)/\HLe H H') xs.length ?_ (tC_mono AC_mono) ?_
  ·exact⟨0,by simp⟩
  rintro k t H' ⟨i,hik,h0,h1,h12,h13,hI,hle⟩
  simp [h0,h1,h12,h13]
  refine c_split (fun hq2=>?_) (fun hq2=>?_)<;>simp at hq2
  ·have hw:=wrapN (i:=i) (by omega)
   obtain⟨o1,i1,ob1,rfl,a1,a2,a3⟩:=(ha.le hle).get hq2
   obtain⟨o2,i2,ob2,rfl,b1,b2,b3⟩:=(hb.le hle).get (j:=i) (by omega)
   simp [h0,h1,h12,h13,a1,a2,a3,b1,b2,b3,hq2,<- hq]
   refine c_split (fun hq3=>?_) (fun hq3=>?_)<;>simp at hq3<;>simp [h0,h1,h12,h13,hw,hle]
   ·intro h
    subst h
    exact hq3 rfl
   ·refine⟨k-1,by omega,i+1,by omega,rfl,fun j hj=>?_⟩
    rcases Nat.lt_or_ge j i with h | h
    ·exact hI j h
    ·have:j=i:=by omega
     subst this
     rw [List.getElem?_eq_getElem hq2,List.getElem?_eq_getElem (by omega),hq3]
  ·simp [hle]
   apply List.ext_getElem?
   intro j
   rcases Nat.lt_or_ge j i with h | h
   ·exact hI j h
   ·rw [List.getElem?_eq_none (by omega),List.getElem?_eq_none (by omega)]
theorem same_ok (r r':AV) (s s':Sv) (H:Hp) (hr:Strs H r s.r) (hr':Strs H r' s'.r) (hx:s.r.length<4611686018427387904) :
  AC Tryz.prog E 94 [svAV s r,svAV s' r'] H (fun v H'=>v=.bool (decide (s=s'))/\H'=H):=by
 refine AC_byp (tC_le tabJ_ok) h_impl_Sieve_same (by simp) ?_
 have ed:decide (s=s')=(decide (s.l=s'.l)&&(decide (s.m=s'.m)&&(decide (s.f=s'.f)&&(decide (s.k=s'.k)&&decide (s.r=s'.r))))):=by
  obtain⟨x1,x2,x3,x4,x5⟩:=s
  obtain⟨y1,y2,y3,y4,y5⟩:=s'
  simp only [Sv.mk.injEq,Bool.decide_and]
  cases decide (x1=y1)<;>cases decide (x2=y2)<;>cases decide (x3=y3)<;>cases decide (x4=y4)<;>cases decide (x5=y5)<;>rfl
 rw [ed]
 obtain⟨H1,hH1⟩:∃ H1:Hp,H1=H++[some ⟨[[.str s.l,.str s.m,.str s.f,r,.int .i64 s.k]],5,66,false⟩,some ⟨[[.str s'.l,.str s'.m,.str s'.f,r',.int .i64 s'.k]],5,66,false⟩]:=⟨_,rfl⟩
 have hle1:HLe H H1:=by rw [hH1]; exact HLe.self _ _
 have b0:H1.at H.length=some ⟨[[.str s.l,.str s.m,.str s.f,r,.int .i64 s.k]],5,66,false⟩:=by rw [hH1]; simp
 have b1:H1.at (H.length+1)=some ⟨[[.str s'.l,.str s'.m,.str s'.f,r',.int .i64 s'.k]],5,66,false⟩:=by rw [hH1]; simp
 simp [c_impl_Sieve_same,svAV,Rows.one hr,Rows.one hr',<- hH1,b0,b1]
 by_cases e1:s.l=s'.l
 ·by_cases e2:s.m=s'.m
  ·by_cases e3:s.f=s'.f
   ·by_cases e4:s.k=s'.k
    ·simp [e1,e2,e3,e4,b0,b1]
     refine cg_use (Equal_ok r r' s.r s'.r H1 (hr.le hle1) (hr'.le hle1) hx) ?_
     simp [hle1]
    ·simp [e1,e2,e3,e4,b0,b1,hle1]
   ·simp [e1,e2,e3,b0,b1,hle1]
  ·simp [e1,e2,b0,b1,hle1]
 ·simp [e1,hle1]
theorem cloneInts_ok (a:AV) (ts:List Int) (H:Hp) (ha:Ints H a ts) (hn:ts.length<1099511627776) :
  AC Tryz.prog E 203 [a] H (fun v H'=>HLe H H'/\OwnI H H' v ts):=by
 refine AC_by fol (tC_le tabJ_ok) h_impl_cloneInts ?_
 simp [c_impl_cloneInts]
 refine appG_cat (row:=intRow) (H0:=H) (xs:=[]) OwnM.nils ha (HLe.refl _) (by simp; omega) (fun v H' g1 g2 g3 g4=>?_)
 simp
 exact⟨g1,by simpa using g2⟩
theorem Sclone_ok (r:AV) (s:Sv) (H:Hp) (hr:Strs H r s.r) (hn:s.r.length<1099511627776) :
  AC Tryz.prog E 204 [svAV s r] H (fun v H'=>HLe H H'/\∃ r',v=svAV s r'/\OwnS H H' r' s.r):=by
 refine AC_by fol (tC_le tabJ_ok) h_impl_Sieve_clone ?_
 obtain⟨H1,hH1⟩:∃ H1:Hp,H1=H++[some ⟨[[.str s.l,.str s.m,.str s.f,r,.int .i64 s.k]],5,66,false⟩,some ⟨[[.str ⟨#[]⟩,.str ⟨#[]⟩,.str ⟨#[]⟩,.nils,.int .i64 0]],5,66,false⟩]:=⟨_,rfl⟩
 have hle1:HLe H H1:=by rw [hH1]; exact HLe.self _ _
 have b0:H1.at H.length=some ⟨[[.str s.l,.str s.m,.str s.f,r,.int .i64 s.k]],5,66,false⟩:=by rw [hH1]; simp
 have b1:H1.at (H.length+1)=some ⟨[[.str ⟨#[]⟩,.str ⟨#[]⟩,.str ⟨#[]⟩,.nils,.int .i64 0]],5,66,false⟩:=by rw [hH1]; simp
 simp [c_impl_Sieve_clone,svAV,Rows.one hr,<- hH1,b0]
 refine appG_cat (row:=strRow) (H0:=H) (xs:=[]) OwnM.nils (hr.le hle1) hle1 (by simp; omega) (fun v H' g1 g2 g3 g4=>?_)
 have c0:=g3.2 _ _ (by simp) b0
 have c1:=g3.2 _ _ (by simp) b1
 have u0:=Hp.at_lt c0
 have u1:=Hp.at_lt c1
 have n1:H.length≠H.length+1:=by omega
 have hone:one v=true:=Rows.one g2.1.rows
 have n2:H.length+1≠H.length:=by omega
 have hc1:v.cells=[v]:=Rows.cells g2.1.rows
 have hc2:cells1 v=true:=Rows.cells1 g2.1.rows
 simp [c0,c1,u0,u1,hone,hc1,hc2,Hp.at_set,Hp.at_set_ne,n1,n2]
 refine⟨(g1.set (Nat.le_refl _) _).set (by omega) _,g2.fr (((Fr.refl (fun y=>y=H.length\/y=H.length+1) H').set (.inl (.inl rfl)) _).set (.inl (.inr rfl)) _) (fun o ho h=>?_)⟩
 rcases h with h | h<;>rw [h] at ho
 ·exact absurd (g2.1.esz ho c0) (by simp)
 ·exact absurd (g2.1.esz ho c1) (by simp)
end Go.Proofs.YtgoeenodllmdpaaGreat.B

namespace Go.Proofs.YtgoeenodllmdpaaGreat.B
open Go.RowKit Go.Proofs
set_option linter.unusedVariables false
set_option linter.unusedSimpArgs false
variable {E:Env}
theorem Bld.obj {H:Hp} {o:Nat} {x:AV} {bs:List Int} (h:Bld H o x bs) {y:Nat} (hy:x.of y):∃ rows,H.at y=some ⟨rows,1,5,false⟩:=by
 obtain⟨a,h1,h2,h3,h4⟩:=h
 rcases h3 with ⟨rfl,_⟩ | ⟨o',rfl,k⟩
 ·exact hy.elim
 ·have:o'=y:=hy
  subst this
  exact⟨_,k⟩
theorem Bld.ob2 {H:Hp} {o:Nat} {x:AV} {bs:List Int} (h:Bld H o x bs):∃ rows,H.at o=some ⟨rows,2,167,false⟩:=by
 obtain⟨a,h1,h2,h3,h4⟩:=h
 exact⟨_,h1⟩
theorem Bld.fr {S:Nat->Prop} {H H':Hp} {o:Nat} {x:AV} {bs:List Int} (h:Bld H o x bs) (hf:Fr S H H') (ho:¬S o) (hx:∀ y,x.of y->¬S y):Bld H' o x bs:=by
 obtain⟨a,h1,h2,h3,h4⟩:=h
 exact⟨a,hf.2 _ _ ho h1,h2,h3.fr hf hx,h4⟩
theorem Own.ety {esz ety:Nat} {H:Hp} {v:AV} {R:List (List AV)} (h:Own esz ety H v R) {x:Nat} {ob:Ob} (hx:v.of x) (ho:H.at x=some ob):ob.ety=ety:=by
 rcases h with ⟨rfl,_⟩ | ⟨rfl,_⟩ | ⟨o',ob',rfl,a1,a2,a3,a4,_⟩
 ·exact hx.elim
 ·exact hx.elim
 ·have:o'=x:=hx
  subst this
  rw [ho] at a1
  cases a1
  exact a4
structure SvS (H0 H:Hp) (x1 x2 x3 r:AV) (s:Sv):Prop where
 z:H.at H0.length=some ⟨[[.str ⟨#[]⟩,.str ⟨#[]⟩,.str ⟨#[]⟩,.nils,.int .i64 0]],5,66,false⟩
 b1:Bld H (H0.length+1) x1 (bytesOf s.l)
 b2:Bld H (H0.length+2) x2 (bytesOf s.m)
 b3:Bld H (H0.length+3) x3 (bytesOf s.f)
 so:H.at (H0.length+4)=some ⟨[[.str ⟨#[]⟩,.str ⟨#[]⟩,.str ⟨#[]⟩,r,.int .i64 s.k]],5,66,false⟩
 ro:OwnS H0 H r s.r
 n1:∀ y,x1.of y->H0.length<=y/\¬x2.of y/\¬x3.of y
 n2:∀ y,x2.of y->H0.length<=y/\¬x3.of y
 n3:∀ y,x3.of y->H0.length<=y
 le:HLe H0 H
def FkS (B:Nat) (H:Hp) (row:List AV) (f:Fk):Prop:=∃ u,row=[u,.int .i64 f.2]/\Strs H u f.1/\∀ x,u.of x->x<B
def Qu (H0 H:Hp) (w:AV) (Q:List Fk):Prop:=∃ rows,Own 2 169 H w rows/\All2 (FkS H0.length H) rows Q/\∀ y,w.of y->H0.length<=y
theorem Strs.old {B:Nat} {S:Nat->Prop} {H H':Hp} {u:AV} {ks:List ByteArray} (h:Strs H u ks) (hu:∀ x,u.of x->x<B) (hf:Fr S H H') (hS:∀ y,S y->B<=y):Strs H' u ks :=
 Rows.fr h hf (fun o ho hs=>by have:=hu o ho; have:=hS o hs; omega)
theorem Qu.fr {S:Nat->Prop} {H0 H H':Hp} {w:AV} {Q:List Fk} (h:Qu H0 H w Q) (hf:Fr S H H') (hS:∀ y,S y->H0.length<=y) (hw:∀ y ob,S y->H.at y=some ob->ob.ety≠169):Qu H0 H' w Q:=by
 obtain⟨rows,h1,h2,h3⟩:=h
 refine⟨rows,h1.fr hf (fun o ho hs=>?_),All2.mono (fun row f h=>?_) h2,h3⟩
 ·have hlt:=h1.lt ho
  rcases h1 with ⟨rfl,_⟩ | ⟨rfl,_⟩ | ⟨o',ob',rfl,a1,a2,a3,a4,_⟩
  ·exact ho.elim
  ·exact ho.elim
  ·have:o'=o:=ho
   subst this
   exact hw _ _ hs a1 a4
 ·obtain⟨u,k1,k2,k3⟩:=h
  exact⟨u,k1,k2.old k3 hf hS,k3⟩
theorem Qu.get {H0 H:Hp} {w:AV} {Q:List Fk} (h:Qu H0 H w Q) {k:Nat} (hk:k<Q.length):∃ o ob u,w=.sl o 0 Q.length/\H.at o=some ob/\ob.esz=2/\ob.rows[k]?=some [u,.int .i64 Q[k].2]/\Strs H u Q[k].1/\∀ x,u.of x->x<H0.length:=by
 obtain⟨rows,h1,h2,h3⟩:=h
 have hl:=h2.length
 obtain⟨u,k1,k2,k3⟩:=h2.get k (by omega) hk
 obtain⟨o,i,ob,e1,e2,e3,e4⟩:=h1.rows.get (j:=k) (by omega)
 rcases h1 with ⟨rfl,_⟩ | ⟨rfl,_⟩ | ⟨o',ob',rfl,a1,a2,a3,a4,a5,a6⟩
 ·cases e1
 ·cases e1
 ·cases e1
  rw [k1] at e4
  rw [Nat.zero_add] at e4
  exact⟨_,ob,u,by rw [hl],e2,e3,e4,k2,k3⟩
theorem Qu.len {H0 H:Hp} {w:AV} {Q:List Fk} (h:Qu H0 H w Q):lenV w=.int .i64 Q.length/\slC w:=by
 obtain⟨rows,h1,h2,h3⟩:=h
 have:=h1.rows.len
 rw [h2.length] at this
 exact⟨this,h1.rows.slc⟩
theorem SvS.fr {S:Nat->Prop} {H0 H H':Hp} {x1 x2 x3 r:AV} {s:Sv} (h:SvS H0 H x1 x2 x3 r s) (hf:Fr S H H') (hS:∀ y,S y->H0.length<=y) (hS2:∀ y ob,S y->H.at y=some ob->ob.ety≠66/\ob.ety≠167/\ob.ety≠5/\ob.ety≠9):SvS H0 H' x1 x2 x3 r s:=by
 obtain⟨z,b1,b2,b3,so,ro,n1,n2,n3,le⟩:=h
 have nb:∀ {o x bs},Bld H o x bs->¬S o/\∀ y,x.of y->¬S y:=fun hb=>by
  refine⟨fun hs=>?_,fun y hy hs=>?_⟩
  ·obtain⟨rows,k⟩:=hb.ob2
   exact (hS2 _ _ hs k).2.1 rfl
  ·obtain⟨rows,k⟩:=hb.obj hy
   exact (hS2 _ _ hs k).2.2.1 rfl
 refine⟨hf.2 _ _ (fun hs=>(hS2 _ _ hs z).1 rfl) z,b1.fr hf (nb b1).1 (nb b1).2,b2.fr hf (nb b2).1 (nb b2).2,b3.fr hf (nb b3).1 (nb b3).2,hf.2 _ _ (fun hs=>(hS2 _ _ hs so).1 rfl) so,ro.fr hf (fun y hy hs=>?_),n1,n2,n3,le.fr_le hf (fun y hy=>hS y hy)⟩
 rcases ro.1 with ⟨rfl,_⟩ | ⟨rfl,_⟩ | ⟨o',ob',rfl,a1,a2,a3,a4,_⟩
 ·exact hy.elim
 ·exact hy.elim
 ·have:o'=y:=hy
  subst this
  exact (hS2 _ _ hs a1).2.2.2 a4
theorem OwnM.notS {α:Type} {esz ety e2:Nat} {row:α->List AV} {H0 H:Hp} {v:AV} {xs:List α} (h:OwnM esz ety row H0 H v xs) {y:Nat} {ob:Ob} (ho:H.at y=some ob) (he:ob.ety≠ety):¬v.of y:=fun hy=>he (h.1.ety hy ho)
theorem Bld.nother {H:Hp} {o:Nat} {x:AV} {bs:List Int} (h:Bld H o x bs) {y:Nat} {ob:Ob} (ho:H.at y=some ob) (he:ob.ety≠5):¬x.of y:=fun hy=>by
 obtain⟨rows,k⟩:=h.obj hy
 rw [ho] at k
 cases k
 exact he rfl
section
variable {H0 H H':Hp} {x1 x2 x3 r x':AV} {s:Sv} {c:UInt8}
theorem SvS.w1 (h:SvS H0 H x1 x2 x3 r s) (hb:Bld H' (H0.length+1) x' (bytesOf s.l++[(c.toNat:Int)])) (hf:Fr (fun y=>y=H0.length+1\/x1.of y) H H') (hx:∀ y,x'.of y->x1.of y\/H.length<=y):SvS H0 H' x' x2 x3 r { s with l:=s.l++lit1 c }:=by
 obtain⟨z,b1,b2,b3,so,ro,n1,n2,n3,le⟩:=h
 obtain⟨rb,kb⟩:=b1.ob2
 have hlt:=Hp.at_lt kb
 refine⟨hf.2 _ _ ?_ z,by rw [bytesOf_app,bytesOf_lit]; exact hb,b2.fr hf ?_ ?_,b3.fr hf ?_ ?_,hf.2 _ _ ?_ so,ro.fr hf ?_,?_,n2,n3,le.fr_le hf ?_⟩
 ·rintro (h | h)
  ·omega
  ·exact b1.nother z (by simp) h
 ·rintro (h | h)
  ·omega
  ·obtain⟨_,k2⟩:=b2.ob2
   exact b1.nother k2 (by simp) h
 ·rintro y hy (h | h)
  ·subst h
   exact b2.nother kb (by simp) hy
  ·exact (n1 y h).2.1 hy
 ·rintro (h | h)
  ·omega
  ·obtain⟨_,k2⟩:=b3.ob2
   exact b1.nother k2 (by simp) h
 ·rintro y hy (h | h)
  ·subst h
   exact b3.nother kb (by simp) hy
  ·exact (n1 y h).2.2 hy
 ·rintro (h | h)
  ·omega
  ·exact b1.nother so (by simp) h
 ·rintro y hy (h | h)
  ·subst h
   exact absurd (ro.1.ety hy kb) (by simp)
  ·obtain⟨_,k⟩:=b1.obj h
   exact absurd (ro.1.ety hy k) (by simp)
 ·intro y hy
  rcases hx y hy with h | h
  ·exact n1 y h
  ·refine⟨by omega,fun h2=>?_,fun h3=>?_⟩
   ·obtain⟨_,k⟩:=b2.obj h2
    have:=Hp.at_lt k
    omega
   ·obtain⟨_,k⟩:=b3.obj h3
    have:=Hp.at_lt k
    omega
 ·rintro y (h | h)
  ·omega
  ·exact (n1 y h).1
theorem SvS.w2 (h:SvS H0 H x1 x2 x3 r s) (hb:Bld H' (H0.length+2) x' (bytesOf s.m++[(c.toNat:Int)])) (hf:Fr (fun y=>y=H0.length+2\/x2.of y) H H') (hx:∀ y,x'.of y->x2.of y\/H.length<=y):SvS H0 H' x1 x' x3 r { s with m:=s.m++lit1 c }:=by
 obtain⟨z,b1,b2,b3,so,ro,n1,n2,n3,le⟩:=h
 obtain⟨rb,kb⟩:=b2.ob2
 have hlt:=Hp.at_lt kb
 refine⟨hf.2 _ _ ?_ z,b1.fr hf ?_ ?_,by rw [bytesOf_app,bytesOf_lit]; exact hb,b3.fr hf ?_ ?_,hf.2 _ _ ?_ so,ro.fr hf ?_,?_,?_,n3,le.fr_le hf ?_⟩
 ·rintro (h | h)
  ·omega
  ·exact b2.nother z (by simp) h
 ·rintro (h | h)
  ·omega
  ·obtain⟨_,k2⟩:=b1.ob2
   exact b2.nother k2 (by simp) h
 ·rintro y hy (h | h)
  ·subst h
   exact b1.nother kb (by simp) hy
  ·exact (n1 y hy).2.1 h
 ·rintro (h | h)
  ·omega
  ·obtain⟨_,k2⟩:=b3.ob2
   exact b2.nother k2 (by simp) h
 ·rintro y hy (h | h)
  ·subst h
   exact b3.nother kb (by simp) hy
  ·exact (n2 y h).2 hy
 ·rintro (h | h)
  ·omega
  ·exact b2.nother so (by simp) h
 ·rintro y hy (h | h)
  ·subst h
   exact absurd (ro.1.ety hy kb) (by simp)
  ·obtain⟨_,k⟩:=b2.obj h
   exact absurd (ro.1.ety hy k) (by simp)
 ·intro y hy
  refine⟨(n1 y hy).1,fun h=>?_,(n1 y hy).2.2⟩
  rcases hx y h with h | h
  ·exact (n1 y hy).2.1 h
  ·obtain⟨_,k⟩:=b1.obj hy
   have:=Hp.at_lt k
   omega
 ·intro y hy
  rcases hx y hy with h | h
  ·exact n2 y h
  ·refine⟨by omega,fun h3=>?_⟩
   obtain⟨_,k⟩:=b3.obj h3
   have:=Hp.at_lt k
   omega
 ·rintro y (h | h)
  ·omega
  ·exact (n2 y h).1
theorem SvS.w3 (h:SvS H0 H x1 x2 x3 r s) (hb:Bld H' (H0.length+3) x' (bytesOf s.f++[(c.toNat:Int)])) (hf:Fr (fun y=>y=H0.length+3\/x3.of y) H H') (hx:∀ y,x'.of y->x3.of y\/H.length<=y):SvS H0 H' x1 x2 x' r { s with f:=s.f++lit1 c }:=by
 obtain⟨z,b1,b2,b3,so,ro,n1,n2,n3,le⟩:=h
 obtain⟨rb,kb⟩:=b3.ob2
 have hlt:=Hp.at_lt kb
 refine⟨hf.2 _ _ ?_ z,b1.fr hf ?_ ?_,b2.fr hf ?_ ?_,by rw [bytesOf_app,bytesOf_lit]; exact hb,hf.2 _ _ ?_ so,ro.fr hf ?_,?_,?_,?_,le.fr_le hf ?_⟩
 ·rintro (h | h)
  ·omega
  ·exact b3.nother z (by simp) h
 ·rintro (h | h)
  ·omega
  ·obtain⟨_,k2⟩:=b1.ob2
   exact b3.nother k2 (by simp) h
 ·rintro y hy (h | h)
  ·subst h
   exact b1.nother kb (by simp) hy
  ·exact (n1 y hy).2.2 h
 ·rintro (h | h)
  ·omega
  ·obtain⟨_,k2⟩:=b2.ob2
   exact b3.nother k2 (by simp) h
 ·rintro y hy (h | h)
  ·subst h
   exact b2.nother kb (by simp) hy
  ·exact (n2 y hy).2 h
 ·rintro (h | h)
  ·omega
  ·exact b3.nother so (by simp) h
 ·rintro y hy (h | h)
  ·subst h
   exact absurd (ro.1.ety hy kb) (by simp)
  ·obtain⟨_,k⟩:=b3.obj h
   exact absurd (ro.1.ety hy k) (by simp)
 ·intro y hy
  refine⟨(n1 y hy).1,(n1 y hy).2.1,fun h=>?_⟩
  rcases hx y h with h | h
  ·exact (n1 y hy).2.2 h
  ·obtain⟨_,k⟩:=b1.obj hy
   have:=Hp.at_lt k
   omega
 ·intro y hy
  refine⟨(n2 y hy).1,fun h=>?_⟩
  rcases hx y h with h | h
  ·exact (n2 y hy).2 h
  ·obtain⟨_,k⟩:=b2.obj hy
   have:=Hp.at_lt k
   omega
 ·intro y hy
  rcases hx y hy with h | h
  ·exact n3 y h
  ·omega
 ·rintro y (h | h)
  ·omega
  ·exact n3 y h
theorem SvS.wr {k:ByteArray} (h:SvS H0 H x1 x2 x3 r s) (hf:Fr r.of H H') (hx:OwnS H0 H' x' (s.r++[k])):SvS H0 (List.set H' (H0.length+4) (some ⟨[[.str ⟨#[]⟩,.str ⟨#[]⟩,.str ⟨#[]⟩,x',.int .i64 s.k]],5,66,false⟩)) x1 x2 x3 x' { s with r:=s.r++[k] }:=by
 obtain⟨z,b1,b2,b3,so,ro,n1,n2,n3,le⟩:=h
 have so':H'.at (H0.length+4)=some ⟨[[.str ⟨#[]⟩,.str ⟨#[]⟩,.str ⟨#[]⟩,r,.int .i64 s.k]],5,66,false⟩:=hf.2 _ _ (ro.notS (e2:=0) so (by simp)) so
 have hlt:=Hp.at_lt so'
 have hS:Fr (fun y=>y=H0.length+4\/r.of y) H (List.set H' (H0.length+4) (some ⟨[[.str ⟨#[]⟩,.str ⟨#[]⟩,.str ⟨#[]⟩,x',.int .i64 s.k]],5,66,false⟩)):=(hf.mono (fun y hy=>.inl (.inr hy))).set (.inl (.inl rfl)) _
 have nb:∀ {o x bs},o≠H0.length+4->Bld H o x bs->¬(o=H0.length+4\/r.of o)/\∀ y,x.of y->¬(y=H0.length+4\/r.of y):=fun hne hb=>by
  refine⟨?_,fun y hy=>?_⟩
  ·rintro (h | h)
   ·exact hne h
   ·obtain⟨_,k⟩:=hb.ob2
    exact ro.notS (e2:=0) k (by simp) h
  ·rintro (h | h)
   ·subst h
    exact hb.nother so (by simp) hy
   ·obtain⟨_,k⟩:=hb.obj hy
    exact ro.notS (e2:=0) k (by simp) h
 refine⟨hS.2 _ _ ?_ z,b1.fr hS (nb (by omega) b1).1 (nb (by omega) b1).2,b2.fr hS (nb (by omega) b2).1 (nb (by omega) b2).2,b3.fr hS (nb (by omega) b3).1 (nb (by omega) b3).2,Hp.at_set _ hlt,hx.fr (Fr.one _ _ _) ?_,n1,n2,n3,le.fr_le hS ?_⟩
 ·rintro (h | h)
  ·omega
  ·exact ro.notS (e2:=0) z (by simp) h
 ·intro y hy h
  subst h
  exact absurd (hx.1.ety hy so') (by simp)
 ·rintro y (h | h)
  ·omega
  ·exact ro.2 y h
end
end Go.Proofs.YtgoeenodllmdpaaGreat.B

namespace Go.Proofs.YtgoeenodllmdpaaGreat.B
open Go.RowKit Go.Proofs
set_option linter.unusedVariables false
set_option linter.unusedSimpArgs false
structure SvOk (N:Nat) (Q:List Fk) (k:Nat) (s:Sv) (keep:Int) (res:Sv):Prop where
 todo:bfs N (Q.drop k) s=res
 fuel:mu (Q.drop k)<=N
 ok:∀ f∈Q.drop k,FkOk f
 sl:s.l.size+24 * N<=12000
 sm:s.m.size+24 * N<=12000
 sf:s.f.size+24 * N<=12000
 ql:Q.length+24 * N<=12001
 rl:s.r.length+24 * N<=12000
 kp:s.k=keep
structure InOk (N k d:Nat) (rest:List ByteArray) (b:Bool) (Q T:List Fk) (s:Sv) (keep:Int) (res:Sv):Prop where
 tot:Q.drop (k+1)++subs d (brs d rest)=T
 todo:bfs N T (addBs d b s (brs d rest))=res
 fuel:mu T<=N
 ok:∀ f∈T,FkOk f
 sp:SP d rest
 sz:∀ x∈rest,d<=x.size
 kq:k+1<=Q.length
 dp:d<=5
 sl:s.l.size+rest.length+24 * N<=12000
 sm:s.m.size+rest.length+24 * N<=12000
 sf:s.f.size+rest.length+24 * N<=12000
 ql:Q.length+rest.length+24 * N<=12001
 rl:s.r.length+rest.length+24 * N<=12000
 kp:s.k=keep
theorem brs_nil (d:Nat):brs d []=[]:=by rw [brs]
theorem SvOk.start {ks:List ByteArray} {keep:Int} (h:keysOk ks=true):SvOk 500 [(ks,0)] 0 ⟨⟨#[]⟩,⟨#[]⟩,⟨#[]⟩,[],keep⟩ keep (sieveR ks keep):=by
 obtain⟨hg,hl⟩:=keysOk_good h
 have hs:=SP.of_keys h
 refine⟨rfl,?_,?_,by show (0:Nat)+24 * 500<=12000; decide,by show (0:Nat)+24 * 500<=12000; decide,by show (0:Nat)+24 * 500<=12000; decide,by simp,by simp,rfl⟩
 ·simp only [List.drop_zero,mu,List.map_cons,List.map_nil,List.sum_cons,List.sum_nil]
  omega
 ·intro f hf
  rw [List.drop_zero,List.mem_singleton] at hf
  subst hf
  exact⟨hg,hs,fun x _=>Nat.zero_le _,hl⟩
theorem SvOk.step {N:Nat} {Q:List Fk} {k:Nat} {s:Sv} {keep:Int} {res:Sv} (h:SvOk N Q k s keep res) (hk:k<Q.length) :
  ∃ n,InOk n k Q[k].2 Q[k].1 true Q (Q.drop (k+1)++subs Q[k].2 (brs Q[k].2 Q[k].1)) s keep res/\mu (Q.drop (k+1)++subs Q[k].2 (brs Q[k].2 Q[k].1))<mu (Q.drop k):=by
 have e:=List.drop_eq_getElem_cons hk
 obtain⟨h1,h2,h3,h4,h5,h6,h7,h8,h9⟩:=h
 rw [e] at h1 h2 h3 ⊢
 generalize Q[k]=f at h1 h2 h3 ⊢
 obtain⟨ks,d⟩:=f
 have hf:=h3 (ks,d) (by simp)
 have hm:=mu_step (q:=Q.drop (k+1)) hf.good
 obtain⟨n,rfl⟩:∃ n,N=n+1:=⟨N-1,by omega⟩
 rw [bfs] at h1
 have hl:=hf.len
 simp only at hl
 refine⟨n,⟨rfl,h1,Nat.le_of_lt_succ (Nat.lt_of_lt_of_le hm h2),?_,hf.sp,hf.size,hk,hf.good.deep,by show s.l.size+ks.length+24 * n<=12000; omega,by show s.m.size+ks.length+24 * n<=12000; omega,by show s.f.size+ks.length+24 * n<=12000; omega,by show Q.length+ks.length+24 * n<=12001; omega,by show s.r.length+ks.length+24 * n<=12000; omega,h9⟩,hm⟩
 intro f hf2
 rcases List.mem_append.1 hf2 with h | h
 ·exact h3 f (List.mem_cons_of_mem _ h)
 ·exact hf.subs f h
theorem InOk.done {N k d:Nat} {b:Bool} {Q T:List Fk} {s:Sv} {keep:Int} {res:Sv} (h:InOk N k d [] b Q T s keep res):SvOk N Q (k+1) s keep res/\T=Q.drop (k+1):=by
 obtain⟨h1,h2,h3,h4,h5,h6,h7,h8,h9,h10,h11,h12,h13,h14⟩:=h
 rw [brs_nil] at h1 h2
 simp only [subs,List.filter_nil,List.map_nil,List.append_nil] at h1
 subst h1
 simp only [addBs] at h2
 simp only [List.length_nil,Nat.add_zero] at h9 h10 h11 h12 h13
 exact⟨⟨h2,h3,h4,h9,h10,h11,h12,h13,h14⟩,rfl⟩
theorem lit1_size (c:UInt8):(lit1 c).size=1:=rfl
theorem InOk.step {N k d:Nat} {x:ByteArray} {rt:List ByteArray} {b:Bool} {Q T:List Fk} {s:Sv} {keep:Int} {res:Sv} (h:InOk N k d (x :: rt) b Q T s keep res) {n:Nat} (hn:n=cnt d (x :: rt)) :
  (1<n->InOk N k d ((x :: rt).drop n) false (Q++[((x :: rt).take n,d+1)]) T { s with l:=s.l++lit1 (letter x d),f:=s.f++lit1 (if b=true then 49 else 48),m:=s.m++lit1 49 } keep res) /\
  (¬1<n->InOk N k d ((x :: rt).drop n) false Q T { s with l:=s.l++lit1 (letter x d),f:=s.f++lit1 (if b=true then 49 else 48),m:=s.m++lit1 48,r:=s.r++[restK x (d+1) keep] } keep res):=by
 obtain⟨h1,h2,h3,h4,h5,h6,h7,h8,h9,h10,h11,h12,h13,h14⟩:=h
 obtain⟨g1,g2⟩:=grp_take h5
 rw [<- hn] at g1 g2
 obtain⟨gr,ge⟩:=grp_head d x rt
 have hpos:=grp_pos d x rt
 rw [brs_cons,g2,g1] at h1 h2
 rw [subs_cons] at h1
 rw [addBs_cons] at h2
 have hd:((x :: rt).take n).headD ⟨#[]⟩=x:=by rw [<- g1,ge]; rfl
 have hlt:((x :: rt).take n).length=n:=by rw [<- g1,g2]
 have hln:n<=(x :: rt).length:=by rw [<- hlt,List.length_take]; exact Nat.min_le_right _ _
 have hdl:((x :: rt).drop n).length=(x :: rt).length-n:=List.length_drop
 have hm:many ((x :: rt).take n)=decide (1<n):=by rw [many,hlt]
 have hsub:((x :: rt).drop n).Sublist (x :: rt):=List.drop_sublist _ _
 have sp':SP d ((x :: rt).drop n):=h5.sub hsub
 have sz':∀ y∈(x :: rt).drop n,d<=y.size:=fun y hy=>h6 y (hsub.subset hy)
 simp only [addB,hd,hm] at h2
 rw [show restK x (d+1) s.k=restK x (d+1) keep by rw [h14]] at h2
 rw [hm] at h1
 constructor
 ·intro h
  simp only [decide_eq_true h,if_true] at h1 h2
  refine⟨?_,h2,h3,h4,sp',sz',?_,h8,?_,?_,?_,?_,?_,h14⟩
  ·rw [<- h1,List.drop_append_of_le_length h7,List.append_assoc]
  ·simp
   omega
  ·simp only [ByteArray.size_append,lit1_size]; omega
  ·simp only [ByteArray.size_append,lit1_size]; omega
  ·simp only [ByteArray.size_append,lit1_size]; omega
  ·simp only [List.length_append,List.length_singleton]; omega
  ·simp only; omega
 ·intro h
  have hf:decide (1<n)=false:=decide_eq_false h
  simp only [hf,Bool.false_eq_true,if_false,List.nil_append] at h1 h2
  refine⟨h1,h2,h3,h4,sp',sz',h7,h8,?_,?_,?_,?_,?_,h14⟩
  ·simp only [ByteArray.size_append,lit1_size]; omega
  ·simp only [ByteArray.size_append,lit1_size]; omega
  ·simp only [ByteArray.size_append,lit1_size]; omega
  ·omega
  ·simp only [List.length_append,List.length_singleton]; omega
theorem cnt_eq' {d:Nat} {ks:List ByteArray} (hk:0<ks.length) {n:Nat} (h0:0<n) (hn:n<=ks.length) (h1:∀ (j:Nat) (h:j<ks.length),j<n->letter ks[j] d=letter ks[0] d) (h2:∀ h:n<ks.length,letter ks[n] d≠letter ks[0] d):cnt d ks=n:=by
 match ks,hk with
 | k :: ks,_=>exact cnt_eq h0 hn h1 h2
theorem InOk.step' {N k d:Nat} {rest:List ByteArray} (hr:0<rest.length) {b:Bool} {Q T:List Fk} {s:Sv} {keep:Int} {res:Sv} (h:InOk N k d rest b Q T s keep res) {n:Nat} (hn:n=cnt d rest) :
  (1<n->InOk N k d (rest.drop n) false (Q++[(rest.take n,d+1)]) T { s with l:=s.l++lit1 (letter rest[0] d),f:=s.f++lit1 (if b=true then 49 else 48),m:=s.m++lit1 49 } keep res) /\
  (¬1<n->InOk N k d (rest.drop n) false Q T { s with l:=s.l++lit1 (letter rest[0] d),f:=s.f++lit1 (if b=true then 49 else 48),m:=s.m++lit1 48,r:=s.r++[restK rest[0] (d+1) keep] } keep res):=by
 match rest,hr,h with
 | x :: rt,_,h=>exact h.step hn
theorem restK_prog (x:ByteArray) (d:Nat) (keep:Int) (hk:0<=keep):restK x (d+1) keep=(x.extract (min (d+1) x.size) x.size).extract 0 (min keep.toNat (x.extract (min (d+1) x.size) x.size).size):=by
 rcases Nat.lt_or_ge d x.size with h | h
 ·rw [Nat.min_eq_left (by omega),restK]
  congr 1
  rw [ByteArray.size_extract]
  omega
 ·rw [restK_ge (by omega),Nat.min_eq_right (by omega)]
  have:∀ y:ByteArray,y.size=0->(⟨#[]⟩:ByteArray)=y:=fun y hy=>by
   apply ByteArray.ext
   apply Array.ext
   ·exact hy.symm
   ·intro i h1
    simp at h1
  exact this _ (by simp)
end Go.Proofs.YtgoeenodllmdpaaGreat.B

namespace Go.Proofs.YtgoeenodllmdpaaGreat.B
open Go.RowKit Go.Proofs
set_option linter.unusedVariables false
set_option linter.unusedSimpArgs false
variable {E:Env}
def BaseS (L:Nat) (keep:Int) (t:Tm):Prop:=t 1=.int .i64 keep/\t 4=.pt L 0 0/\t 5=.pt (L+1) 0 0/\t 6=.pt (L+2) 0 0/\t 7=.pt (L+3) 0 0/\t 8=.pt (L+4) 0 0
def OutI (H H':Hp) (t:Tm) (keep:Int) (res:Sv) (m:Nat):Prop:=∃ (k N:Nat) (Q:List Fk) (s:Sv) (x1 x2 x3 r w:AV),mu (Q.drop k)=m/\k<=Q.length/\BaseS H.length keep t/\t 9=w/\t 10=.int .i64 k/\SvS H H' x1 x2 x3 r s/\Qu H H' w Q/\SvOk N Q k s keep res
def markI (b:Bool):Int:=if b=true then 49 else 48
def InnI (H H':Hp) (t:Tm) (keep:Int) (res:Sv) (k N d:Nat) (T:List Fk) (m:Nat):Prop:=∃ (rest:List ByteArray) (b:Bool) (Q:List Fk) (s:Sv) (x1 x2 x3 r w u:AV),rest.length=m/\BaseS H.length keep t/\t 9=w/\t 10=.int .i64 k/\t 11=u/\t 12=.int .i64 d/\t 13=.int .u8 (markI b) /\
 Strs H' u rest/\(∀ x,u.of x->x<H.length)/\SvS H H' x1 x2 x3 r s/\Qu H H' w Q/\InOk N k d rest b Q T s keep res
theorem W_then {C:CallP} (hm:CMono C) {c:CC} {K:Tm->Hp->Prop} {Q:Ex->Tm->Hp->Prop} {t:Tm} {H:Hp} (I:Tm->Hp->Prop) (h1:W C c (thenX I Q) t H) (h2:∀ t H,I t H->K t H):W C c (thenX K Q) t H:=by
 refine W_mono hm c _ _ t H (fun e t' H' h=>?_) h1
 cases e with
 | normal=>exact h2 _ _ h
 | exit id=>exact h
 | ret=>exact h
theorem wS {H0 H:Hp} {o:Nat} {x:AV} {bs:List Int} (hb:Bld H o x bs) (ho:H0.length<=o) (hx:∀ y,x.of y->H0.length<=y):(∀ y,(y=o\/x.of y)->H0.length<=y)/\(∀ y ob,(y=o\/x.of y)->H.at y=some ob->ob.ety≠169):=by
 constructor
 ·rintro y (h | h)
  ·omega
  ·exact hx y h
 ·rintro y ob (h | h) hh
  ·subst h
   obtain⟨_,k⟩:=hb.ob2
   rw [k] at hh
   cases hh
   simp
  ·obtain⟨_,k⟩:=hb.obj h
   rw [k] at hh
   cases hh
   simp
theorem mark_eq (b:Bool):((if b=true then (49:UInt8) else 48).toNat:Int)=markI b:=by cases b<;>rfl
set_option maxHeartbeats 1600000 in
theorem sieveOf_ok (a:AV) (ks:List ByteArray) (keep:Int) (H:Hp) (ha:Strs H a ks) (hk:keysOk ks=true) (hkp:0<=keep/\keep<=5) :
  AC Tryz.prog E 79 [a,.int .i64 keep] H (fun v H'=>HLe H H'/\∃ r,v=svAV (sieveR ks keep) r/\OwnS H H' r (sieveR ks keep).r):=by
 refine AC_by fol (tC_le tabJ_ok) h_impl_sieveOf ?_
 simp [c_impl_sieveOf,Rows.cells ha,Rows.cells1 ha,Rows.one ha]
 generalize hres:sieveR ks keep=res
 refine W_for (fun m t H'=>OutI H H' t keep res m) (mu [(ks,0)]) ?_ (tC_mono AC_mono) ?_
 ·refine⟨0,500,[(ks,0)],⟨⟨#[]⟩,⟨#[]⟩,⟨#[]⟩,[],keep⟩,.nils,.nils,.nils,.nils,_,by simp,by simp,⟨by simp,by simp,by simp,by simp,by simp,by simp⟩,by simp; rfl,by simp,?_,?_,by rw [<- hres]; exact SvOk.start hk⟩
  ·exact⟨by simp,⟨.nilp,by simp,.inl rfl,.inl ⟨rfl,rfl⟩,fun _=>rfl⟩,⟨.nilp,by simp,.inl rfl,.inl ⟨rfl,rfl⟩,fun _=>rfl⟩,⟨.nilp,by simp,.inl rfl,.inl ⟨rfl,rfl⟩,fun _=>rfl⟩,by simp,OwnM.nils,by simp,by simp,by simp,HLe.self _ _⟩
  ·exact⟨[[a,.int .i64 0]],Own.obj (by simp) rfl,⟨⟨a,rfl,ha.le (HLe.self _ _),fun x hx=>Rows.lt ha hx⟩,trivial⟩,fun y hy=>by simp at hy; omega⟩
 rintro m t H' ⟨k,N,Q,s,x1,x2,x3,r,w,hm,hkq,⟨h1,h4,h5,h6,h7,h8⟩,h9,h10,hS,hQ,hO⟩
 obtain⟨lw,sw⟩:=hQ.len
 simp [h1,h4,h5,h6,h7,h8,h9,h10,lw,sw]
 refine c_split (fun hq=>?_) (fun hq=>?_)<;>simp at hq
 ·obtain⟨n,hI,hmu⟩:=hO.step hq
  obtain⟨o,ob,u,rfl,b1,b2,b3,hu,huo⟩:=hQ.get hq
  have hw:=wrapN (i:=k) (by have:=hO.ql; omega)
  simp [h1,h4,h5,h6,h7,h8,h9,h10,hq,b1,b2,b3]
  generalize hT:Q.drop (k+1)++subs Q[k].2 (brs Q[k].2 Q[k].1)=T at hI hmu
  generalize Q[k].2=d at hI hmu
  generalize hks:Q[k].1=ks1 at hu hI
  refine W_for (fun m t H'=>InnI H H' t keep res k n d T m) ks1.length ?_ (tC_mono AC_mono) ?_
  ·exact⟨ks1,true,Q,s,x1,x2,x3,r,_,u,rfl,⟨by simp [h1],by simp [h4],by simp [h5],by simp [h6],by simp [h7],by simp [h8]⟩,by simp [h9],by simp [h10],by simp,by simp,by simp [markI],hu,huo,hS,hQ,hI⟩
  clear h1 h4 h5 h6 h7 h8 h9 h10 hS hQ hI hu b1
  rintro m2 t H2 ⟨rest,b,Q,s,x1,x2,x3,r,w,u,hm2,⟨h1,h4,h5,h6,h7,h8⟩,h9,h10,h11,h12,h13,hu,huo,hS,hQ,hI⟩
  simp [h1,h4,h5,h6,h7,h8,h9,h10,h11,h12,h13,hu.len,hu.slc]
  refine c_split (fun hq2=>?_) (fun hq2=>?_)<;>simp at hq2
  ·have hkx:∀ y∈rest,d<=y.size/\y.size<4611686018427387904:=fun y hy=>⟨hI.sz y hy,by have:=keyOk_size (hI.sp.ok y hy); omega⟩
   have hrl:rest.length<=12000:=by have:=hI.sl; omega
   obtain⟨o0,i0,ob0,rfl,c1,c2,c3⟩:=hu.get hq2
   rw [Nat.add_zero] at c3
   obtain⟨x,hx⟩:∃ x,x=rest[0]:=⟨_,rfl⟩
   rw [<- hx] at c3
   have hkx0:=hkx x (by rw [hx]; exact List.getElem_mem hq2)
   simp
   refine W_then (tC_mono AC_mono) (fun t H'=>H'=H2/\BaseS H.length keep t/\t 9=w/\t 10=.int .i64 k/\t 11=.sl o0 i0 rest.length/\t 12=.int .i64 d/\t 13=.int .u8 (markI b)/\t 14=.int .i64 (cnt d rest:Nat)) ?_ ?_
   ·refine W_for (fun m t H'=>∃ n':Nat,rest.length-n'=m/\0<n'/\n'<=rest.length/\(∀ (j:Nat) (h:j<rest.length),j<n'->letter rest[j] d=letter rest[0] d)/\BaseS H.length keep t/\t 9=w/\t 10=.int .i64 k/\t 11=.sl o0 i0 rest.length/\t 12=.int .i64 d/\t 13=.int .u8 (markI b)/\t 14=.int .i64 n'/\H'=H2) (rest.length-1) ?_ (tC_mono AC_mono) ?_
    ·refine⟨1,rfl,by omega,by omega,fun j h hj=>?_,⟨by simp [h1],by simp [h4],by simp [h5],by simp [h6],by simp [h7],by simp [h8]⟩,by simp [h9],by simp [h10],by simp [h11],by simp [h12],by simp [h13],by simp,rfl⟩
     have:j=0:=by omega
     subst this
     rfl
    clear h1 h4 h5 h6 h7 h8 h9 h10 h11 h12 h13
    rintro m3 t H3 ⟨n',hm3,hn0,hnl,hlt,⟨h1,h4,h5,h6,h7,h8⟩,h9,h10,h11,h12,h13,h14,rfl⟩
    by_cases hn:n'<rest.length
    ·obtain⟨o1,i1,ob1,e1,b1,b2,b3⟩:=hu.get hn
     cases e1
     rw [c1] at b1
     cases b1
     have hw2:=wrapN (i:=n') (by omega)
     obtain⟨yy,hyy⟩:∃ yy,yy=rest[n']:=⟨_,rfl⟩
     rw [<- hyy] at b3
     have hky:=hkx yy (by rw [hyy]; exact List.getElem_mem hn)
     simp [h1,h4,h5,h6,h7,h8,h9,h10,h11,h12,h13,h14,hn,hq2,c1,c2,b3,c3]
     refine cg_use (label_ok yy d H3 hky.1 hky.2) ?_
     simp [h1,h4,h5,h6,h7,h8,h9,h10,h11,h12,h13,h14,hn,hq2,c1,c2,b3,c3]
     refine cg_use (label_ok x d H3 hkx0.1 hkx0.2) ?_
     by_cases hl:letter yy d=letter x d
     ·simp [hl,h1,h4,h5,h6,h7,h8,h9,h10,h11,h12,h13,h14,hw2]
      refine⟨rest.length-(n'+1),by omega,n'+1,rfl,by omega,by omega,fun j hj hjn=>?_,⟨by simp [h1],by simp [h4],by simp [h5],by simp [h6],by simp [h7],by simp [h8]⟩,by omega⟩
      rcases Nat.lt_or_ge j n' with h | h
      ·exact hlt j hj h
      ·have:j=n':=by omega
       subst this
       rw [<- hyy,<- hx]
       exact hl
     ·have hl2:¬(letter yy d).toNat=(letter x d).toNat:=fun h=>hl (UInt8.toNat_inj.1 h)
      have hl3:¬((letter yy d).toNat:Int)=((letter x d).toNat:Int):=fun h=>hl2 (by omega)
      have hc:cnt d rest=n':=cnt_eq' hq2 hn0 hnl hlt (fun _=>by rw [<- hyy,<- hx]; exact hl)
      simp [hl3,h1,h4,h5,h6,h7,h8,h9,h10,h11,h12,h13,h14]
      exact⟨⟨by simp [h1],by simp [h4],by simp [h5],by simp [h6],by simp [h7],by simp [h8]⟩,by rw [hc]⟩
    ·have l11:=hu.len
     have hc:cnt d rest=n':=cnt_eq' hq2 hn0 hnl hlt (fun h=>absurd h hn)
     simp [h1,h4,h5,h6,h7,h8,h9,h10,h11,h12,h13,h14,hn]
     exact⟨⟨by simp [h1],by simp [h4],by simp [h5],by simp [h6],by simp [h7],by simp [h8]⟩,by rw [hc]⟩
   ·clear h1 h4 h5 h6 h7 h8 h9 h10 h11 h12 h13
    rintro t H3 ⟨rfl,⟨h1,h4,h5,h6,h7,h8⟩,h9,h10,h11,h12,h13,h14⟩
    obtain⟨n',hn'⟩:∃ n',n'=cnt d rest:=⟨_,rfl⟩
    rw [<- hn'] at h14
    obtain⟨st1,st2⟩:=InOk.step' hq2 hI hn'
    have hcl:n'<=rest.length:=by
     match rest,hn' with
     | [],h=>simp [h,cnt]
     | y :: ys,h =>
      have:=List.takeWhile_sublist (fun z=>letter z d==letter y d) (l:=ys) |>.length_le
      simp only [cnt] at h
      simp only [List.length_cons]
      omega
    have hsl:=hI.sl
    have hsm:=hI.sm
    have hsf:=hI.sf
    have hql:=hI.ql
    have hrr:=hI.rl
    rw [<- hx] at st1 st2
    simp [h1,h4,h5,h6,h7,h8,h9,h10,h11,h12,h13,h14,hq2,c1,c2,c3]
    refine cg_use (label_ok x d H3 hkx0.1 hkx0.2) ?_
    simp [h5]
    refine cg_ex (WriteByte_ok (H.length+1) x1 (bytesOf s.l) _ H3 hS.b1 (by rw [bytesOf_len]; omega)) ?_
    rintro v H4 ⟨rfl,y1,hb4,hf4,hy4⟩
    obtain⟨q1,q2⟩:=wS hS.b1 (H0:=H) (by omega) (fun y hy=>(hS.n1 y hy).1)
    have hS4:=hS.w1 (c:=letter x d) hb4 hf4 hy4
    have hu4:=hu.old huo hf4 q1
    have hQ4:=hQ.fr hf4 q1 q2
    simp [h1,h4,h5,h6,h7,h8,h9,h10,h11,h12,h13,h14]
    refine cg_ex (WriteByte_ok (H.length+3) x3 (bytesOf s.f) _ H4 hS4.b3 (by rw [bytesOf_len]; omega)) ?_
    rintro v H5 ⟨rfl,y3,hb5,hf5,hy5⟩
    obtain⟨q1,q2⟩:=wS hS4.b3 (H0:=H) (by omega) (fun y hy=>hS4.n3 y hy)
    have hS5:=hS4.w3 (c:=if b=true then 49 else 48) (by rw [mark_eq]; exact hb5) hf5 hy5
    have hu5:=hu4.old huo hf5 q1
    have hQ5:=hQ4.fr hf5 q1 q2
    simp [h1,h4,h5,h6,h7,h8,h9,h10,h11,h12,h13,h14]
    have wd:=wrapN (i:=d) (by have:=hI.dp; omega)
    have hstr:∀ {H:Hp} {u:AV} {l:List ByteArray},Strs H u l->Rows 1 H u (l.map strRow):=fun h=>h
    have n0:0<n':=by
     rw [hn']
     match rest,hq2 with
     | y :: ys,_=>simp only [cnt]; omega
    have hdl:(rest.drop n').length<m2:=by rw [List.length_drop]; omega
    by_cases hmany:1<n'
    ·have hI6:=st1 hmany
     have hmi:(1:Int)<(n':Int):=by omega
     simp [hmi,h1,h4,h5,h6,h7,h8,h9,h10,h11,h12,h13,h14]
     refine cg_ex (WriteByte_ok (H.length+2) x2 (bytesOf s.m) _ H5 hS5.b2 (by rw [bytesOf_len]; omega)) ?_
     rintro v H6 ⟨rfl,y2,hb6,hf6,hy6⟩
     obtain⟨q1,q2⟩:=wS hS5.b2 (H0:=H) (by omega) (fun y hy=>(hS5.n2 y hy).1)
     have hS6:=hS5.w2 (c:=49) hb6 hf6 hy6
     have hu6:=hu5.old huo hf6 q1
     have hQ6:=hQ5.fr hf6 q1 q2
     simp [h1,h4,h5,h6,h7,h8,h9,h10,h11,h12,h13,h14]
     refine cutG_upto (hstr hu6) n' rfl (by simpa using hcl) (fun u2 hu2 hu2o _=>?_)
     have hu2':Strs H6 u2 (rest.take n'):=by
      unfold Strs
      rw [List.map_take]
      exact hu2
     simp [h1,h4,h5,h6,h7,h8,h9,h10,h11,h12,h13,h14,wd,Rows.cells hu2,Rows.cells1 hu2,Rows.one hu2]
     obtain⟨rows,p1,p2,p3⟩:=hQ6
     have p4:=p2.length
     refine appG_one (R:=rows) p1 (by omega) (fun v7 H7 g1 g2 g3=>?_)
     have hS7:=hS6.fr g2 p3 (fun y ob hy ho=>by have:=p1.ety hy ho; rw [this]; simp)
     have hu7:=hu6.old huo g2 p3
     have hQ7:Qu H H7 v7 (Q++[(rest.take n',d+1)]):=by
      refine⟨_,g1,All2.append (All2.mono (fun row f h=>?_) p2) ⟨⟨u2,by simp,hu2'.old (fun y hy=>huo y (hu2o y hy)) g2 p3,fun y hy=>huo y (hu2o y hy)⟩,trivial⟩,fun y hy=>?_⟩
      ·obtain⟨z,z1,z2,z3⟩:=h
       exact⟨z,z1,z2.old z3 g2 p3,z3⟩
      ·rcases g3 y hy with h | h
       ·exact p3 y h
       ·have:=hS6.le.1
        omega
     simp [h1,h4,h5,h6,h7,h8,h9,h10,h11,h12,h13,h14]
     refine cutG_from (hstr hu7) n' rfl (by simpa using hcl) (fun u8 hu8 hu8o=>?_)
     have hu8':Strs H7 u8 (rest.drop n'):=by
      unfold Strs
      rw [List.map_drop]
      exact hu8
     simp [h1,h4,h5,h6,h7,h8,h9,h10,h11,h12,h13,h14]
     exact⟨_,by simpa using hdl,rest.drop n',false,Q++[(rest.take n',d+1)],_,y1,y2,y3,r,v7,u8,by simp,⟨by simp [h1],by simp [h4],by simp [h5],by simp [h6],by simp [h7],by simp [h8]⟩,by simp,by simp [h10],by simp,by simp [h12],by simp [markI],hu8',fun y hy=>huo y (hu8o y hy),hS7,hQ7,hI6⟩
    ·have hI6:=st2 hmany
     have hmi:¬(1:Int)<(n':Int):=by omega
     simp [hmi,h1,h4,h5,h6,h7,h8,h9,h10,h11,h12,h13,h14]
     refine cg_ex (WriteByte_ok (H.length+2) x2 (bytesOf s.m) _ H5 hS5.b2 (by rw [bytesOf_len]; omega)) ?_
     rintro v H6 ⟨rfl,y2,hb6,hf6,hy6⟩
     obtain⟨q1,q2⟩:=wS hS5.b2 (H0:=H) (by omega) (fun y hy=>(hS5.n2 y hy).1)
     have hS6:=hS5.w2 (c:=48) hb6 hf6 hy6
     have hu6:=hu5.old huo hf6 q1
     have hQ6:=hQ5.fr hf6 q1 q2
     obtain⟨o6,i6,ob6,e6,d1,d2,d3⟩:=hu6.get hq2
     cases e6
     rw [Nat.add_zero,<- hx] at d3
     have so6:=hS6.so
     have hkp2:s.k=keep:=hI.kp
     simp only [hkp2] at so6
     have u6:=Hp.at_lt so6
     obtain⟨p1,hp1⟩:∃ p1,p1=min (d+1) x.size:=⟨_,rfl⟩
     obtain⟨p2,hp2⟩:∃ p2,p2=min keep.toNat (x.size-p1):=⟨_,rfl⟩
     have hm1:(if (x.size:Int)<(d:Int)+1 then (x.size:Int) else (d:Int)+1)=(p1:Int):=by split<;>omega
     have hm2':(if ((x.size-p1:Nat):Int)<keep then ((x.size-p1:Nat):Int) else keep)=(p2:Int):=by split<;>omega
     have hp1l:(p1:Int)<=x.size:=by omega
     have hp1n:p1<=x.size:=by omega
     have hp2l:(p2:Int)<=((x.size-p1:Nat):Int):=by omega
     have hp2n:p2<=x.size-p1:=by omega
     simp [h1,h4,h5,h6,h7,h8,h9,h10,h11,h12,h13,h14,hq2,d1,d2,d3,wd,hm1,hm2',hp1l,hp1n,hp2l,hp2n,so6,Hp.at_app,u6]
     have hrk:restK x (d+1) keep=(x.extract p1 x.size).extract 0 p2:=by
      rw [restK_prog x d keep hkp.1,<- hp1,ByteArray.size_extract,Nat.min_self,<- hp2]
     rw [<- hrk]
     refine appG_add (y:=restK x (d+1) keep) (row:=strRow) hS6.ro hS6.le (by simp only; omega) rfl (fun v7 H7 g1 g2 g3 g4=>?_)
     have hS8:=hS6.wr g3 g2
     have so7:=g3.2 _ _ (hS6.ro.notS (e2:=0) so6 (by simp)) so6
     have u7:=Hp.at_lt so7
     have hown:one v7=true:=Rows.one g2.1.rows
     simp only [hkp2] at hS8
     simp [h1,h4,h5,h6,h7,h8,h9,h10,h11,h12,h13,h14,so7,u7,Rows.cells g2.1.rows,Rows.cells1 g2.1.rows]
     have hu8:=(hu6.old huo g3 hS6.ro.2).old huo (Fr.one H7 (H.length+4) (some ⟨[[.str ⟨#[]⟩,.str ⟨#[]⟩,.str ⟨#[]⟩,v7,.int .i64 keep]],5,66,false⟩)) (fun y hy=>by omega)
     have hQ7:=hQ6.fr g3 hS6.ro.2 (fun y ob hy ho=>by have:=hS6.ro.1.ety hy ho; rw [this]; simp)
     have hQ8:=hQ7.fr (Fr.one H7 (H.length+4) (some ⟨[[.str ⟨#[]⟩,.str ⟨#[]⟩,.str ⟨#[]⟩,v7,.int .i64 keep]],5,66,false⟩)) (fun y hy=>by omega) (fun y ob hy ho=>by rw [hy,so7] at ho; cases ho; simp)
     refine cutG_from (hstr hu8) n' rfl (by simpa using hcl) (fun u9 hu9 hu9o=>?_)
     have hu9':Strs (List.set H7 (H.length+4) (some ⟨[[.str ⟨#[]⟩,.str ⟨#[]⟩,.str ⟨#[]⟩,v7,.int .i64 keep]],5,66,false⟩)) u9 (rest.drop n'):=by
      unfold Strs
      rw [List.map_drop]
      exact hu9
     simp [h1,h4,h5,h6,h7,h8,h9,h10,h11,h12,h13,h14]
     exact⟨_,by simpa using hdl,rest.drop n',false,Q,_,y1,y2,y3,v7,w,u9,by simp,⟨by simp [h1],by simp [h4],by simp [h5],by simp [h6],by simp [h7],by simp [h8]⟩,by simp [h9],by simp [h10],by simp,by simp [h12],by simp [markI],hu9',fun y hy=>huo y (hu9o y hy),hS8,hQ8,by rw [hkp2] at hI6; exact hI6⟩
  ·have e:rest=[]:=List.length_eq_zero_iff.1 (by simpa using hq2)
   subst e
   obtain⟨hO2,hTe⟩:=hI.done
   subst hTe
   simp [h1,h4,h5,h6,h7,h8,h9,h10,hw]
   exact⟨_,by rw [<- hm]; exact hmu,k+1,n,Q,s,x1,x2,x3,r,w,rfl,hI.kq,⟨by simp [h1],by simp [h4],by simp [h5],by simp [h6],by simp [h7],by simp [h8]⟩,by simp [h9],by simp,hS,hQ,hO2⟩
 ·have hk2:k=Q.length:=by omega
  subst hk2
  have hres2:=hO.todo
  rw [List.drop_length,bfs_nil] at hres2
  subst hres2
  obtain⟨z,b1,b2,b3,so,ro,n1,n2,n3,le⟩:=hS
  have hsl:=hO.sl
  have hsm:=hO.sm
  have hsf:=hO.sf
  simp [h1,h4,h5,h6,h7,h8,h9,h10]
  refine cg_ex (BString_ok (H.length+1) x1 s.l H' b1 (by omega)) ?_
  rintro v H2 ⟨rfl,f2⟩
  have z2:=f2.2 _ _ (b1.nother z (by simp)) z
  have so2:=f2.2 _ _ (b1.nother so (by simp)) so
  have b22:=b2.fr f2 (by obtain⟨_,k⟩:=b2.ob2; exact b1.nother k (by simp)) (fun y hy h=>(n1 y h).2.1 hy)
  have b32:=b3.fr f2 (by obtain⟨_,k⟩:=b3.ob2; exact b1.nother k (by simp)) (fun y hy h=>(n1 y h).2.2 hy)
  have ro2:=ro.fr f2 (fun y hy h=>by obtain⟨_,k⟩:=b1.obj h; exact absurd (ro.1.ety hy k) (by simp))
  have le2:=le.fr_le f2 (fun y hy=>(n1 y hy).1)
  simp [h1,h4,h5,h6,h7,h8,h9,h10]
  refine cg_ex (BString_ok (H.length+2) x2 s.m H2 b22 (by omega)) ?_
  rintro v H3 ⟨rfl,f3⟩
  have z3:=f3.2 _ _ (b22.nother z2 (by simp)) z2
  have so3:=f3.2 _ _ (b22.nother so2 (by simp)) so2
  have b33:=b32.fr f3 (by obtain⟨_,k⟩:=b32.ob2; exact b22.nother k (by simp)) (fun y hy h=>(n2 y h).2 hy)
  have ro3:=ro2.fr f3 (fun y hy h=>by obtain⟨_,k⟩:=b22.obj h; exact absurd (ro2.1.ety hy k) (by simp))
  have le3:=le2.fr_le f3 (fun y hy=>(n2 y hy).1)
  simp [h1,h4,h5,h6,h7,h8,h9,h10]
  refine cg_ex (BString_ok (H.length+3) x3 s.f H3 b33 (by omega)) ?_
  rintro v H4 ⟨rfl,f4⟩
  have z4:=f4.2 _ _ (b33.nother z3 (by simp)) z3
  have so4:=f4.2 _ _ (b33.nother so3 (by simp)) so3
  have ro4:=ro3.fr f4 (fun y hy h=>by obtain⟨_,k⟩:=b33.obj h; exact absurd (ro3.1.ety hy k) (by simp))
  have le4:=le3.fr_le f4 (fun y hy=>n3 y hy)
  have u0:=Hp.at_lt z4
  have u4:=Hp.at_lt so4
  have n04:H.length≠H.length+4:=by omega
  have n40:H.length+4≠H.length:=by omega
  simp [h1,h4,h5,h6,h7,h8,h9,h10,z4,so4,u0,u4,Hp.at_set,Hp.at_set_ne,n04,n40,Rows.one ro4.1.rows]
  refine⟨(le4.set (by omega) _).set (Nat.le_refl _) _,r,rfl,ro4.fr (((Fr.refl (fun y=>y=H.length\/y=H.length+4) H4).set (.inl (.inr rfl)) _).set (.inl (.inl rfl)) _) (fun y hy h=>?_)⟩
  rcases h with h | h<;>rw [h] at hy
  ·exact absurd (ro4.1.ety hy z4) (by simp)
  ·exact absurd (ro4.1.ety hy so4) (by simp)
theorem implSieveOf_ok (a:AV) (ks:List ByteArray) (keep:Int) (H:Hp) (ha:Strs H a ks) (hs:∀ k∈ks,k.size<4611686018427387904) (hn:ks.length<4611686018427387904) :
  AC Tryz.prog E 92 [a,.int .i64 keep] H (fun v H'=>HLe H H'/\SvRet H H' v (sieveO ks keep)):=by
 refine AC_by fol (tC_le tabJ_ok) h_impl_SieveOf ?_
 obtain⟨H1,hH1⟩:∃ H1:Hp,H1=H++[some ⟨[[.str ⟨#[]⟩,.str ⟨#[]⟩,.str ⟨#[]⟩,.nils,.int .i64 0]],5,66,false⟩]:=⟨_,rfl⟩
 have hle1:HLe H H1:=by rw [hH1]; exact HLe.self _ _
 have b0:H1.at H.length=some ⟨[[.str ⟨#[]⟩,.str ⟨#[]⟩,.str ⟨#[]⟩,.nils,.int .i64 0]],5,66,false⟩:=by rw [hH1]; simp
 have u0:=Hp.at_lt b0
 simp [c_impl_SieveOf,<- hH1]
 refine cg_use (implKeysOk_ok a ks H1 (ha.le hle1) hs hn) ?_
 cases hk:keysOk ks with
 | false =>
  simp [b0,u0,Hp.at_set,sieveO,hk,SvRet]
  exact hle1.set (Nat.le_refl _) _
 | true =>
 simp
 refine cg_use (isKeep_ok keep H1) ?_
 by_cases hkp:0<=keep/\keep<=5
 ·simp [hkp]
  refine cg_ex (sieveOf_ok a ks keep H1 (ha.le hle1) hk hkp) ?_
  rintro v H2 ⟨hle2,r,rfl,hr⟩
  have b2:=hle2.2 _ _ b0
  have u2:=Hp.at_lt b2
  have he:sieveO ks keep=some (sieveR ks keep):=by simp [sieveO,hk,hkp]
  simp [svAV,b2,u2,Hp.at_set,Rows.one hr.1.rows,he,SvRet]
  refine⟨(hle1.trans hle2).set (Nat.le_refl _) _,⟨(hr.base hle1.1).fr (Fr.one _ _ _) (fun y hy h=>?_),sieveO_len he⟩⟩
  rw [h] at hy
  exact absurd (hr.1.ety hy b2) (by simp)
 ·have hkp':decide (0<=keep/\keep<=5)=false:=decide_eq_false hkp
  have he:sieveO ks keep=none:=by
   unfold sieveO
   rw [if_neg (fun h=>hkp h.2)]
  rw [hkp']
  simp [b0,u0,Hp.at_set,he,SvRet]
  exact hle1.set (Nat.le_refl _) _
end Go.Proofs.YtgoeenodllmdpaaGreat.B

namespace Go.Proofs.YtgoeenodllmdpaaGreat.B
open Go.RowKit Go.Proofs
set_option linter.unusedVariables false
set_option linter.unusedSimpArgs false
variable {E:Env}
def dropB (b:Bool):List Ent->List Ent
 | []=>[]
 | e :: es=>if (!b||(!e.gone||!lastB e es))=true then e :: dropB b es else dropB b es
theorem dropB_false:∀ es,dropB false es=es
 | []=>rfl
 | e :: es=>by simp [dropB,dropB_false es]
theorem dropB_true:∀ es,dropB true es=drop1 es
 | []=>rfl
 | e :: es=>by simp [dropB,drop1,dropB_true es]
theorem dropB_len (b:Bool) (es:List Ent):(dropB b es).length<=es.length:=by
 cases b
 ·rw [dropB_false]
  exact Nat.le_refl _
 ·rw [dropB_true]
  exact drop1_len es
theorem betw_seen (ts:List Int) (q e:Ent) (h:q.key=e.key):seenB ts (some q) e=ts.any (betw e q):=by
 simp [seenB,h,betw]
 rfl
theorem RunTrim_ok (a b:AV) (r:List Ent) (ts:List Int) (bot:Bool) (H:Hp) (ha:Ents H a r) (hb:Ints H b ts) (hr:EsB r) (ht:ts.length<1099511627776) :
  AC Tryz.prog E 263 [a,b,.bool bot] H (fun v H'=>HLe H H'/\OwnE H H' v (trimI r ts bot)):=by
 refine AC_by fol (tC_le tabJ_ok) h_impl_RunTrim ?_
 have hn:=hr.1
 have l1:=ha.len
 simp [c_impl_RunTrim]
 refine cg_use (implRunOk_ok a r H ha hr.2.short (by omega)) ?_
 cases hro:runOk r with
 | false =>
  simp [trimI,hro]
  exact OwnM.nils
 | true =>
 have htr:trimI r ts bot=trimR r ts bot:=by simp [trimI,hro]
 rw [htr]
 simp [l1,ha.slc]
 refine W_for (fun m t H'=>∃ i out v,i+m=r.length/\t 0=a/\t 1=b/\t 2=.bool bot/\t 7=v/\t 17=a/\t 18=.int .i64 r.length/\t 19=.int .i64 (i:Nat)/\HLe H H'/\OwnE H H' v out/\out++trim1 ts (prev r i) (r.drop i)=trim1 ts none r) r.length ?_ (tC_mono AC_mono) ?_
 ·exact⟨0,[],.nils,by simp,by simp,by simp,by simp,by simp,by simp,by simp,by simp,HLe.refl _,OwnM.nils,by simp [prev]⟩
 rintro m t H' ⟨i,out,v,him,h0,h1,h2,h7,h17,h18,h19,hle,hv,hI⟩
 simp [h0,h1,h2,h7,h17,h18,h19]
 refine c_split (fun hq=>?_) (fun hq=>?_)<;>simp at hq
 ·have hw:=wrapN (i:=i) (by omega)
  have hol:out.length<=r.length:=by
   have:=congrArg List.length hI
   simp only [List.length_append] at this
   have:=trim1_len ts none r
   omega
  obtain⟨o,i0,ob,rfl,aH,a2,a3⟩:=ha.get hq
  have a1:=hle.2 _ _ aH
  rw [List.drop_eq_getElem_cons hq] at hI
  simp only [trim1] at hI
  obtain⟨G,hG⟩:∃ G:Hp,G=H'++[some ⟨[[.str r[i].key,.int .i64 r[i].val,.bool r[i].gone,.int .i64 r[i].time]],4,99,false⟩]:=⟨_,rfl⟩
  have hleG:HLe H' G:=by rw [hG]; exact HLe.self _ _
  have bG:G.at H'.length=some ⟨[[.str r[i].key,.int .i64 r[i].val,.bool r[i].gone,.int .i64 r[i].time]],4,99,false⟩:=by rw [hG]; simp
  have u1:=Hp.at_lt a1
  have a1G:=hleG.2 _ _ a1
  have hvG:=hv.le hleG
  have hleH:=hle.trans hleG
  rcases Nat.eq_zero_or_pos i with rfl | hp
  ·rw [Nat.add_zero] at a3
   rw [if_pos (by simp [prev,seenB])] at hI
   simp [h0,h1,h2,h7,h17,h18,h19,hq,a1,a2,a3,hw,Hp.at_app,u1,<- hG,bG]
   refine appG_add (y:=r[0]) hvG hleH (by omega) rfl (fun v3 H3 g1 g2 g3 g4=>?_)
   simp [h0,h1,h2,h7,h17,h18,h19,wrap1]
   exact⟨m-1,by omega,1,by omega,by omega,g1,out++[r[0]],g2,by rw [prev_succ hq]; simpa using hI⟩
  ·have hlt:i-1<r.length:=by omega
   have hw1:=wrapP hp (by omega)
   obtain⟨o2,i2,ob2,e2,b1,b2,b3⟩:=ha.get hlt
   cases e2
   rw [aH] at b1
   cases b1
   have hi0:¬i=0:=by omega
   rw [prev_pos hp (by omega)] at hI
   by_cases hk:r[i-1].key=r[i].key
   ·rw [betw_seen ts _ _ hk] at hI
    simp [h0,h1,h2,h7,h17,h18,h19,hq,hlt,hi0,a1,a2,a3,b3,hw,hw1,hk,Hp.at_app,u1,<- hG,bG,a1G]
    have sk:=seen_ok (E:=E) b ts r[i] r[i-1] G (hb.le hleH) ht
    simp only [entRow,hk] at sk
    refine cg_use sk ?_
    cases hs:ts.any (betw r[i] r[i-1]) with
    | false =>
     rw [if_neg (by simp [hs])] at hI
     simp [h0,h1,h2,h7,h17,h18,h19,hw]
     exact⟨m-1,by omega,i+1,by omega,by omega,hleH,out,hvG,by rw [prev_succ hq]; exact hI⟩
    | true =>
     rw [if_pos hs] at hI
     simp [h0,h1,h2,h7,h17,h18,h19,bG]
     refine appG_add (y:=r[i]) hvG hleH (by omega) rfl (fun v3 H3 g1 g2 g3 g4=>?_)
     simp [h0,h1,h2,h7,h17,h18,h19,hw]
     exact⟨m-1,by omega,i+1,by omega,by omega,g1,out++[r[i]],g2,by rw [prev_succ hq]; simpa using hI⟩
   ·rw [if_pos (by simp [seenB,hk])] at hI
    simp [h0,h1,h2,h7,h17,h18,h19,hq,hlt,hi0,a1,a2,a3,b3,hw,hw1,hk,Hp.at_app,u1,<- hG,bG,a1G]
    refine appG_add (y:=r[i]) hvG hleH (by omega) rfl (fun v3 H3 g1 g2 g3 g4=>?_)
    simp [h0,h1,h2,h7,h17,h18,h19,hw]
    exact⟨m-1,by omega,i+1,by omega,by omega,g1,out++[r[i]],g2,by rw [prev_succ hq]; simpa using hI⟩
 ·have:i=r.length:=by omega
  subst this
  rw [List.drop_length] at hI
  simp only [trim1,List.append_nil] at hI
  subst hI
  have hx:=trim1_len ts none r
  have l7:=hv.len
  have htr2:trimR r ts bot=dropB bot (trim1 ts none r):=by
   cases bot
   ·rw [dropB_false]
    rfl
   ·rw [dropB_true]
    rfl
  rw [htr2]
  simp [h0,h1,h2,h7,h17,h18,h19,l7,hv.slc]
  generalize hx0:trim1 ts none r=x at hx hv l7
  refine W_for (fun m t H2=>∃ j out v9,j+m=x.length/\t 2=.bool bot/\t 7=v/\t 10=v9/\t 52=v/\t 53=.int .i64 x.length/\t 54=.int .i64 (j:Nat)/\HLe H' H2/\OwnE H' H2 v9 out/\out++dropB bot (x.drop j)=dropB bot x) x.length ?_ (tC_mono AC_mono) ?_
  ·exact⟨0,[],.nils,by simp,by simp [h2],by simp [h7],by simp,by simp,by simp,by simp,HLe.refl _,OwnM.nils,by simp⟩
  clear h0 h1 h2 h7 h17 h18 h19
  rintro m t H2 ⟨j,out,v9,hjm,h2,h7,h10,h52,h53,h54,hle2,hv9,hI⟩
  simp [h2,h7,h10,h52,h53,h54]
  refine c_split (fun hq=>?_) (fun hq=>?_)<;>simp at hq
  ·have hw:=wrapN (i:=j) (by omega)
   have hol:out.length<=x.length:=by
    have:=congrArg List.length hI
    simp only [List.length_append] at this
    have:=dropB_len bot x
    omega
   obtain⟨o,i0,ob,rfl,aH,a2,a3⟩:=hv.ents.get hq
   have a1:=hle2.2 _ _ aH
   rw [List.drop_eq_getElem_cons hq] at hI
   simp only [dropB] at hI
   obtain⟨G,hG⟩:∃ G:Hp,G=H2++[some ⟨[[.str x[j].key,.int .i64 x[j].val,.bool x[j].gone,.int .i64 x[j].time]],4,99,false⟩]:=⟨_,rfl⟩
   have hleG:HLe H2 G:=by rw [hG]; exact HLe.self _ _
   have bG:G.at H2.length=some ⟨[[.str x[j].key,.int .i64 x[j].val,.bool x[j].gone,.int .i64 x[j].time]],4,99,false⟩:=by rw [hG]; simp
   have u1:=Hp.at_lt a1
   have a1G:=hleG.2 _ _ a1
   have hvG:=hv9.le hleG
   have hleH:=hle2.trans hleG
   have keep:(!bot||(!x[j].gone||!lastB x[j] (x.drop (j+1))))=true->out++[x[j]]++dropB bot (x.drop (j+1))=dropB bot x:=by
    intro h
    rw [if_pos h] at hI
    simpa using hI
   have lose:¬(!bot||(!x[j].gone||!lastB x[j] (x.drop (j+1))))=true->out++dropB bot (x.drop (j+1))=dropB bot x:=by
    intro h
    rw [if_neg h] at hI
    exact hI
   by_cases hlast:j+1<x.length
   ·obtain⟨o',i0',ob',e2,bH,b2,b3⟩:=hv.ents.get hlast
    cases e2
    rw [aH] at bH
    cases bH
    have hlb:lastB x[j] (x.drop (j+1))=!decide (x[j+1].key=x[j].key):=by
     rw [List.drop_eq_getElem_cons hlast]
     rfl
    rw [hlb] at keep lose
    have hnl:¬((j:Int)+1=x.length):=by omega
    have b3':ob.rows[i0+(j+1)]?=some [.str x[j+1].key,.int .i64 x[j+1].val,.bool x[j+1].gone,.int .i64 x[j+1].time]:=b3
    have hlast':(j:Int)+1<x.length:=by omega
    have hj0:(0:Int)<=(j:Int)+1:=by omega
    have ht1:((j:Int)+1).toNat=j+1:=by omega
    have hbt:bot=true\/bot=false:=by cases bot<;>simp
    have hgt:x[j].gone=true\/x[j].gone=false:=by cases x[j].gone<;>simp
    have done:∀ (H3:Hp) (v3:AV),HLe H' H3->OwnE H' H3 v3 (out++[x[j]])->(!bot||(!x[j].gone||!!decide (x[j+1].key=x[j].key)))=true->∃ k',k'<m/\∃ j_1:Nat,j_1+k'=x.length/\(j:Int)+1=j_1/\HLe H' H3/\∃ out,OwnE H' H3 v3 out/\out++dropB bot (x.drop j_1)=dropB bot x:=fun H3 v3 g1 g2 hk=>⟨m-1,by omega,j+1,by omega,by omega,g1,_,g2,keep hk⟩
    rcases hbt with rfl | rfl<;>rcases hgt with hg | hg<;>by_cases hk:x[j+1].key=x[j].key<;>have hG':=hG<;>simp only [hg] at hG' <;>
     simp [h2,h7,h10,h52,h53,h54,hw,hnl,hlast',hj0,ht1,hq,a1,a2,a3,b3',hg,hk,Hp.at_app,u1,<- hG',bG,a1G] <;>
     first
     | (
      refine appG_add (y:=x[j]) hvG hleH (by omega) (by simp [entRow,hg]) (fun v3 H3 g1 g2 g3 g4=>?_)
      simp [h2,h7,h10,h52,h53,h54,hw]
      exact done H3 v3 g1 g2 (by simp [hg,hk]))
     | (
      refine⟨m-1,by omega,j+1,by omega,by omega,hleH,out,hvG,?_⟩
      exact lose (by simp [hg,hk]))
   ·have hnl:((j:Int)+1=x.length):=by omega
    have hwn:IntKind.i64.wrap (x.length:Int)=x.length:=wrap64 (by omega) (by omega)
    have hjn:j+1=x.length:=by omega
    have hlb:lastB x[j] (x.drop (j+1))=true:=by
     rw [List.drop_of_length_le (by omega)]
     rfl
    rw [hlb] at keep lose
    have hbt:bot=true\/bot=false:=by cases bot<;>simp
    have hgt:x[j].gone=true\/x[j].gone=false:=by cases x[j].gone<;>simp
    rcases hbt with rfl | rfl<;>rcases hgt with hg | hg<;>have hG':=hG<;>simp only [hg] at hG' <;>
     simp [h2,h7,h10,h52,h53,h54,hw,hnl,hwn,hq,a1,a2,a3,hg,Hp.at_app,u1,<- hG',bG,a1G] <;>
     first
     | (
      refine appG_add (y:=x[j]) hvG hleH (by omega) (by simp [entRow,hg]) (fun v3 H3 g1 g2 g3 g4=>?_)
      simp [h2,h7,h10,h52,h53,h54,hw,hnl,hwn]
      exact⟨0,by omega,j+1,by omega,by omega,g1,_,g2,keep (by simp [hg])⟩)
     | (
      refine⟨m-1,by omega,j+1,by omega,by omega,hleH,out,hvG,?_⟩
      exact lose (by simp [hg]))
  ·have:j=x.length:=by omega
   subst this
   rw [List.drop_length] at hI
   simp only [dropB,List.append_nil] at hI
   subst hI
   simp [h10]
   exact⟨hle.trans hle2,by simpa using hv9.base hle.1⟩
end Go.Proofs.YtgoeenodllmdpaaGreat.B

namespace Go.Proofs.YtgoeenodllmdpaaGreat.B
open Go.RowKit Go.Proofs
set_option linter.unusedVariables false
set_option linter.unusedSimpArgs false
variable {E:Env}
def RetS (H0 H:Hp) (u:AV) (o:Option Sr):Prop:=HLe H0 H/\match o with
 | some x=>∃ w,u=.tu [w,.bool true]/\MSt H0 H w x
 | none=>u=.tu [zst,.bool false]
theorem MSt.base {H0 H1 H:Hp} {v:AV} {s:Sr} (h:MSt H1 H v s) (hl:H0.length<=H1.length):MSt H0 H v s:=by
 obtain⟨a,ol,os,d,lr,sr,rfl,ha,hlv,hlr,hsv,hsr,hd,hdo,hol,hos,hl3,hs3,hoff⟩:=h
 exact⟨a,ol,os,d,lr,sr,rfl,ha.base hl,hlv,hlr,hsv,hsr,hd.base hl,hdo,Nat.le_trans hl hol,Nat.le_trans hl hos,hl3,hs3,hoff.1,fun u hu y hy=>Nat.le_trans hl (hoff.2 u hu y hy)⟩
theorem RetS.fin {S:Nat->Prop} {H0 H1 H2 H3:Hp} {u:AV} {o:Option Sr} (h:RetS H1 H2 u o) (hle:HLe H0 H1) (hf:Fr S H2 H3) (hS:∀ x ob,S x->H2.at x=some ob->ob.esz=6) (hS2:∀ x,S x->H0.length<=x):RetS H0 H3 u o:=by
 obtain⟨h1,h2⟩:=h
 refine⟨(hle.trans h1).fr_le hf hS2,?_⟩
 cases o with
 | none=>exact h2
 | some x =>
  obtain⟨w,e,hm⟩:=h2
  exact⟨w,e,(hm.fr hf hS).base hle.1⟩
theorem RetS.shape {H0 H:Hp} {u:AV} {o:Option Sr} (h:RetS H0 H u o):∃ a b c k t d,u=.tu [.ag [a,b,c,k,t,d],.bool o.isSome]/\one a=true/\one b=true/\one c=true/\one k=true/\one t=true/\one d=true:=by
 obtain⟨_,h⟩:=h
 cases o with
 | none=>exact⟨_,_,_,_,_,_,h,by simp⟩
 | some x =>
  obtain⟨w,e,hm⟩:=h
  obtain⟨a,ol,os,d,rfl,h1,h2,_⟩:=hm.shape
  exact⟨_,_,_,_,_,_,e,h1,by simp,by simp,by simp,by simp,h2⟩
theorem MSt.upd {H0 H:Hp} {a d a' d':AV} {ol os:Nat} {s:Sr} {tp:List Ent} {ts:List Int} (t:Int) (h:MSt H0 H (.ag [a,.sl ol 0 3,.sl os 0 3,.int .i64 s.keep,.int .i64 s.time,d]) s) (ha:OwnE H0 H a' tp) (hd:OwnI H0 H d' ts) (hdo:¬d'.of ol) (hdd:∀ y,d'.of y->d.of y) (hof:∀ lr,OffT a lr->All2 (LvRow H) lr s.lev->OffT a' lr) :
  MSt H0 H (.ag [a',.sl ol 0 3,.sl os 0 3,.int .i64 s.keep,.int .i64 t,d']) { s with top:=tp,time:=t,tms:=ts }:=by
 obtain⟨a2,ol2,os2,d2,lr,sr,hv,ha2,hlv,hlr,hsv,hsr,hd2,hdo2,hol,hos,hl3,hs3,hoff⟩:=h
 simp only [stAV,hl3,hs3,AV.ag.injEq,List.cons.injEq,AV.sl.injEq,and_true,true_and] at hv
 obtain⟨rfl,rfl,rfl,rfl⟩:=hv
 exact⟨a',ol,os,d',lr,sr,by simp [stAV,hl3,hs3],ha,hlv,hlr,hsv,All2.mono (fun row sv h=>by
  obtain⟨r,e1,e2,e3⟩:=h
  exact⟨r,e1,e2,fun x hx hh=>e3 x hx (hh.imp id (hdd x))⟩) hsr,hd,hdo,hol,hos,hl3,hs3,hof _ hoff.1 hlr,hoff.2⟩
theorem MSt.app {H0 H H':Hp} {a d d':AV} {ol os:Nat} {s:Sr} {ts:List Int} (h:MSt H0 H (.ag [a,.sl ol 0 3,.sl os 0 3,.int .i64 s.keep,.int .i64 s.time,d]) s) (hf:Fr d.of H H') (hd:OwnI H0 H' d' ts) (hdd:∀ y,d'.of y->d.of y\/H.length<=y) :
  MSt H0 H' (.ag [a,.sl ol 0 3,.sl os 0 3,.int .i64 s.keep,.int .i64 s.time,d']) { s with tms:=ts }:=by
 obtain⟨a2,ol2,os2,d2,lr,sr,hv,ha2,hlv,hlr,hsv,hsr,hd2,hdo2,hol,hos,hl3,hs3,hoff⟩:=h
 simp only [stAV,hl3,hs3,AV.ag.injEq,List.cons.injEq,AV.sl.injEq,and_true,true_and] at hv
 obtain⟨rfl,rfl,rfl,rfl⟩:=hv
 refine⟨a,ol,os,d',lr,sr,by simp [stAV,hl3,hs3],ha2.fr hf (fun x hx hs=>ha2.rows.apart hd2.rows (by simp) hx hs),hlv.fr hf (fun x hx hs=>hdo2 (by rw [show ol=x from hx]; exact hs)),All2.mono (fun _ _ h=>h.fr hf (fun x ob hs ho=>by rw [hd2.1.esz hs ho]; decide)) hlr,
  hsv.fr hf (fun x hx hs=>hsv.rows.apart hd2.rows (by simp) hx hs),All2.mono (fun row sv h=>SvRow.fr h hf (fun x ob hs ho=>.inr (.inr hs)) (fun x hx hx'=>hx'.imp id (fun h=>(hdd x h).elim id (fun h=>by omega)))) hsr,hd,fun hy=>?_,hol,hos,hl3,hs3,hoff⟩
 rcases hdd _ hy with h | h
 ·exact hdo2 h
 ·have:=hlv.lt (o:=ol) rfl
  omega
theorem LvRow.lt {H:Hp}:∀ {lr:List (List AV)} {ls:List (List Ent)},All2 (LvRow H) lr ls->∀ u,[u]∈lr->∀ y,u.of y->y<H.length
 | [],[],_,u,hu,_,_=>by cases hu
 | r :: lr,l :: ls,h,u,hu,y,hy=>by
  rcases List.mem_cons.1 hu with e | hu
  ·obtain⟨⟨w,e2,hw⟩,_⟩:=h
   rw [<- e] at e2
   cases e2
   rcases hw with ⟨rfl,_⟩ | ⟨rfl,_⟩ | ⟨o,i,ob,rfl,h2,_⟩
   ·exact hy.elim
   ·exact hy.elim
   ·have:o=y:=hy
    subst this
    exact Hp.at_lt h2
  ·exact LvRow.lt h.2 u hu y hy
theorem MSt.upd2 {H0 H H':Hp} {a d a':AV} {ol os:Nat} {s:Sr} {tp:List Ent} (t:Int) (h:MSt H0 H (.ag [a,.sl ol 0 3,.sl os 0 3,.int .i64 s.keep,.int .i64 s.time,d]) s) (hle:HLe H H') (ha:OwnE H0 H' a' tp) (hb:∀ y,a'.of y->H.length<=y) :
  MSt H0 H' (.ag [a',.sl ol 0 3,.sl os 0 3,.int .i64 s.keep,.int .i64 t,d]) { s with top:=tp,time:=t }:=by
 obtain⟨a2,ol2,os2,d2,lr,sr,hv,ha2,hlv,hlr,hsv,hsr,hd2,hdo2,hol,hos,hl3,hs3,hoff⟩:=h
 simp only [stAV,hl3,hs3,AV.ag.injEq,List.cons.injEq,AV.sl.injEq,and_true,true_and] at hv
 obtain⟨rfl,rfl,rfl,rfl⟩:=hv
 exact⟨a',ol,os,d,lr,sr,by simp [stAV,hl3,hs3],ha,hlv.le hle,All2.mono (fun _ _=>LvRow.le hle) hlr,hsv.le hle,All2.mono (fun _ _=>SvRow.le hle) hsr,hd2.le hle,hdo2,hol,hos,hl3,hs3,fun y hy u hu hy2=>by
  have:=LvRow.lt hlr u hu y hy2
  have:=hb y hy
  omega,hoff.2⟩
theorem MSt.parts {H0 H:Hp} {a d:AV} {ol os:Nat} {s:Sr} {k t:AV} (h:MSt H0 H (.ag [a,.sl ol 0 3,.sl os 0 3,k,t,d]) s):OwnE H0 H a s.top/\OwnI H0 H d s.tms/\¬d.of ol:=by
 obtain⟨a2,ol2,os2,d2,lr,sr,hv,ha2,hlv,hlr,hsv,hsr,hd2,hdo2,hol,hos,hl3,hs3,hoff⟩:=h
 simp only [stAV,hl3,hs3,AV.ag.injEq,List.cons.injEq,AV.sl.injEq,and_true,true_and] at hv
 obtain⟨rfl,rfl,rfl,rfl,rfl,rfl⟩:=hv
 exact⟨ha2,hd2,hdo2⟩
theorem l12Into_ret (n:Nat) (hn:n<=2) (v r:AV) (s:Sr) (es:List Ent) (H0 H:Hp) (hs:MSt H0 H v s) (hle:HLe H0 H) (hr:Ents H r es) (hes:SmB es) (hl:∀ l∈s.lev,SmB l) (ht:s.tms.length<=1000) :
  AC Tryz.prog E 209 [v,.int .i64 ((2-n:Nat):Int),r] H (fun u H'=>RetS H0 H' u (intoR n s es)/\Fr (stOf v) H H'):=by
 refine AC.mono (l12Into_ok n hn v r s es H0 H hs hle hr hes hl ht) (fun u H' h=>?_)
 cases hi:intoR n s es with
 | none =>
  rw [hi] at h
  exact⟨⟨hle.fr_le h.2 (fun x hx=>(hs.obj x hx).1),h.1⟩,h.2⟩
 | some x =>
  rw [hi] at h
  obtain⟨w,e,hm,_,hf⟩:=h
  exact⟨⟨hle.fr_le hf (fun x hx=>(hs.obj x hx).1),w,e,hm⟩,hf⟩
theorem l12Down_ok (v:AV) (s:Sr) (H0 H:Hp) (hs:MSt H0 H v s) (hle0:HLe H0 H) (hb:Small s) :
  AC Tryz.prog E 189 [v] H (fun u H'=>RetS H0 H' u (downR s)/\Fr (stOf v) H H'):=by
 have hlt:=fun x=>hs.lt (x:=x)
 have hobj:=hs.obj
 obtain⟨a,ol,os,d,rfl,ha1,hd1,hdi⟩:=hs.shape
 refine AC_by fol (tC_le tab2_ok) h_spec_l12Down ?_
 simp [c_spec_l12Down,ha1,hd1]
 obtain⟨p1,p2,p3⟩:=hs.parts
 refine cg_ex (l12Into_ret 2 (by omega) _ a { s with top:=[] } s.top H0 _ (hs.upd2 (tp:=[]) s.time (HLe.self H _) ⟨Own.obj (R:=[]) (by simp) rfl,fun x hx=>by simp at hx; have:=hle0.1; omega⟩ (fun y hy=>by simp at hy; omega)) (hle0.app _) (p1.ents.le (HLe.self _ _)) hb.1 hb.2.1 hb.2.2.1) ?_
 rintro v2 H2 ⟨hret,hF⟩
 obtain⟨xa,xb,xc,xk,xt,xd,rfl,o1,o2,o3,o4,o5,o6⟩:=hret.shape
 have b1:=hF.2 (H.length+1) ⟨[[.nils,.nils,.nils,.int .i64 0,.int .i64 0,.nils]],6,28,false⟩ (fun h=>by have:=hlt _ h; omega) (by simp)
 have u1:=Hp.at_lt b1
 simp [o1,o2,o3,o4,o5,o6,b1,Hp.at_set,u1]
 have hF2:=Fr.one H2 (H.length+1) (some ⟨[[xa,xb,xc,xk,xt,xd]],6,28,false⟩)
 exact⟨hret.fin (HLe.refl _) hF2 (fun x ob hx ho=>by rw [hx,b1] at ho; cases ho; rfl) (fun x hx=>by rw [hx]; have:=hle0.1; omega),(((HLe.self H _).fr (S:=stOf _)).same hF).trans hF2 (fun x hx=>.inr (by rw [hx]; omega))⟩
end Go.Proofs.YtgoeenodllmdpaaGreat.B

namespace Go.Proofs.YtgoeenodllmdpaaGreat.B
open Go.RowKit Go.Proofs
set_option linter.unusedVariables false
set_option linter.unusedSimpArgs false
variable {E:Env}
theorem St.shape {H:Hp} {v:AV} {s:Sr} (h:St H v s):∃ a b c d,v=.ag [a,b,c,.int .i64 s.keep,.int .i64 s.time,d]/\one a=true/\one b=true/\one c=true/\one d=true/\Ents H a s.top/\Ints H d s.tms:=by
 obtain⟨a,b,c,d,lr,sr,rfl,ha,hb1,hlr,hc,hsr,hd⟩:=h
 exact⟨a,b,c,d,rfl,ha.one,hb1.one,hc.one,hd.one,ha,hd⟩
theorem addR_no {s:Sr} {e:Ent} (h:(storeOk s&&entOk e)=false):addR s e=none:=by simp [addR,h]
theorem l12Add_ok (v:AV) (s:Sr) (e:Ent) (H:Hp) (hs:St H v s) (hb:StB s) (hk:e.key.size<4611686018427387904) :
  AC Tryz.prog E 118 [v,.ag (entRow e)] H (fun u H'=>RetS H H' u (addR s e)):=by
 have hs0:=hs
 obtain⟨a,b,c,d,rfl,n1,n2,n3,n4,hea,hed⟩:=hs.shape
 refine AC_by fol (tC_le tab2_ok) h_spec_l12Add ?_
 obtain⟨H1,hH1⟩:∃ H1,H1=H++[some ⟨[[a,b,c,.int .i64 s.keep,.int .i64 s.time,d]],6,28,false⟩,some ⟨[[.str e.key,.int .i64 e.val,.bool e.gone,.int .i64 e.time]],4,99,false⟩,some ⟨[[.nils,.nils,.nils,.int .i64 0,.int .i64 0,.nils]],6,28,false⟩]:=⟨_,rfl⟩
 have hle1:HLe H H1:=by rw [hH1]; exact HLe.self _ _
 have b0:H1.at H.length=some ⟨[[a,b,c,.int .i64 s.keep,.int .i64 s.time,d]],6,28,false⟩:=by rw [hH1]; simp
 have b1:H1.at (H.length+1)=some ⟨[[.str e.key,.int .i64 e.val,.bool e.gone,.int .i64 e.time]],4,99,false⟩:=by rw [hH1]; simp
 have b2:H1.at (H.length+2)=some ⟨[[.nils,.nils,.nils,.int .i64 0,.int .i64 0,.nils]],6,28,false⟩:=by rw [hH1]; simp
 have hl1:H1.length=H.length+3:=by rw [hH1]; simp
 have eR:entRow e=[.str e.key,.int .i64 e.val,.bool e.gone,.int .i64 e.time]:=rfl
 have u2:=Hp.at_lt b2
 simp [c_spec_l12Add,n1,n2,n3,n4,<- hH1,b0,eR]
 refine cg_use (StoreOk_ok _ s H1 (hs0.le hle1) hb) ?_
 cases hso:storeOk s with
 | false =>
  simp [b2,Hp.at_set,u2,addR_no (e:=e) (s:=s) (by simp [hso]),RetS]
  exact hle1.set (by omega) _
 | true =>
 have eta:(⟨e.key,e.val,e.gone,e.time⟩:Ent)=e:=rfl
 simp [b1,tab2_ok1 _ _ _ _ _ _ _ _ _ _ _ hk]
 cases heo:entOk e with
 | false =>
  simp [heo,b2,Hp.at_set,u2,addR_no (e:=e) (s:=s) (by simp [heo]),RetS]
  exact hle1.set (by omega) _
 | true =>
 have hsm:=storeOk_small hso
 simp [heo,b0]
 refine cg_ex (l12Copy_ok _ s H1 (hs0.le hle1) hb hsm.2.2.2.2.2.2.2.1 hsm.2.2.2.2.2.2.2.2) ?_
 rintro v2 H2 ⟨hle2,hm2⟩
 obtain⟨xa,xl,xs,xd,rfl,xn1,xn2,xdi⟩:=hm2.shape
 have b02:=hle2.2 _ _ b0
 have b12:=hle2.2 _ _ b1
 have b22:=hle2.2 _ _ b2
 have u0:=Hp.at_lt b02
 have u1:=Hp.at_lt b12
 have u2:=Hp.at_lt b22
 have m02:H.length≠H.length+2:=by omega
 have m01:H.length≠H.length+1:=by omega
 have hp2:=hm2.parts
 simp [xn1,xn2,b02,Hp.at_set,u0,hp2.1.len,hp2.1.slc]
 obtain⟨H3,hH3⟩:∃ H3:Hp,H3=List.set H2 H.length (some ⟨[[xa,.sl xl 0 3,.sl xs 0 3,.int .i64 s.keep,.int .i64 s.time,xd]],6,28,false⟩):=⟨_,rfl⟩
 have hF3:Fr (fun x=>x=H.length) H2 H3:=by rw [hH3]; exact Fr.one _ _ _
 have hm3:=hm2.fr hF3 (fun x ob hx ho=>by rw [hx,b02] at ho; cases ho; rfl)
 have hle3:HLe H H3:=(hle1.trans hle2).fr_le hF3 (fun x hx=>by rw [hx]; exact Nat.le_refl _)
 have b03:H3.at H.length=some ⟨[[xa,.sl xl 0 3,.sl xs 0 3,.int .i64 s.keep,.int .i64 s.time,xd]],6,28,false⟩:=by rw [hH3]; exact Hp.at_set _ u0
 have b13:=hF3.2 _ _ m01.symm b12
 have b23:=hF3.2 _ _ m02.symm b22
 rw [<- hH3]
 refine c_split (fun hq=>?_) (fun hq=>?_)<;>simp at hq
 ·have hF13:=(hle2.fr (S:=fun x=>x=H.length)).same hF3
  simp [b03]
  refine cg_ex (l12Down_ok _ s H H3 (hm3.base hle1.1) hle3 hsm) ?_
  rintro v4 H4 ⟨hret,hF4⟩
  have n0:∀ y,y<H1.length->¬stOf (.ag [xa,.sl xl 0 3,.sl xs 0 3,.int .i64 s.keep,.int .i64 s.time,xd]) y:=fun y h1 h3=>by have:=(hm2.obj y h3).1; omega
  have b04:=hF4.2 _ _ (n0 _ (by omega)) b03
  have b14:=hF4.2 _ _ (n0 _ (by omega)) b13
  have b24:=hF4.2 _ _ (n0 _ (by omega)) b23
  have u04:=Hp.at_lt b04
  have u14:=Hp.at_lt b14
  have u24:=Hp.at_lt b24
  cases hd:downR s with
  | none =>
   have hadd:addR s e=none:=by simp [addR,hso,heo,hd,show 4<=s.top.length by omega]
   rw [hd] at hret
   obtain⟨hle4,rfl⟩:=hret
   simp [b24,Hp.at_set,u24,Hp.at_app,set_in',hadd]
   exact⟨(hle4.set (by omega) _).app _,rfl⟩
  | some x =>
   have hadd:addR s e=some { x with top:=joinL [e] x.top,time:=e.time }:=by simp [addR,hso,heo,hd,show 4<=s.top.length by omega]
   have hx0:x.top=[]:=(intoR_tms hd).2.1
   rw [hd] at hret
   obtain⟨hle4,w4,rfl,hm4⟩:=hret
   obtain⟨ya,yl,ys,yd,rfl,yn1,yn2,ydi⟩:=hm4.shape
   simp [yn1,yn2,b04,Hp.at_set,Hp.at_app,u04,set_in']
   obtain⟨H4',hH4'⟩:∃ H4':Hp,H4'=List.set H4 H.length (some ⟨[[ya,.sl yl 0 3,.sl ys 0 3,.int .i64 x.keep,.int .i64 x.time,yd]],6,28,false⟩)++[some ⟨[[ya,.sl yl 0 3,.sl ys 0 3,.int .i64 x.keep,.int .i64 x.time,yd]],6,28,false⟩]:=⟨_,rfl⟩
   rw [<- hH4']
   have hF4':Fr (fun y=>y=H.length) H4 H4':=by rw [hH4']; exact (Fr.one _ _ _).app _
   have c03:Hp.at H4' H.length=some ⟨[[ya,.sl yl 0 3,.sl ys 0 3,.int .i64 x.keep,.int .i64 x.time,yd]],6,28,false⟩:=by rw [hH4']; exact (Hp.at_app _ (by rw [List.length_set]; exact u04)).trans (Hp.at_set _ u04)
   have c13:=hF4'.2 _ _ m01.symm b14
   have c23:=hF4'.2 _ _ m02.symm b24
   have hm4':=hm4.fr hF4' (fun y ob hy ho=>by rw [hy,b04] at ho; cases ho; rfl)
   have hle4':=hle4.fr_le hF4' (fun y hy=>by rw [hy]; exact Nat.le_refl _)
   have hpk:=hm4'.parts
   have t03:=Hp.at_lt c03
   have t13:=Hp.at_lt c13
   simp [c03,c13,Hp.at_app,t03,t13]
   have hlit:Ents (H4'++[some ⟨[[.str e.key,.int .i64 e.val,.bool e.gone,.int .i64 e.time]],4,99,false⟩]) (.sl H4'.length 0 1) [e]:=Own.rows (ety:=99) (Own.obj (by simp; rfl) rfl)
   refine cg_ex (l11Join_ok (.sl H4'.length 0 1) ya [e] x.top _ hlit (hpk.1.ents.le (HLe.self _ _)) (by simp [hx0])) ?_
   rintro v5 H5 ⟨hle5,hj⟩
   have hle5':=(HLe.self H4' _).trans hle5
   have b05:=hle5'.2 _ _ c03
   have b15:=hle5'.2 _ _ c13
   have b25:=hle5'.2 _ _ c23
   have u05:=Hp.at_lt b05
   have u15:=Hp.at_lt b15
   have u25:=Hp.at_lt b25
   simp [hj.rows.one,hj.rows.cells1,hj.rows.cells,yn1,yn2,b05,b15,b25,Hp.at_set,Hp.at_set_ne,List.length_set,u05,u15,u25,m01,m02,m01.symm,m02.symm]
   have hF6:=((Fr.refl (fun y=>y=H.length\/y=H.length+2) H5).set (o:=H.length) (.inl (.inl rfl)) (some ⟨[[v5,.sl yl 0 3,.sl ys 0 3,.int .i64 x.keep,.int .i64 e.time,yd]],6,28,false⟩)).set (o:=H.length+2) (.inl (.inr rfl)) (some ⟨[[v5,.sl yl 0 3,.sl ys 0 3,.int .i64 x.keep,.int .i64 e.time,yd]],6,28,false⟩)
   rw [hadd]
   exact⟨(hle4'.trans hle5').fr_le hF6 (fun y hy=>by rcases hy with h | h<;>omega),_,rfl,MSt.fr (hm4'.upd2 (tp:=joinL [e] x.top) e.time hle5' (hj.base (by have:=hle4'.1; simp; omega)) (fun y hy=>by have h9:=hj.2 y hy; simp at h9; omega)) hF6 (fun y ob hy ho=>by
    rcases hy with h | h
    ·rw [h,b05] at ho; cases ho; rfl
    ·rw [h,b25] at ho; cases ho; rfl)⟩
 ·have z:0=0:=rfl
  have hpk:=(hm3.base hle1.1).parts
  have t03:=Hp.at_lt b03
  have t13:=Hp.at_lt b13
  simp [b03,b13,Hp.at_app,t03,t13]
  have hlit:Ents (H3++[some ⟨[[.str e.key,.int .i64 e.val,.bool e.gone,.int .i64 e.time]],4,99,false⟩]) (.sl H3.length 0 1) [e]:=Own.rows (ety:=99) (Own.obj (by simp; rfl) rfl)
  refine cg_ex (l11Join_ok (.sl H3.length 0 1) xa [e] s.top _ hlit (hpk.1.ents.le (HLe.self _ _)) (by simp; omega)) ?_
  rintro v5 H5 ⟨hle5,hj⟩
  have hle5':=(HLe.self H3 _).trans hle5
  have b05:=hle5'.2 _ _ b03
  have b15:=hle5'.2 _ _ b13
  have b25:=hle5'.2 _ _ b23
  have u05:=Hp.at_lt b05
  have u15:=Hp.at_lt b15
  have u25:=Hp.at_lt b25
  simp [hj.rows.one,hj.rows.cells1,hj.rows.cells,xn1,xn2,b05,b15,b25,Hp.at_set,Hp.at_set_ne,List.length_set,u05,u15,u25,m01,m02,m01.symm,m02.symm]
  have hadd:addR s e=some { s with top:=joinL [e] s.top,time:=e.time }:=by simp [addR,hso,heo,show ¬4<=s.top.length by omega]
  have hF6:=((Fr.refl (fun y=>y=H.length\/y=H.length+2) H5).set (o:=H.length) (.inl (.inl rfl)) (some ⟨[[v5,.sl xl 0 3,.sl xs 0 3,.int .i64 s.keep,.int .i64 e.time,xd]],6,28,false⟩)).set (o:=H.length+2) (.inl (.inr rfl)) (some ⟨[[v5,.sl xl 0 3,.sl xs 0 3,.int .i64 s.keep,.int .i64 e.time,xd]],6,28,false⟩)
  rw [hadd]
  exact⟨(hle3.trans hle5').fr_le hF6 (fun y hy=>by rcases hy with h | h<;>omega),_,rfl,MSt.fr ((hm3.base hle1.1).upd2 (tp:=joinL [e] s.top) e.time hle5' (hj.base (by have:=hle3.1; simp; omega)) (fun y hy=>by have h9:=hj.2 y hy; simp at h9; omega)) hF6 (fun y ob hy ho=>by
   rcases hy with h | h
   ·rw [h,b05] at ho; cases ho; rfl
   ·rw [h,b25] at ho; cases ho; rfl)⟩
end Go.Proofs.YtgoeenodllmdpaaGreat.B

namespace Go.Proofs.YtgoeenodllmdpaaGreat.B
open Go.RowKit Go.Proofs
set_option linter.unusedVariables false
set_option linter.unusedSimpArgs false
variable {E:Env}
theorem storeOk_time {s:Sr} (h:storeOk s=true):IntKind.i64.wrap (s.time+1)=s.time+1:=by
 simp only [storeOk,headOk,Bool.and_eq_true,decide_eq_true_eq] at h
 obtain⟨⟨⟨⟨⟨⟨h1,h2⟩,h3⟩,h4⟩,h5⟩,h7⟩,h9⟩:=h
 exact wrap64 (by omega) (by omega)
theorem addR_wrap (s:Sr) (f:Int->Ent):addR s (f (IntKind.i64.wrap (s.time+1)))=addR s (f (s.time+1)):=by
 cases h:storeOk s with
 | false=>simp [addR,h]
 | true=>rw [storeOk_time h]
theorem StorePut_ok (v:AV) (s:Sr) (k:ByteArray) (val:Int) (H:Hp) (hs:St H v s) (hb:StB s) (hk:k.size<4611686018427387904) :
  AC Tryz.prog E 47 [v,.str k,.int .i64 val] H (fun u H'=>RetS H H' u (putR s k val)):=by
 have hs0:=hs
 obtain⟨a,b,c,d,rfl,n1,n2,n3,n4,hea,hed⟩:=hs.shape
 refine AC_by fol (tC_le tab2_ok) h_spec_StorePut ?_
 simp [c_spec_StorePut,n1,n2,n3,n4]
 refine cg_ex (l12Add_ok _ s ⟨k,val,false,IntKind.i64.wrap (s.time+1)⟩ _ (hs0.le (HLe.self _ _)) hb hk) ?_
 intro v2 H2 hret
 obtain⟨xa,xb,xc,xk,xt,xd,rfl,o1,o2,o3,o4,o5,o6⟩:=hret.shape
 have b1:=hret.1.2 (H.length+1) ⟨[[.nils,.nils,.nils,.int .i64 0,.int .i64 0,.nils]],6,28,false⟩ (by simp)
 have u1:=Hp.at_lt b1
 simp [o1,o2,o3,o4,o5,o6,b1,Hp.at_set,u1]
 have hF2:=Fr.one H2 (H.length+1) (some ⟨[[xa,xb,xc,xk,xt,xd]],6,28,false⟩)
 have hr:=hret.fin (H0:=H) (HLe.self _ _) hF2 (fun x ob hx ho=>by rw [hx,b1] at ho; cases ho; rfl) (fun x hx=>by rw [hx]; omega)
 have ew:=addR_wrap s (fun t=>⟨k,val,false,t⟩)
 rw [ew] at hr ⊢
 exact hr
theorem StoreTake_ok (v:AV) (s:Sr) (k:ByteArray) (H:Hp) (hs:St H v s) (hb:StB s) (hk:k.size<4611686018427387904) :
  AC Tryz.prog E 152 [v,.str k] H (fun u H'=>RetS H H' u (takeR s k)):=by
 have hs0:=hs
 obtain⟨a,b,c,d,rfl,n1,n2,n3,n4,hea,hed⟩:=hs.shape
 refine AC_by fol (tC_le tab2_ok) h_spec_StoreTake ?_
 simp [c_spec_StoreTake,n1,n2,n3,n4]
 refine cg_ex (l12Add_ok _ s ⟨k,0,true,IntKind.i64.wrap (s.time+1)⟩ _ (hs0.le (HLe.self _ _)) hb hk) ?_
 intro v2 H2 hret
 obtain⟨xa,xb,xc,xk,xt,xd,rfl,o1,o2,o3,o4,o5,o6⟩:=hret.shape
 have b1:=hret.1.2 (H.length+1) ⟨[[.nils,.nils,.nils,.int .i64 0,.int .i64 0,.nils]],6,28,false⟩ (by simp)
 have u1:=Hp.at_lt b1
 simp [o1,o2,o3,o4,o5,o6,b1,Hp.at_set,u1]
 have hF2:=Fr.one H2 (H.length+1) (some ⟨[[xa,xb,xc,xk,xt,xd]],6,28,false⟩)
 have hr:=hret.fin (H0:=H) (HLe.self _ _) hF2 (fun x ob hx ho=>by rw [hx,b1] at ho; cases ho; rfl) (fun x hx=>by rw [hx]; omega)
 have ew:=addR_wrap s (fun t=>⟨k,0,true,t⟩)
 rw [ew] at hr ⊢
 exact hr
theorem StoreDown_ok (v:AV) (s:Sr) (H:Hp) (hs:St H v s) (hb:StB s) :
  AC Tryz.prog E 153 [v] H (fun u H'=>RetS H H' u (letR s)):=by
 have hs0:=hs
 obtain⟨a,b,c,d,rfl,n1,n2,n3,n4,hea,hed⟩:=hs.shape
 refine AC_by fol (tC_le tab2_ok) h_spec_StoreDown ?_
 simp [c_spec_StoreDown,n1,n2,n3,n4]
 refine cg_use (StoreOk_ok _ s _ (hs0.le (HLe.self _ _)) hb) ?_
 cases hso:storeOk s with
 | false =>
  simp [letR,hso,RetS]
 | true =>
 have hsm:=storeOk_small hso
 have hlr:letR s=downR s:=by simp [letR,hso]
 simp [n1,n2,n3,n4]
 refine cg_ex (l12Copy_ok _ s _ (hs0.le (HLe.self _ _)) hb hsm.2.2.2.2.2.2.2.1 hsm.2.2.2.2.2.2.2.2) ?_
 rintro v2 H2 ⟨hle2,hm2⟩
 simp
 refine cg_ex (l12Down_ok v2 s _ H2 hm2 hle2 hsm) ?_
 rintro v3 H3 ⟨hret,hF3⟩
 obtain⟨xa,xb,xc,xk,xt,xd,rfl,o1,o2,o3,o4,o5,o6⟩:=hret.shape
 have b1:=hret.1.2 (H.length+1) ⟨[[.nils,.nils,.nils,.int .i64 0,.int .i64 0,.nils]],6,28,false⟩ (by simp)
 have u1:=Hp.at_lt b1
 simp [o1,o2,o3,o4,o5,o6,b1,Hp.at_set,u1]
 have hF2:=Fr.one H3 (H.length+1) (some ⟨[[xa,xb,xc,xk,xt,xd]],6,28,false⟩)
 rw [hlr]
 exact hret.fin (H0:=H) (HLe.self _ _) hF2 (fun x ob hx ho=>by rw [hx,b1] at ho; cases ho; rfl) (fun x hx=>by rw [hx]; omega)
end Go.Proofs.YtgoeenodllmdpaaGreat.B

namespace Go.Proofs.YtgoeenodllmdpaaGreat.B
open Go.RowKit Go.Proofs
set_option linter.unusedVariables false
set_option linter.unusedSimpArgs false
variable {E:Env}
theorem MSt.lev {H0 H:Hp} {a d k t:AV} {ol os:Nat} {s:Sr} (h:MSt H0 H (.ag [a,.sl ol 0 3,.sl os 0 3,k,t,d]) s) (i:Nat) (hi:i<3):∃ ob u,H.at ol=some ob/\ob.esz=1/\ob.rows[i]?=some [u]/\Ents H u (s.lev.getD i []):=by
 obtain⟨a2,ol2,os2,d2,lr,sr,hv,ha2,hlv,hlr,hsv,hsr,hd2,hdo2,hol,hos,hl3,hs3⟩:=h
 simp only [stAV,hl3,hs3,AV.ag.injEq,List.cons.injEq,AV.sl.injEq,and_true,true_and] at hv
 obtain⟨rfl,rfl,rfl,rfl,rfl,rfl⟩:=hv
 obtain⟨e1,obl,k1,k2,k3,k4,k5,k6⟩:=hlv.ob
 have hlr3:lr.length=3:=by omega
 obtain⟨u,hu,hue⟩:=hlr.get i (by omega) (by omega)
 refine⟨obl,u,k1,k3,?_,by rw [getD_get [] (by omega)]; exact hue⟩
 have:(obl.rows.take lr.length)[i]?=lr[i]?:=by rw [k6]
 rw [List.getElem?_take,if_pos (by omega)] at this
 rw [this,List.getElem?_eq_getElem (by omega),hu]
theorem StoreJoin_ok (v:AV) (s:Sr) (l:Int) (H:Hp) (hs:St H v s) (hb:StB s) :
  AC Tryz.prog E 154 [v,.int .i64 l] H (fun u H'=>RetS H H' u (joinR s l)):=by
 have hs0:=hs
 obtain⟨a,b,c,d,rfl,n1,n2,n3,n4,hea,hed⟩:=hs.shape
 refine AC_by fol (tC_le tab2_ok) h_spec_StoreJoin ?_
 obtain⟨H1,hH1⟩:∃ H1:Hp,H1=H++[some ⟨[[a,b,c,.int .i64 s.keep,.int .i64 s.time,d]],6,28,false⟩,some ⟨[[.nils,.nils,.nils,.int .i64 0,.int .i64 0,.nils]],6,28,false⟩]:=⟨_,rfl⟩
 have hle1:HLe H H1:=by rw [hH1]; exact HLe.self _ _
 have b0:H1.at H.length=some ⟨[[a,b,c,.int .i64 s.keep,.int .i64 s.time,d]],6,28,false⟩:=by rw [hH1]; simp
 have b1:H1.at (H.length+1)=some ⟨[[.nils,.nils,.nils,.int .i64 0,.int .i64 0,.nils]],6,28,false⟩:=by rw [hH1]; simp
 have hl1:H1.length=H.length+2:=by rw [hH1]; simp
 have u1:=Hp.at_lt b1
 simp [c_spec_StoreJoin,n1,n2,n3,n4,<- hH1,b0]
 refine cg_use (StoreOk_ok _ s H1 (hs0.le hle1) hb) ?_
 cases hso:storeOk s with
 | false =>
  simp [b1,Hp.at_set,u1,joinR,hso,RetS]
  exact hle1.set (by omega) _
 | true =>
 have hsm:=storeOk_small hso
 simp
 refine c_split (fun hq=>?_) (fun hq=>?_)<;>simp at hq
 ·have hj:joinR s l=none:=by
   unfold joinR
   rw [if_neg (by omega)]
  simp [b1,Hp.at_set,u1,hj,RetS]
  exact hle1.set (by omega) _
 simp [b0]
 refine cg_ex (l12Copy_ok _ s H1 (hs0.le hle1) hb hsm.2.2.2.2.2.2.2.1 hsm.2.2.2.2.2.2.2.2) ?_
 rintro v2 H2 ⟨hle2,hm2⟩
 obtain⟨xa,xl,xs,xd,rfl,xn1,xn2,xdi⟩:=hm2.shape
 have b02:=hle2.2 _ _ b0
 have b12:=hle2.2 _ _ b1
 have u0:=Hp.at_lt b02
 have m01:H.length≠H.length+1:=by omega
 obtain⟨n,rfl⟩:∃ n:Nat,l=n:=⟨l.toNat,by omega⟩
 have hn:n<=1:=by omega
 have hn3:(n:Int)<3:=by omega
 obtain⟨H3,hH3⟩:∃ H3:Hp,H3=List.set H2 H.length (some ⟨[[xa,.sl xl 0 3,.sl xs 0 3,.int .i64 s.keep,.int .i64 s.time,xd]],6,28,false⟩):=⟨_,rfl⟩
 have hF3:Fr (fun x=>x=H.length) H2 H3:=by rw [hH3]; exact Fr.one _ _ _
 have hm3:=(hm2.fr hF3 (fun x ob hx ho=>by rw [hx,b02] at ho; cases ho; rfl)).base hle1.1
 have hle3:HLe H H3:=(hle1.trans hle2).fr_le hF3 (fun x hx=>by rw [hx]; exact Nat.le_refl _)
 have b03:H3.at H.length=some ⟨[[xa,.sl xl 0 3,.sl xs 0 3,.int .i64 s.keep,.int .i64 s.time,xd]],6,28,false⟩:=by rw [hH3]; exact Hp.at_set _ u0
 have b13:=hF3.2 _ _ m01.symm b12
 obtain⟨obl,u,k1,k2,k3,k4⟩:=hm3.lev n (by omega)
 simp [xn1,xn2,b02,Hp.at_set,u0,<- hH3,b03,k1,k2,k3,hn3]
 have hj:joinR s n=match setR s n [] with
  | none=>none
  | some x=>intoR (1-n) x (s.lev.getD n []):=by
  unfold joinR
  rw [if_pos ⟨hso,by omega,by omega⟩]
  rfl
 have t03:=Hp.at_lt b03
 have t13:=Hp.at_lt b13
 have hlit:Ents (H3++[some ⟨[],4,99,false⟩]) (.sl H3.length 0 0) []:=Own.rows (ety:=99) (Own.lit0 rfl)
 have n0:∀ y,H.length<=y->y<H1.length->¬stOf (.ag [xa,.sl xl 0 3,.sl xs 0 3,.int .i64 s.keep,.int .i64 s.time,xd]) y:=fun y h0 h1 h3=>by have:=(hm2.obj y h3).1; omega
 have ne4:=(hm3.le (HLe.self H3 [some ⟨[],4,99,false⟩])).ne4
 refine cg_ex (l12Set_ok _ (.sl H3.length 0 0) s n [] H _ (hm3.le (HLe.self _ _)) (hle3.app _) hlit ⟨by simp,fun e he=>by simp at he⟩ (by omega) (fun y hy ht=>by have:=hm3.top_lt ht; simp at hy; omega) (fun y hy=>by simp at hy; have:=hle3.1; omega)) ?_
 intro v4 H4 hp
 cases h1:setR s n [] with
 | none =>
  rw [h1] at hp hj
  obtain⟨rfl,hle4⟩:=hp
  have b14:=((HLe.self _ _).trans hle4).2 _ _ b13
  have u14:=Hp.at_lt b14
  simp [b14,Hp.at_app,Hp.at_set,u14,set_in',hj,RetS]
  exact ((hle3.app _).trans hle4 |>.set (by omega) _).app _
 | some x =>
  rw [h1] at hp hj
  obtain⟨w4,rfl,hm4,hst,hfr⟩:=hp
  obtain⟨ya,yl,ys,yd,hy,yn1,yn2,ydi⟩:=hm4.shape
  subst hy
  have b14:=hfr.2 _ _ (n0 _ (by omega) (by omega)) ((HLe.self H3 _).2 _ _ b13)
  have u14:=Hp.at_lt b14
  have hu4:Ents H4 u (s.lev.getD n []):=Rows.frz (k4.le (HLe.self _ _)) hfr ne4
  have hle4:HLe H H4:=(hle3.app _).fr_le hfr (fun y hy=>(hm3.obj y hy).1)
  have hwr:IntKind.i64.wrap ((n:Int)+1)=((2-(1-n):Nat):Int):=by
   rw [wrapN (by omega)]
   congr 1
   omega
  have hsx:=setR_small hsm (by omega) (fun e he=>by simp at he) h1
  simp [yn1,yn2,hwr]
  refine cg_ex (l12Into_ret (1-n) (by omega) _ u x _ H _ (hm4.le (HLe.self _ _)) (hle4.app _) (hu4.le (HLe.self _ _)) (hsm.lv n) hsx.2.1 hsx.2.2.1) ?_
  rintro v5 H5 ⟨hret,hF5⟩
  obtain⟨za,zb,zc,zk,zt,zd,rfl,o1,o2,o3,o4,o5,o6⟩:=hret.shape
  have b15:=hF5.2 _ _ (fun h=>n0 _ (by omega) (by omega) (hst ▸ h)) ((HLe.self H4 _).2 _ _ b14)
  have u15:=Hp.at_lt b15
  simp [o1,o2,o3,o4,o5,o6,b15,Hp.at_set,u15]
  rw [hj]
  have hF6:=Fr.one H5 (H.length+1) (some ⟨[[za,zb,zc,zk,zt,zd]],6,28,false⟩)
  exact hret.fin (H0:=H) (HLe.refl _) hF6 (fun y ob hy ho=>by rw [hy,b15] at ho; cases ho; rfl) (fun y hy=>by rw [hy]; omega)
end Go.Proofs.YtgoeenodllmdpaaGreat.B

namespace Go.Proofs.YtgoeenodllmdpaaGreat.B
open Go.RowKit Go.Proofs
set_option linter.unusedVariables false
set_option linter.unusedSimpArgs false
variable {E:Env}
def RetH (H0 H:Hp) (u:AV) (s:Sr) (o:Option Sr):Prop:=HLe H0 H/\match o with
 | some x=>∃ w,u=.tu [w,.int .i64 s.time,.bool true]/\MSt H0 H w x
 | none=>u=.tu [zst,.int .i64 0,.bool false]
theorem StoreHold_ok (v:AV) (s:Sr) (H:Hp) (hs:St H v s) (hb:StB s) :
  AC Tryz.prog E 27 [v] H (fun u H'=>RetH H H' u s (holdR s)):=by
 have hs0:=hs
 obtain⟨a,b,c,d,rfl,n1,n2,n3,n4,hea,hed⟩:=hs.shape
 refine AC_by fol (tC_le tab2_ok) h_spec_StoreHold ?_
 obtain⟨H1,hH1⟩:∃ H1:Hp,H1=H++[some ⟨[[a,b,c,.int .i64 s.keep,.int .i64 s.time,d]],6,28,false⟩,some ⟨[[.nils,.nils,.nils,.int .i64 0,.int .i64 0,.nils]],6,28,false⟩]:=⟨_,rfl⟩
 have hle1:HLe H H1:=by rw [hH1]; exact HLe.self _ _
 have b0:H1.at H.length=some ⟨[[a,b,c,.int .i64 s.keep,.int .i64 s.time,d]],6,28,false⟩:=by rw [hH1]; simp
 have b1:H1.at (H.length+1)=some ⟨[[.nils,.nils,.nils,.int .i64 0,.int .i64 0,.nils]],6,28,false⟩:=by rw [hH1]; simp
 have hl1:H1.length=H.length+2:=by rw [hH1]; simp
 have u1:=Hp.at_lt b1
 simp [c_spec_StoreHold,n1,n2,n3,n4,<- hH1,b0]
 refine cg_use (StoreOk_ok _ s H1 (hs0.le hle1) hb) ?_
 cases hso:storeOk s with
 | false =>
  simp [b1,Hp.at_set,u1,holdR,hso,RetH]
  exact hle1.set (by omega) _
 | true =>
 have hsm:=storeOk_small hso
 simp [b0]
 refine cg_ex (l12Copy_ok _ s H1 (hs0.le hle1) hb hsm.2.2.2.2.2.2.2.1 hsm.2.2.2.2.2.2.2.2) ?_
 rintro v2 H2 ⟨hle2,hm2⟩
 obtain⟨xa,xl,xs,xd,rfl,xn1,xn2,xdi⟩:=hm2.shape
 have b02:=hle2.2 _ _ b0
 have b12:=hle2.2 _ _ b1
 have u0:=Hp.at_lt b02
 have m01:H.length≠H.length+1:=by omega
 obtain⟨H3,hH3⟩:∃ H3:Hp,H3=List.set H2 H.length (some ⟨[[xa,.sl xl 0 3,.sl xs 0 3,.int .i64 s.keep,.int .i64 s.time,xd]],6,28,false⟩):=⟨_,rfl⟩
 have hF3:Fr (fun x=>x=H.length) H2 H3:=by rw [hH3]; exact Fr.one _ _ _
 have hm3:=(hm2.fr hF3 (fun x ob hx ho=>by rw [hx,b02] at ho; cases ho; rfl)).base hle1.1
 have hle3:HLe H H3:=(hle1.trans hle2).fr_le hF3 (fun x hx=>by rw [hx]; exact Nat.le_refl _)
 have b03:H3.at H.length=some ⟨[[xa,.sl xl 0 3,.sl xs 0 3,.int .i64 s.keep,.int .i64 s.time,xd]],6,28,false⟩:=by rw [hH3]; exact Hp.at_set _ u0
 have b13:=hF3.2 _ _ m01.symm b12
 have hp:=hm3.parts
 have hti:=hp.2.1.ints
 have xbd:∀ y,xd.of y->H1.length<=y:=fun y hy=>xdi.2 y hy
 have hlen:=hti.len
 have ts3:s.tms.length<=1000:=hsm.2.2.1
 have app:∀ (F:CallP->Nat->Prop),True:=fun _=>trivial
 by_cases hlast:s.tms.getLast?=some s.time
 ·have hhold:holdR s=if timesR s.tms s.time=true then some { s with tms:=s.tms } else none:=by simp [holdR,hso,hlast]
  have hpos:0<s.tms.length:=by
   rcases Nat.eq_zero_or_pos s.tms.length with h | h
   ·rw [List.length_eq_zero_iff.1 h] at hlast
    cases hlast
   ·exact h
  have hne:s.tms≠[]:=fun h=>by rw [h] at hpos; simp at hpos
  have hlast':s.tms[s.tms.length-1]'(by omega)=s.time:=by
   rw [List.getLast?_eq_getElem?,List.getElem?_eq_getElem (by omega)] at hlast
   exact Option.some.inj hlast
  have hw:IntKind.i64.wrap ((s.tms.length:Int)-1)=((s.tms.length-1:Nat):Int):=by rw [wrap64 (by omega) (by omega)]; omega
  obtain⟨o1,i1,ob1,rfl,a1,a2,a3⟩:=hti.get (j:=s.tms.length-1) (by omega)
  simp [xn1,xn2,b02,Hp.at_set,u0,<- hH3,b03,hlen,hti.slc,hne,hw,a1,a2,a3,hlast']
  refine⟨by omega,?_⟩
  have uk:=Hp.at_lt b13
  refine cg_use (l12Times_ok (.sl o1 i1 s.tms.length) s.tms s.time H3 (hp.2.1).ints (by (try simp only [List.length_append,List.length_singleton]); omega)) ?_
  cases htt:timesR s.tms s.time with
  | false =>
   have hh:holdR s=none:=by rw [hhold]; simp [htt]
   simp [b13,Hp.at_set,uk,hh,RetH]
   exact (hle3).set (by omega) _
  | true =>
   have hh:holdR s=some { s with tms:=s.tms }:=by rw [hhold]; simp [htt]
   have hon:=(hp.2.1).rows.one
   simp [b03,b13,Hp.at_set,Hp.at_set_ne,uk,xn1,hon,hh,RetH,m01,m01.symm]
   have hF:=Fr.one H3 (H.length+1) (some ⟨[[xa,.sl xl 0 3,.sl xs 0 3,.int .i64 s.keep,.int .i64 s.time,(.sl o1 i1 s.tms.length)]],6,28,false⟩)
   exact⟨(hle3).fr_le hF (fun y hy=>by rw [hy]; omega),MSt.fr hm3 hF (fun y ob hy ho=>by rw [hy,b13] at ho; cases ho; rfl)⟩
 ·have hhold:holdR s=if timesR (s.tms++[s.time]) s.time=true then some { s with tms:=s.tms++[s.time] } else none:=by simp [holdR,hso,hlast]
  by_cases hne:s.tms=[]
  ·simp [xn1,xn2,b02,Hp.at_set,u0,<- hH3,b03,hlen,hti.slc,hne]
   refine appG_add (y:=s.time) (bytes:=8) (row:=intRow) (H0:=H) hp.2.1 hle3 (by omega) rfl (fun v4 H4 g1 g2 g3 g4=>?_)
   have b04:=g3.2 _ _ (fun h=>by have:=xbd _ h; omega) b03
   have b14:=g3.2 _ _ (fun h=>by have:=xbd _ h; omega) b13
   have u04:=Hp.at_lt b04
   have hm4:=hm3.app (ts:=s.tms++[s.time]) g3 g2 g4
   simp [b04,g2.rows.one,g2.rows.cells,g2.rows.cells1,Hp.at_set,u04]
   obtain⟨H5,hH5⟩:∃ H5:Hp,H5=List.set H4 H.length (some ⟨[[xa,.sl xl 0 3,.sl xs 0 3,.int .i64 s.keep,.int .i64 s.time,v4]],6,28,false⟩):=⟨_,rfl⟩
   have hF5:Fr (fun x=>x=H.length) H4 H5:=by rw [hH5]; exact Fr.one _ _ _
   have hm5:=hm4.fr hF5 (fun y ob hy ho=>by rw [hy,b04] at ho; cases ho; rfl)
   have hle5:HLe H H5:=g1.fr_le hF5 (fun x hx=>by rw [hx]; exact Nat.le_refl _)
   have c03:H5.at H.length=some ⟨[[xa,.sl xl 0 3,.sl xs 0 3,.int .i64 s.keep,.int .i64 s.time,v4]],6,28,false⟩:=by rw [hH5]; exact Hp.at_set _ u04
   have c13:=hF5.2 _ _ m01.symm b14
   rw [<- hH5]
   have uk:=Hp.at_lt c13
   refine cg_use (l12Times_ok v4 (s.tms++[s.time]) s.time H5 (hm5.parts.2.1).ints (by (try simp only [List.length_append,List.length_singleton]); omega)) ?_
   cases htt:timesR (s.tms++[s.time]) s.time with
   | false =>
    have hh:holdR s=none:=by rw [hhold]; simp [htt]
    simp [c13,Hp.at_set,uk,hh,RetH]
    exact (hle5).set (by omega) _
   | true =>
    have hh:holdR s=some { s with tms:=(s.tms++[s.time]) }:=by rw [hhold]; simp [htt]
    have hon:=(hm5.parts.2.1).rows.one
    simp [c03,c13,Hp.at_set,Hp.at_set_ne,uk,xn1,hon,hh,RetH,m01,m01.symm]
    have hF:=Fr.one H5 (H.length+1) (some ⟨[[xa,.sl xl 0 3,.sl xs 0 3,.int .i64 s.keep,.int .i64 s.time,v4]],6,28,false⟩)
    exact⟨(hle5).fr_le hF (fun y hy=>by rw [hy]; omega),MSt.fr hm5 hF (fun y ob hy ho=>by rw [hy,c13] at ho; cases ho; rfl)⟩
  have hpos:0<s.tms.length:=List.length_pos_iff.2 hne
  have hlast':s.tms[s.tms.length-1]'(by omega)≠s.time:=by
   rw [List.getLast?_eq_getElem?,List.getElem?_eq_getElem (by omega)] at hlast
   exact fun h=>hlast (congrArg some h)
  have hw:IntKind.i64.wrap ((s.tms.length:Int)-1)=((s.tms.length-1:Nat):Int):=by rw [wrap64 (by omega) (by omega)]; omega
  obtain⟨o1,i1,ob1,hxe,a1,a2,a3⟩:=hti.get (j:=s.tms.length-1) (by omega)
  have hxe':=hxe
  subst hxe'
  simp [xn1,xn2,b02,Hp.at_set,u0,<- hH3,b03,hlen,hti.slc,hne,hw,a1,a2,a3,hlast']
  refine⟨by omega,?_⟩
  refine appG_add (y:=s.time) (bytes:=8) (row:=intRow) (H0:=H) hp.2.1 hle3 (by omega) rfl (fun v4 H4 g1 g2 g3 g4=>?_)
  have b04:=g3.2 _ _ (fun h=>by have:=xbd _ h; omega) b03
  have b14:=g3.2 _ _ (fun h=>by have:=xbd _ h; omega) b13
  have u04:=Hp.at_lt b04
  have hm4:=hm3.app (ts:=s.tms++[s.time]) g3 g2 g4
  simp [b04,g2.rows.one,g2.rows.cells,g2.rows.cells1,Hp.at_set,u04]
  obtain⟨H5,hH5⟩:∃ H5:Hp,H5=List.set H4 H.length (some ⟨[[xa,.sl xl 0 3,.sl xs 0 3,.int .i64 s.keep,.int .i64 s.time,v4]],6,28,false⟩):=⟨_,rfl⟩
  have hF5:Fr (fun x=>x=H.length) H4 H5:=by rw [hH5]; exact Fr.one _ _ _
  have hm5:=hm4.fr hF5 (fun y ob hy ho=>by rw [hy,b04] at ho; cases ho; rfl)
  have hle5:HLe H H5:=g1.fr_le hF5 (fun x hx=>by rw [hx]; exact Nat.le_refl _)
  have c03:H5.at H.length=some ⟨[[xa,.sl xl 0 3,.sl xs 0 3,.int .i64 s.keep,.int .i64 s.time,v4]],6,28,false⟩:=by rw [hH5]; exact Hp.at_set _ u04
  have c13:=hF5.2 _ _ m01.symm b14
  rw [<- hH5]
  have uk:=Hp.at_lt c13
  refine cg_use (l12Times_ok v4 (s.tms++[s.time]) s.time H5 (hm5.parts.2.1).ints (by (try simp only [List.length_append,List.length_singleton]); omega)) ?_
  cases htt:timesR (s.tms++[s.time]) s.time with
  | false =>
   have hh:holdR s=none:=by rw [hhold]; simp [htt]
   simp [c13,Hp.at_set,uk,hh,RetH]
   exact (hle5).set (by omega) _
  | true =>
   have hh:holdR s=some { s with tms:=(s.tms++[s.time]) }:=by rw [hhold]; simp [htt]
   have hon:=(hm5.parts.2.1).rows.one
   simp [c03,c13,Hp.at_set,Hp.at_set_ne,uk,xn1,hon,hh,RetH,m01,m01.symm]
   have hF:=Fr.one H5 (H.length+1) (some ⟨[[xa,.sl xl 0 3,.sl xs 0 3,.int .i64 s.keep,.int .i64 s.time,v4]],6,28,false⟩)
   exact⟨(hle5).fr_le hF (fun y hy=>by rw [hy]; omega),MSt.fr hm5 hF (fun y ob hy ho=>by rw [hy,c13] at ho; cases ho; rfl)⟩
end Go.Proofs.YtgoeenodllmdpaaGreat.B

namespace Go.Proofs.YtgoeenodllmdpaaGreat.B
open Go.RowKit Go.Proofs
set_option linter.unusedVariables false
set_option linter.unusedSimpArgs false
variable {E:Env}
def leftR (t:Int) (ts:List Int):List Int:=ts.filter fun x=>!decide (x=t)
theorem leftR_step {t:Int} {ts:List Int} {i:Nat} (hi:i<ts.length):leftR t (ts.take (i+1))=if ts[i]=t then leftR t (ts.take i) else leftR t (ts.take i)++[ts[i]]:=by
 rw [List.take_succ_eq_append_getElem hi,leftR,List.filter_append]
 by_cases h:ts[i]=t<;>simp [h,leftR]
theorem StoreFree_ok (v:AV) (s:Sr) (tt:Int) (H:Hp) (hs:St H v s) (hb:StB s) :
  AC Tryz.prog E 64 [v,.int .i64 tt] H (fun u H'=>RetS H H' u (freeR s tt)):=by
 have hs0:=hs
 obtain⟨a,b,c,d,rfl,n1,n2,n3,n4,hea,hed⟩:=hs.shape
 refine AC_by fol (tC_le tab2_ok) h_spec_StoreFree ?_
 obtain⟨H1,hH1⟩:∃ H1:Hp,H1=H++[some ⟨[[a,b,c,.int .i64 s.keep,.int .i64 s.time,d]],6,28,false⟩,some ⟨[[.nils,.nils,.nils,.int .i64 0,.int .i64 0,.nils]],6,28,false⟩]:=⟨_,rfl⟩
 have hle1:HLe H H1:=by rw [hH1]; exact HLe.self _ _
 have b0:H1.at H.length=some ⟨[[a,b,c,.int .i64 s.keep,.int .i64 s.time,d]],6,28,false⟩:=by rw [hH1]; simp
 have b1:H1.at (H.length+1)=some ⟨[[.nils,.nils,.nils,.int .i64 0,.int .i64 0,.nils]],6,28,false⟩:=by rw [hH1]; simp
 have hl1:H1.length=H.length+2:=by rw [hH1]; simp
 have u1:=Hp.at_lt b1
 simp [c_spec_StoreFree,n1,n2,n3,n4,<- hH1,b0]
 refine cg_use (StoreOk_ok _ s H1 (hs0.le hle1) hb) ?_
 cases hso:storeOk s with
 | false =>
  simp [b1,Hp.at_set,u1,freeR,hso,RetS]
  exact hle1.set (by omega) _
 | true =>
 have hsm:=storeOk_small hso
 simp [b0]
 refine cg_ex (l12Copy_ok _ s H1 (hs0.le hle1) hb hsm.2.2.2.2.2.2.2.1 hsm.2.2.2.2.2.2.2.2) ?_
 rintro v2 H2 ⟨hle2,hm2⟩
 obtain⟨xa,xl,xs,xd,rfl,xn1,xn2,xdi⟩:=hm2.shape
 have b02:=hle2.2 _ _ b0
 have b12:=hle2.2 _ _ b1
 have u0:=Hp.at_lt b02
 have m01:H.length≠H.length+1:=by omega
 obtain⟨H3,hH3⟩:∃ H3:Hp,H3=List.set H2 H.length (some ⟨[[xa,.sl xl 0 3,.sl xs 0 3,.int .i64 s.keep,.int .i64 s.time,xd]],6,28,false⟩):=⟨_,rfl⟩
 have hF3:Fr (fun x=>x=H.length) H2 H3:=by rw [hH3]; exact Fr.one _ _ _
 have hm3:=(hm2.fr hF3 (fun x ob hx ho=>by rw [hx,b02] at ho; cases ho; rfl)).base hle1.1
 have hle3:HLe H H3:=(hle1.trans hle2).fr_le hF3 (fun x hx=>by rw [hx]; exact Nat.le_refl _)
 have b03:H3.at H.length=some ⟨[[xa,.sl xl 0 3,.sl xs 0 3,.int .i64 s.keep,.int .i64 s.time,xd]],6,28,false⟩:=by rw [hH3]; exact Hp.at_set _ u0
 have b13:=hF3.2 _ _ m01.symm b12
 have hp:=hm3.parts
 have hti:=hp.2.1.ints
 have xbd:∀ y,xd.of y->H1.length<=y:=fun y hy=>xdi.2 y hy
 have hlen:=hti.len
 have ts3:s.tms.length<=1000:=hsm.2.2.1
 simp [xn1,xn2,b02,Hp.at_set,u0,<- hH3,b03,hlen,hti.slc]
 refine W_for (fun m t H'=>∃ (i:Nat) (left:AV),i+m=s.tms.length/\t 1=.int .i64 tt/\t 2=.pt H.length 0 0/\t 4=.pt (H.length+1) 0 0/\t 6=left/\t 7=.int .i64 i/\HLe H3 H'/\OwnI H3 H' left (leftR tt (s.tms.take i))) s.tms.length ?_ (tC_mono AC_mono) ?_
 ·exact⟨0,.sl H3.length 0 0,by omega,by simp,by simp,by simp,by simp,by simp,HLe.self _ _,by simpa [leftR] using (OwnM.lit0 (HLe.refl H3):OwnI H3 _ _ [])⟩
 rintro m t H' ⟨i,left,him,h1,h2,h4,h6,h7,hle',hown⟩
 have b0':=hle'.2 _ _ b03
 have hti':=hti.le hle'
 simp [h1,h2,h4,h6,h7,b0',hlen,hti.slc]
 refine c_split (fun hq=>?_) (fun hq=>?_)<;>simp at hq
 ·have hi:i<s.tms.length:=by omega
  obtain⟨o1,i1,ob1,rfl,a1,a2,a3⟩:=hti'.get hi
  have hw:=wrapN (i:=i) (by omega)
  simp [h1,h2,h4,h6,h7,b0',a1,a2,a3,hi]
  refine c_split (fun hq2=>?_) (fun hq2=>?_)<;>simp at hq2<;>simp [h1,h2,h4,h6,h7,b0',a1,a2,a3,hi,hw]
  ·have hll:(leftR tt (s.tms.take i)).length<=i:=Nat.le_trans (List.length_filter_le _ _) (by simp; omega)
   refine appG_add (y:=s.tms[i]) (bytes:=8) (row:=intRow) (H0:=H3) hown hle' (by omega) rfl (fun v5 H5 g1 g2 g3 g4=>?_)
   simp [h1,h2,h4,h6,h7,hw]
   refine⟨m-1,by omega,i+1,by omega,by omega,g1,?_⟩
   rw [leftR_step hi,if_neg hq2]
   exact g2
  ·have hx:s.tms[i]=tt:=by omega
   refine⟨m-1,by omega,i+1,by omega,by omega,hle',?_⟩
   rw [leftR_step hi,if_pos hx]
   exact hown
 ·have hie:i=s.tms.length:=by omega
  subst hie
  rw [List.take_of_length_le (Nat.le_refl _)] at hown
  have hll:(leftR tt s.tms).length<=s.tms.length:=List.length_filter_le _ _
  have b1':=hle'.2 _ _ b13
  have u1':=Hp.at_lt b1'
  have hfr:freeR s tt=if (leftR tt s.tms).length=s.tms.length then none else some { s with tms:=leftR tt s.tms }:=by
   unfold freeR
   rw [if_pos hso]
   rfl
  simp [h1,h2,h4,h6,h7,b0',hown.len,hown.slc,hlen,hti.slc]
  refine c_split (fun hq2=>?_) (fun hq2=>?_)<;>simp at hq2
  ·rw [if_pos (by omega)] at hfr
   simp [h4,b1',Hp.at_set,u1',hfr,RetS]
   exact (hle3.trans hle').set (by omega) _
  ·rw [if_neg (by omega)] at hfr
   have hm4:=hm3.app (ts:=leftR tt s.tms) (hle'.fr (S:=xd.of)) (hown.base hle3.1) (fun y hy=>.inr (hown.2 y hy))
   have u0':=Hp.at_lt b0'
   simp [h2,h4,h6,b0',b1',Hp.at_set,Hp.at_set_ne,List.length_set,u0',u1',m01,m01.symm,hfr,hown.rows.one,hown.rows.cells,hown.rows.cells1,xn1]
   have hF:=((Fr.refl (fun y=>y=H.length\/y=H.length+1) H').set (o:=H.length) (.inl (.inl rfl)) (some ⟨[[xa,.sl xl 0 3,.sl xs 0 3,.int .i64 s.keep,.int .i64 s.time,left]],6,28,false⟩)).set (o:=H.length+1) (.inl (.inr rfl)) (some ⟨[[xa,.sl xl 0 3,.sl xs 0 3,.int .i64 s.keep,.int .i64 s.time,left]],6,28,false⟩)
   exact⟨(hle3.trans hle').fr_le hF (fun y hy=>by rcases hy with h | h<;>omega),_,rfl,MSt.fr hm4 hF (fun y ob hy ho=>by
    rcases hy with h | h
    ·rw [h,b0'] at ho; cases ho; rfl
    ·rw [h,b1'] at ho; cases ho; rfl)⟩
end Go.Proofs.YtgoeenodllmdpaaGreat.B

namespace Go.Proofs.YtgoeenodllmdpaaGreat.B
open Go.RowKit Go.Proofs
set_option linter.unusedVariables false
set_option linter.unusedSimpArgs false
variable {E:Env}
theorem RgP_then {C:CallP} (hm:CMono C) {p:Plan} {K:Tm->Hp->Prop} {t:Tm} {H:Hp} (I:Tm->Hp->Prop) (h1:RgP C p t H I) (h2:∀ t H,I t H->K t H):RgP C p t H K:=RgP_mono hm p t H _ _ h2 h1
theorem late_ok (e:Ent) (o:Nat) (a b c d:AV) (k tm:Int) (H:Hp) (h1:H.at o=some ⟨[[a,b,c,.int .i64 k,.int .i64 tm,d]],6,28,false⟩) :
  AC Tryz.prog E 97 [.ag (entRow e),.pt o 0 0] H (fun v H'=>v=.bool (decide (tm<e.time))/\H'=H):=by
 refine AC_byp (tC_le tabJ_ok) h_impl_StoreOk_1 (by simp) ?_
 have u:=Hp.at_lt h1
 simp [c_impl_StoreOk_1,h1,entRow,Hp.at_app,u]
theorem SvRet.shape {H H':Hp} {v:AV} {o:Option Sv} (h:SvRet H H' v o):∃ l m f r k,v=.tu [.ag [.str l,.str m,.str f,r,.int .i64 k],.bool o.isSome]/\r.cells=[r]/\cells1 r=true/\one r=true/\∀ x,o=some x->l=x.l/\m=x.m/\f=x.f/\k=x.k/\OwnS H H' r x.r/\x.r.length<=12000:=by
 cases o with
 | none=>exact⟨_,_,_,_,_,h,rfl,rfl,rfl,fun x hx=>by cases hx⟩
 | some x =>
  obtain⟨r,rfl,h2,h3⟩:=h
  exact⟨_,_,_,_,_,rfl,Rows.cells h2.1.rows,Rows.cells1 h2.1.rows,Rows.one h2.1.rows,fun y hy=>by cases hy; exact⟨rfl,rfl,rfl,rfl,h2,h3⟩⟩
def SieveAt (H:Hp) (L:Nat) (o:Option Sv):Prop:=∃ l m f r k,H.at L=some ⟨[[.str l,.str m,.str f,r,.int .i64 k]],5,66,false⟩/\∀ x,o=some x->l=x.l/\m=x.m/\f=x.f/\k=x.k/\Strs H r x.r/\x.r.length<=12000
theorem SvRet.fill {H H' H2:Hp} {l m f:ByteArray} {r:AV} {k:Int} {L:Nat} {o:Option Sv} (h:∀ x,o=some x->l=x.l/\m=x.m/\f=x.f/\k=x.k/\OwnS H H' r x.r/\x.r.length<=12000)
  (hb:H2.at L=some ⟨[[.str l,.str m,.str f,r,.int .i64 k]],5,66,false⟩) (hs:∀ xs,OwnS H H' r xs->Strs H2 r xs):SieveAt H2 L o :=
 ⟨l,m,f,r,k,hb,fun x hx=>by
  obtain⟨h1,h2,h3,h4,h5,h6⟩:=h x hx
  exact⟨h1,h2,h3,h4,hs _ h5,h6⟩⟩
theorem OwnS.set5 {H H':Hp} {r:AV} {xs:List ByteArray} (h:OwnS H H' r xs) {L:Nat} {ob:Ob} (ho:H'.at L=some ob) (he:ob.esz=5) (x:Option Ob):Strs (List.set H' L x) r xs :=
 (h.fr (Fr.one H' L x) (fun y hy hh=>by
  subst hh
  have:=h.1.esz hy ho
  omega)).strs
set_option maxHeartbeats 1600000 in
theorem implStoreOk_ok (v:AV) (s:Sr) (H:Hp) (hs:St H v s) (hb:StB s):AC Tryz.prog E 24 [v] H (fun u H'=>u=.bool (storeOk s)/\H'=H):=by
 obtain⟨a,b,c,d,lr,sr,rfl,ha,hb1,hlr,hc,hsr,hd⟩:=hs
 obtain⟨hB1,hB2,hB3,hB4,hB5,hB6,hB7,hB8,hB9⟩:=hb
 refine AC_byp (tC_le tabJ_ok) h_impl_StoreOk (by simp) ?_
 rw [<- storeI_eq]
 have ll:=hlr.length
 have ls:=hsr.length
 obtain⟨H1,hH1⟩:∃ H1:Hp,H1=H++[some ⟨[[a,b,c,.int .i64 s.keep,.int .i64 s.time,d]],6,28,false⟩]:=⟨_,rfl⟩
 have hle1:HLe H H1:=by rw [hH1]; exact HLe.self _ _
 have b0:H1.at H.length=some ⟨[[a,b,c,.int .i64 s.keep,.int .i64 s.time,d]],6,28,false⟩:=by rw [hH1]; simp
 have l1:=hb1.len
 have l2:=hc.len
 have l3:=ha.len
 have hf:headI s=false->storeI s=false:=fun h=>by simp [storeI,h]
 rcases Classical.em (s.lev.length=3) with e1 | e1
 rotate_left
 ·have i1:¬(lr.length:Int)=3:=by omega
  simp [c_impl_StoreOk,stAV,Rows.one ha,Rows.one hb1,Rows.one hc,Rows.one hd,<- hH1,b0,l1,hb1.slc,i1]
  exact⟨hf (by simp [headI,e1]),hle1⟩
 rcases Classical.em (s.sv.length=3) with e2 | e2
 rotate_left
 ·have i1:(lr.length:Int)=3:=by omega
  have i2:¬(sr.length:Int)=3:=by omega
  simp [c_impl_StoreOk,stAV,Rows.one ha,Rows.one hb1,Rows.one hc,Rows.one hd,<- hH1,b0,l1,hb1.slc,l2,hc.slc,i1,i2]
  exact⟨hf (by simp [headI,e2]),hle1⟩
 have i1:(lr.length:Int)=3:=by omega
 have i2:(sr.length:Int)=3:=by omega
 simp [c_impl_StoreOk,stAV,Rows.one ha,Rows.one hb1,Rows.one hc,Rows.one hd,<- hH1,b0,l1,hb1.slc,l2,hc.slc,i1,i2]
 refine cg_use (implRunOk_ok a s.top H1 (ha.le hle1) hB1.2.short (by have:=hB1.1; omega)) ?_
 cases h3:runOk s.top with
 | false =>
  simp
  exact⟨hf (by simp [headI,h3]),hle1⟩
 | true =>
 simp [b0,l3,ha.slc]
 rcases Classical.em (s.top.length<=4) with e4 | e4
 rotate_left
 ·have i4:(4:Int)<(s.top.length:Int):=by omega
  simp [b0,l3,ha.slc,i4]
  exact⟨hf (by simp [headI,e4]),hle1⟩
 have i4:¬((4:Int)<(s.top.length:Int)):=by omega
 rcases Classical.em (0<=s.time/\s.time<=999) with e5 | e5
 rotate_left
 ·have e5':decide (0<=s.time/\s.time<=999)=false:=decide_eq_false e5
  simp [b0,l3,ha.slc,i4,e5']
  exact⟨hf (by simp only [headI,e5']; simp),hle1⟩
 simp [b0,l3,ha.slc,i4,e5]
 refine cg_use (timesOk_ok d s.tms s.time H1 (hd.le hle1) hB5) ?_
 cases h6:timesR s.tms s.time with
 | false =>
  simp
  exact⟨hf (by simp [headI,h6]),hle1⟩
 | true =>
 have hhead:headI s=true:=by simp [headI,e1,e2,h3,e4,e5,h6]
 simp [b0,l1,hb1.slc,i1]
 refine W_for (fun m t H'=>∃ (n:Nat) (v:AV),n+m=3/\t 1=.pt H.length 0 0/\t 3=v/\t 47=b/\t 48=.int .i64 3/\t 49=.int .i64 n/\HLe H1 H'/\Ents H' v (aboveI s n)/\∀ i,i<n->okI s i=true) 3 ?_ (tC_mono AC_mono) ?_
 ·exact⟨0,a,by simp,by simp,by simp,by simp,by simp,by simp,HLe.refl _,by rw [aboveI_0]; exact ha.le hle1,by simp⟩
 rintro m t H' ⟨n,v,hnm,t1,t3,t47,t48,t49,hle,hv,hok⟩
 simp [t1,t3,t47,t48,t49]
 refine c_split (fun hq=>?_) (fun hq=>?_)<;>simp at hq
 ·have hn3:n<3:=by omega
  have hnl:n<lr.length:=by omega
  obtain⟨o1,j1,ob1,rfl,aH,a2,a3⟩:=hb1.get hnl
  obtain⟨u,hu,hue⟩:=hlr.get n hnl (by omega)
  rw [hu] at a3
  have a1:=(hle1.trans hle).2 _ _ aH
  have bb:=hle.2 _ _ b0
  have hnI:(n:Int)<lr.length:=by omega
  obtain⟨es,hes⟩:∃ es,es=s.lev[n]:=⟨_,rfl⟩
  rw [<- hes] at hue
  have hEs:EsB es:=by rw [hes]; exact hB2 _ (List.getElem_mem _)
  have hg1:s.lev.getD n []=es:=by rw [hes]; simp [show n<s.lev.length by omega]
  have hfn:okI s n=false->storeI s=false:=fun h=>by
   have:n=0\/n=1\/n=2:=by omega
   rcases this with rfl | rfl | rfl<;>simp [storeI,h]
  have hue':=hue.le (hle1.trans hle)
  obtain⟨ks,hks⟩:∃ ks,ks=if runOk es=true then keysR es else []:=⟨_,rfl⟩
  have hks1:∀ k∈ks,k.size<4611686018427387904:=by
   rw [hks]
   split
   ·exact keysR_short hEs.2
   ·intro k hk
    cases hk
  have hks2:ks.length<4611686018427387904:=by
   have:=keysR_len es
   have:=hEs.1
   rw [hks]
   split
   ·omega
   ·simp
  simp [-RgP_both,t1,t3,t47,t48,t49,hnl,a1,a2,a3,hnI,bb]
  refine RgP_then (tC_mono AC_mono) (fun t H2=>t 1=.pt H.length 0 0/\t 3=v/\t 4=.int .i64 n/\t 5=u/\t 47=.sl o1 j1 lr.length/\t 48=.int .i64 3/\t 49=.int .i64 n/\HLe H' H2/\∃ L,t 6=.pt L 0 0/\t 7=.bool (sieveO ks s.keep).isSome/\SieveAt H2 L (sieveO ks s.keep)) ?_ ?_
  ·have hrk:=RunKeys_ok (E:=E) u es
   rw [<- hks] at hrk
   rw [RgP_both]
   refine⟨?_,?_⟩
   ·simp [t1,t3,t47,t48,t49]
    refine cg_ex (hrk H' hue' hEs) ?_
    rintro w H2 ⟨hle2,hw⟩
    have bb2:=hle2.2 _ _ bb
    simp [t1,bb2]
    refine⟨?_,?_⟩
    ·refine cg_ex (implSieveOf_ok w ks s.keep H2 hw.strs hks1 hks2) ?_
     rintro v2 H3 ⟨hle3,hret⟩
     obtain⟨l,m',f,r,k,rfl,hr1,hr2,hr3,hx⟩:=hret.shape
     have bb3:=hle3.2 _ _ bb2
     have ub:=Hp.at_lt bb3
     simp [t1,t3,t47,t48,t49,bb3,hr1,hr2,hr3,Hp.at_app,ub]
     exact⟨(hle2.trans hle3).app _,SvRet.fill hx (by simp) (fun xs h=>h.strs.le (HLe.self _ _))⟩
    ·have ub:=Hp.at_lt bb2
     obtain⟨G,hG⟩:∃ G:Hp,G=H2++[some ⟨[[.str ⟨#[]⟩,.str ⟨#[]⟩,.str ⟨#[]⟩,.nils,.int .i64 0]],5,66,false⟩]:=⟨_,rfl⟩
     have hleG:HLe H2 G:=by rw [hG]; exact HLe.self _ _
     have bG:G.at H2.length=some ⟨[[.str ⟨#[]⟩,.str ⟨#[]⟩,.str ⟨#[]⟩,.nils,.int .i64 0]],5,66,false⟩:=by rw [hG]; simp
     simp [t1,<- hG,hleG.2 _ _ bb2]
     refine cg_ex (implSieveOf_ok w ks s.keep G (hw.strs.le hleG) hks1 hks2) ?_
     rintro v2 H3 ⟨hle3,hret⟩
     obtain⟨l,m',f,r,k,rfl,hr1,hr2,hr3,hx⟩:=hret.shape
     have b3:=hle3.2 _ _ bG
     have u3:=Hp.at_lt b3
     simp [t1,t3,t47,t48,t49,b3,u3,hr1,hr2,hr3]
     exact⟨((hle2.trans hleG).trans hle3).set (hle2.1) _,SvRet.fill hx (Hp.at_set _ u3) (fun xs h=>h.set5 b3 rfl _)⟩
   ·obtain⟨G,hG⟩:∃ G:Hp,G=H'++[some ⟨[[.str ⟨#[]⟩,.str ⟨#[]⟩,.str ⟨#[]⟩,.nils,.int .i64 0]],5,66,false⟩]:=⟨_,rfl⟩
    have hleG:HLe H' G:=by rw [hG]; exact HLe.self _ _
    have bG:G.at H'.length=some ⟨[[.str ⟨#[]⟩,.str ⟨#[]⟩,.str ⟨#[]⟩,.nils,.int .i64 0]],5,66,false⟩:=by rw [hG]; simp
    have bbG:=hleG.2 _ _ bb
    simp [t1,t3,t47,t48,t49,<- hG,bbG]
    refine cg_ex (hrk G (hue'.le hleG) hEs) ?_
    rintro w H2 ⟨hle2,hw⟩
    have bb2:=hle2.2 _ _ bbG
    have bG2:=hle2.2 _ _ bG
    simp [t1,bb2]
    refine cg_ex (implSieveOf_ok w ks s.keep H2 hw.strs hks1 hks2) ?_
    rintro v2 H3 ⟨hle3,hret⟩
    obtain⟨l,m',f,r,k,rfl,hr1,hr2,hr3,hx⟩:=hret.shape
    have b3:=hle3.2 _ _ bG2
    have u3:=Hp.at_lt b3
    simp [t1,t3,t47,t48,t49,b3,u3,hr1,hr2,hr3]
    exact⟨((hleG.trans hle2).trans hle3).set (Nat.le_refl _) _,SvRet.fill hx (Hp.at_set _ u3) (fun xs h=>h.set5 b3 rfl _)⟩
  ·clear t1 t3 t47 t48 t49
   rintro t H2 ⟨t1,t3,t4,t5,t47,t48,t49,hle2,L,t6,t7,hSA⟩
   have hleA:=hle.trans hle2
   have hle0:=hle1.trans hleA
   have hue2:=hue.le hle0
   have bb2:=hle2.2 _ _ bb
   have hw:=wrapN (i:=n) (by omega)
   have hok9:okI s n=(runOk es&&decide (es.length<=sizeL n)&&decide (sieveO (keysR es) s.keep=some (s.sv.getD n default))&&newerI (aboveI s n) es&&!lateI s.time (aboveI s n)):=by
    unfold okI
    rw [hg1]
   simp [t1,t3,t4,t5,t6,t7,t47,t48,t49]
   refine cg_use (implRunOk_ok u es H2 hue2 hEs.2.short (by have:=hEs.1; omega)) ?_
   cases r1:runOk es with
   | false =>
    simp
    exact⟨hfn (by rw [hok9,r1]; rfl),hle0⟩
   | true =>
   rw [r1] at hks
   simp only [if_true] at hks
   subst hks
   simp [t1,t3,t4,t5,t6,t7,t47,t48,t49,hue2.len,hue2.slc]
   refine cg_use (room_ok n H2 (by omega)) ?_
   rcases Nat.lt_or_ge (sizeL n) es.length with r2 | r2
   ·have r2':(sizeL n:Int)<(es.length:Int):=by omega
    simp [r2']
    exact⟨hfn (by rw [hok9]; simp [show ¬es.length<=sizeL n by omega]),hle0⟩
   have r2':¬(sizeL n:Int)<(es.length:Int):=by omega
   have his:n<sr.length:=by omega
   obtain⟨o2,j2,ob2,rfl,cH,c2,c3⟩:=hc.get his
   obtain⟨rr,hr,hrs,-⟩:=hsr.get n his (by omega)
   rw [hr] at c3
   have cc:=hle0.2 _ _ cH
   obtain⟨y,hy⟩:∃ y,y=s.sv[n]:=⟨_,rfl⟩
   have hg2:s.sv.getD n default=y:=by rw [hy]; simp [show n<s.sv.length by omega]
   rw [<- hy] at c3 hrs
   rw [hg2] at hok9
   simp [r2',t1,t3,t4,t5,t6,t7,t47,t48,t49]
   cases r3:sieveO (keysR es) s.keep with
   | none =>
    simp
    exact⟨hfn (by rw [hok9,r3]; simp),hle0⟩
   | some x =>
   rw [r3] at hSA
   obtain⟨l,m',f,r,k,g1,g2⟩:=hSA
   obtain⟨rfl,rfl,rfl,rfl,hxr,hxl⟩:=g2 x rfl
   have hnI2:(n:Int)<sr.length:=by omega
   simp [t1,t3,t4,t5,t6,t7,t47,t48,t49,g1,bb2,cc,c2,c3,his,hnI2]
   refine cg_use (same_ok r rr x y H2 hxr (hrs.le hle0) (by omega)) ?_
   rcases Classical.em (x=y) with r4 | r4
   rotate_left
   ·have r4':decide (x=y)=false:=decide_eq_false r4
    simp [r4']
    exact⟨hfn (by rw [hok9,r3]; simp [r4]),hle0⟩
   have r4':decide (x=y)=true:=decide_eq_true r4
   simp [r4',t1,t3,t4,t5,t6,t7,t47,t48,t49]
   have hv2:=hv.le hle2
   have hab:(aboveI s n).length<=100:=by
    have q0:∀ i,i<n->(s.lev.getD i []).length<=sizeL i:=fun i hi=>(okI_parts (hok i hi)).2.1
    have:n=0\/n=1\/n=2:=by omega
    obtain⟨a0,b0',c0',hl3⟩:∃ x y z,s.lev=[x,y,z]:=by
     match s.lev,e1 with
     | [x,y,z],_=>exact⟨x,y,z,rfl⟩
    rcases this with rfl | rfl | rfl
    ·simp [aboveI]
     omega
    ·have:=q0 0 (by omega)
     simp [aboveI,hl3,sizeL] at this ⊢
     omega
    ·have z0:=q0 0 (by omega)
     have z1:=q0 1 (by omega)
     simp [aboveI,hl3,sizeL] at z0 z1 ⊢
     omega
   refine cg_use (newer_ok v u (aboveI s n) es H2 hv2 hue2 (by omega) hEs.1) ?_
   cases r5:newerI (aboveI s n) es with
   | false =>
    simp
    exact⟨hfn (by rw [hok9,r5]; simp),hle0⟩
   | true =>
   simp [t1,t3,t4,t5,t6,t7,t47,t48,t49]
   refine cg_use (ContainsEnt_ok v (aboveI s n) 97 [.pt H.length 0 0] (fun e=>decide (s.time<e.time)) H2 hv2 (by omega) ?_ (fun _=>rfl)) ?_
   ·intro e _ H3 hle3
    exact late_ok e H.length _ _ _ _ _ _ H3 (hle3.2 _ _ bb2)
   have elate:(aboveI s n).any (fun e=>decide (s.time<e.time))=lateI s.time (aboveI s n):=rfl
   rw [elate]
   cases r6:lateI s.time (aboveI s n) with
   | true =>
    simp
    exact⟨hfn (by rw [hok9,r6]; simp),hle0⟩
   | false =>
   obtain⟨G,hG⟩:∃ G:Hp,G=H2++[some ⟨[[v],[u]],1,23,false⟩]:=⟨_,rfl⟩
   have hleG:HLe H2 G:=by rw [hG]; exact HLe.self _ _
   have bG:G.at H2.length=some ⟨[[v],[u]],1,23,false⟩:=by rw [hG]; simp
   simp [t1,t3,t4,t5,t6,t7,t47,t48,t49,Rows.cells hv,Rows.cells hue,Rows.cells1 hv,Rows.cells1 hue,<- hG]
   refine cg_ex (Concat_ok (.sl H2.length 0 2) [[v],[u]] [aboveI s n,es] G (Rows.whole bG) ⟨⟨v,rfl,hv2.le hleG⟩,⟨u,rfl,hue2.le hleG⟩,trivial⟩ (by
    have h9:sizeL n<=24:=by
     simp only [sizeL]
     omega
    simp [catR]
    omega) (by simp)) ?_
   rintro w H3 ⟨hle3,hwo,-,-⟩
   have ec:catR [aboveI s n,es]=aboveI s (n+1):=by
    simp only [catR,aboveI,List.flatten_cons,List.flatten_nil,List.append_nil]
    rw [List.take_succ_eq_append_getElem (show n<s.lev.length by omega),List.flatten_append,<- hes]
    simp
   rw [ec] at hwo
   simp [t1,t3,t4,t5,t6,t7,t47,t48,t49,hw]
   refine⟨m-1,by omega,n+1,by omega,rfl,(hleA.trans hleG).trans hle3,hwo.ents,fun i hi=>?_⟩
   rcases Nat.lt_or_ge i n with h | h
   ·exact hok i h
   ·have:i=n:=by omega
    subst this
    rw [hok9,r1,r3,r4,r5,r6]
    simp [r2]
 ·have:n=3:=by omega
  subst this
  simp
  have g0:=hok 0 (by omega)
  have g1:=hok 1 (by omega)
  have g2:=hok 2 (by omega)
  exact⟨by simp [storeI,hhead,g0,g1,g2],hle1.trans hle⟩
end Go.Proofs.YtgoeenodllmdpaaGreat.B

namespace Go.Proofs.YtgoeenodllmdpaaGreat.B
open Go.RowKit Go.Proofs
set_option linter.unusedVariables false
set_option linter.unusedSimpArgs false
variable {E:Env}
def LvO (B:Nat) (H:Hp) (row:List AV) (es:List Ent):Prop:=∃ u,row=[u]/\Own 4 99 H u (es.map entRow)/\∀ y,u.of y->B<=y
def SvO (B:Nat) (H:Hp) (row:List AV) (s:Sv):Prop:=∃ r,row=[.str s.l,.str s.m,.str s.f,r,.int .i64 s.k]/\Own 1 9 H r (s.r.map strRow)/\∀ y,r.of y->B<=y
def rowOf (row:List AV) (y:Nat):Prop:=∃ u,u∈row/\u.of y
def RowOff (a b:List AV):Prop:=∀ y,rowOf a y->¬rowOf b y
def SepS (a:AV) (lr sr:List (List AV)):Prop:=OffT a lr/\lr.Pairwise RowOff/\sr.Pairwise RowOff
theorem pw_add {R:List (List AV)} {row:List AV} {n:Nat} (h:R.Pairwise RowOff) (hl:∀ a∈R,∀ y,rowOf a y->y<n) (hn:∀ y,rowOf row y->n<=y):(R++[row]).Pairwise RowOff :=
 List.pairwise_append.2 ⟨h,List.pairwise_singleton _ _,fun a ha b hb y hy hy2=>by
  rw [List.mem_singleton.1 hb] at hy2
  have:=hl a ha y hy
  have:=hn y hy2
  omega⟩
theorem All2.mem1 {α β:Type} {P:α->β->Prop}:∀ {xs:List α} {ys:List β},All2 P xs ys->∀ x∈xs,∃ y,P x y
 | [],[],_,x,hx=>by cases hx
 | a :: xs,b :: ys,h,x,hx=>by
  rcases List.mem_cons.1 hx with rfl | hx
  ·exact⟨b,h.1⟩
  ·exact All2.mem1 h.2 x hx
structure CpS (H H':Hp) (L3 i j:Nat) (v1 lv sv v2:AV) (lr sr:List (List AV)) (s:Sr):Prop where
 bx:H'.at L3=some ⟨[[v1,lv,sv,.int .i64 s.keep,.int .i64 s.time,v2]],6,28,false⟩
 o1:OwnE H H' v1 s.top
 o2:OwnI H H' v2 s.tms
 ol:Own 1 23 H' lv lr
 rl:All2 (LvO H.length H') lr (s.lev.take i)
 nl:∀ x,lv.of x->H.length<=x
 os:Own 5 66 H' sv sr
 rs:All2 (SvO H.length H') sr (s.sv.take j)
 ns:∀ x,sv.of x->H.length<=x
 n3:H.length<=L3
 le:HLe H H'
 sep:SepS v1 lr sr
theorem Own.frE {esz ety:Nat} {S:Nat->Prop} {H H':Hp} {v:AV} {R:List (List AV)} (h:Own esz ety H v R) (hf:Fr S H H') (hS:∀ y ob,S y->H.at y=some ob->ob.ety≠ety):Own esz ety H' v R:=by
 refine h.fr hf (fun y hy hs=>?_)
 rcases h with ⟨rfl,_⟩ | ⟨rfl,_⟩ | ⟨o',ob',rfl,a1,a2,a3,a4,_⟩
 ·exact hy.elim
 ·exact hy.elim
 ·have:o'=y:=hy
  subst this
  exact hS _ _ hs a1 a4
theorem OwnM.frE {α:Type} {esz ety:Nat} {row:α->List AV} {S:Nat->Prop} {H0 H H':Hp} {v:AV} {xs:List α} (h:OwnM esz ety row H0 H v xs) (hf:Fr S H H') (hS:∀ y ob,S y->H.at y=some ob->ob.ety≠ety):OwnM esz ety row H0 H' v xs:=⟨h.1.frE hf hS,h.2⟩
section
variable {H H' H2:Hp} {L3 i j:Nat} {v1 lv sv v2:AV} {lr sr:List (List AV)} {s:Sr}
theorem CpS.hle (h:CpS H H' L3 i j v1 lv sv v2 lr sr s) (hle:HLe H' H2):CpS H H2 L3 i j v1 lv sv v2 lr sr s:=by
 obtain⟨h1,h2,h3,h4,h5,h6,h7,h8,h9,h10,h11,h12⟩:=h
 exact⟨hle.2 _ _ h1,h2.le hle,h3.le hle,h4.le hle,All2.mono (fun _ _ ⟨u,k1,k2,k3⟩=>⟨u,k1,k2.le hle,k3⟩) h5,h6,h7.le hle,All2.mono (fun _ _ ⟨u,k1,k2,k3⟩=>⟨u,k1,k2.le hle,k3⟩) h8,h9,h10,h11.trans hle,h12⟩
theorem CpS.lrl (h:CpS H H' L3 i j v1 lv sv v2 lr sr s):∀ a∈lr,∀ y,rowOf a y->y<H'.length:=by
 intro a ha y hy
 obtain⟨es,u,rfl,hu,_⟩:=All2.mem1 h.rl a ha
 obtain⟨w,hw,hy⟩:=hy
 cases List.mem_singleton.1 hw
 exact hu.lt hy
theorem CpS.srl (h:CpS H H' L3 i j v1 lv sv v2 lr sr s):∀ a∈sr,∀ y,rowOf a y->y<H'.length:=by
 intro a ha y hy
 obtain⟨x,r,rfl,hr,_⟩:=All2.mem1 h.rs a ha
 obtain⟨w,hw,hy⟩:=hy
 simp only [List.mem_cons,List.mem_nil_iff,or_false] at hw
 rcases hw with rfl | rfl | rfl | rfl | rfl
 ·exact hy.elim
 ·exact hy.elim
 ·exact hy.elim
 ·exact hr.lt hy
 ·exact hy.elim
theorem CpS.addL {u lv':AV} (h:CpS H H' L3 i j v1 lv sv v2 lr sr s) (hi:i<s.lev.length) (hu:OwnE H H' u s.lev[i]) {K:Nat} (hK:∀ y,u.of y->K<=y) (hv1:∀ y,v1.of y->y<K) (hlk:∀ a∈lr,∀ y,rowOf a y->y<K) (g1:Own 1 23 H2 lv' (lr++[[u]])) (g2:Fr lv.of H' H2) (g3:∀ y,lv'.of y->lv.of y\/H'.length<=y) :
  CpS H (List.set H2 L3 (some ⟨[[v1,lv',sv,.int .i64 s.keep,.int .i64 s.time,v2]],6,28,false⟩)) L3 (i+1) j v1 lv' sv v2 (lr++[[u]]) sr s:=by
 obtain⟨h1,h2,h3,h4,h5,h6,h7,h8,h9,h10,h11,h12⟩:=h
 have hlv:∀ y ob,lv.of y->H'.at y=some ob->ob.ety=23:=fun y ob hy ho=>h4.ety hy ho
 have nb:¬lv.of L3:=fun hy=>by have:=hlv _ _ hy h1; simp at this
 have b2:=g2.2 _ _ nb h1
 have ub:=Hp.at_lt b2
 have F:Fr (fun y=>y=L3\/lv.of y) H' (List.set H2 L3 (some ⟨[[v1,lv',sv,.int .i64 s.keep,.int .i64 s.time,v2]],6,28,false⟩)):=(g2.mono (fun y hy=>.inl (.inr hy))).set (.inl (.inl rfl)) _
 have hS:∀ y ob,(y=L3\/lv.of y)->H'.at y=some ob->ob.ety=28\/ob.ety=23:=by
  rintro y ob (h | h) ho
  ·subst h
   rw [h1] at ho
   cases ho
   exact .inl rfl
  ·exact .inr (hlv y ob h ho)
 have hne:∀ e,e≠28->e≠23->∀ y ob,(y=L3\/lv.of y)->H'.at y=some ob->ob.ety≠e:=fun e e1 e2 y ob hy ho=>by
  rcases hS y ob hy ho with h | h
  ·rw [h]
   exact e1.symm
  ·rw [h]
   exact e2.symm
 refine⟨Hp.at_set _ ub,h2.frE F (hne _ (by simp) (by simp)),h3.frE F (hne _ (by simp) (by simp)),g1.fr (Fr.one _ _ _) (fun y hy e=>?_),?_,fun y hy=>?_,h7.frE F (hne _ (by simp) (by simp)),All2.mono (fun _ _ ⟨u,k1,k2,k3⟩=>⟨u,k1,k2.frE F (hne _ (by simp) (by simp)),k3⟩) h8,h9,h10,h11.fr_le F (fun y hy=>?_),⟨h12.1.add (fun y hy hy2=>by have:=hK y hy2; have:=hv1 y hy; omega),pw_add h12.2.1 hlk (fun y hy=>by
  obtain⟨w,hw,hy⟩:=hy
  cases List.mem_singleton.1 hw
  exact hK y hy),h12.2.2⟩⟩
 ·subst e
  exact absurd (g1.ety hy b2) (by simp)
 ·rw [List.take_succ_eq_append_getElem hi]
  exact All2.append (All2.mono (fun _ _ ⟨u,k1,k2,k3⟩=>⟨u,k1,k2.frE F (hne _ (by simp) (by simp)),k3⟩) h5) ⟨⟨u,rfl,hu.1.frE F (hne _ (by simp) (by simp)),hu.2⟩,trivial⟩
 ·rcases g3 y hy with h | h
  ·exact h6 y h
  ·have:=h11.1
   omega
 ·rcases hy with h | h
  ·omega
  ·exact h6 y h
theorem CpS.addS {r sv':AV} (h:CpS H H' L3 i j v1 lv sv v2 lr sr s) (hj:j<s.sv.length) (hr:OwnS H H' r s.sv[j].r) {K:Nat} (hK:∀ y,r.of y->K<=y) (hsk:∀ a∈sr,∀ y,rowOf a y->y<K) (g1:Own 5 66 H2 sv' (sr++[[.str s.sv[j].l,.str s.sv[j].m,.str s.sv[j].f,r,.int .i64 s.sv[j].k]])) (g2:Fr sv.of H' H2) (g3:∀ y,sv'.of y->sv.of y\/H'.length<=y) :
  CpS H (List.set H2 L3 (some ⟨[[v1,lv,sv',.int .i64 s.keep,.int .i64 s.time,v2]],6,28,false⟩)) L3 i (j+1) v1 lv sv' v2 lr (sr++[[.str s.sv[j].l,.str s.sv[j].m,.str s.sv[j].f,r,.int .i64 s.sv[j].k]]) s:=by
 obtain⟨h1,h2,h3,h4,h5,h6,h7,h8,h9,h10,h11,h12⟩:=h
 have hlv:∀ y ob,sv.of y->H'.at y=some ob->ob.ety=66:=fun y ob hy ho=>h7.ety hy ho
 have nb:¬sv.of L3:=fun hy=>by have:=hlv _ _ hy h1; simp at this
 have b2:=g2.2 _ _ nb h1
 have ub:=Hp.at_lt b2
 have F:Fr (fun y=>y=L3\/sv.of y) H' (List.set H2 L3 (some ⟨[[v1,lv,sv',.int .i64 s.keep,.int .i64 s.time,v2]],6,28,false⟩)):=(g2.mono (fun y hy=>.inl (.inr hy))).set (.inl (.inl rfl)) _
 have hS:∀ y ob,(y=L3\/sv.of y)->H'.at y=some ob->ob.ety=28\/ob.ety=66:=by
  rintro y ob (h | h) ho
  ·subst h
   rw [h1] at ho
   cases ho
   exact .inl rfl
  ·exact .inr (hlv y ob h ho)
 have hne:∀ e,e≠28->e≠66->∀ y ob,(y=L3\/sv.of y)->H'.at y=some ob->ob.ety≠e:=fun e e1 e2 y ob hy ho=>by
  rcases hS y ob hy ho with h | h
  ·rw [h]
   exact e1.symm
  ·rw [h]
   exact e2.symm
 refine⟨Hp.at_set _ ub,h2.frE F (hne _ (by simp) (by simp)),h3.frE F (hne _ (by simp) (by simp)),h4.frE F (hne _ (by simp) (by simp)),All2.mono (fun _ _ ⟨u,k1,k2,k3⟩=>⟨u,k1,k2.frE F (hne _ (by simp) (by simp)),k3⟩) h5,h6,g1.fr (Fr.one _ _ _) (fun y hy e=>?_),?_,fun y hy=>?_,h10,h11.fr_le F (fun y hy=>?_),⟨h12.1,h12.2.1,pw_add h12.2.2 hsk (fun y hy=>by
  obtain⟨w,hw,hy⟩:=hy
  simp only [List.mem_cons,List.mem_nil_iff,or_false] at hw
  rcases hw with rfl | rfl | rfl | rfl | rfl
  ·exact hy.elim
  ·exact hy.elim
  ·exact hy.elim
  ·exact hK y hy
  ·exact hy.elim)⟩⟩
 ·subst e
  exact absurd (g1.ety hy b2) (by simp)
 ·rw [List.take_succ_eq_append_getElem hj]
  exact All2.append (All2.mono (fun _ _ ⟨u,k1,k2,k3⟩=>⟨u,k1,k2.frE F (hne _ (by simp) (by simp)),k3⟩) h8) ⟨⟨r,rfl,hr.1.frE F (hne _ (by simp) (by simp)),hr.2⟩,trivial⟩
 ·rcases g3 y hy with h | h
  ·exact h9 y h
  ·have:=h11.1
   omega
 ·rcases hy with h | h
  ·omega
  ·exact h9 y h
def RoOwn (own:Bool) (esz ety:Nat) (H:Hp) (v:AV) (R:List (List AV)):Prop:=if own=true then Own esz ety H v R else Rows esz H v R
theorem RoOwn.rows {own:Bool} {esz ety:Nat} {H:Hp} {v:AV} {R:List (List AV)} (h:RoOwn own esz ety H v R):Rows esz H v R:=by
 cases own
 ·exact h
 ·exact Own.rows h
theorem RoOwn.one {own:Bool} {esz ety:Nat} {H:Hp} {v:AV} {R:List (List AV)} (h:RoOwn own esz ety H v R):one v=true:=h.rows.one
theorem RoOwn.fr {own:Bool} {S:Nat->Prop} {esz ety:Nat} {H H':Hp} {v:AV} {R:List (List AV)} (h:RoOwn own esz ety H v R) (hf:Fr S H H') (hs:∀ o,v.of o->¬S o):RoOwn own esz ety H' v R:=by
 cases own
 ·exact Rows.fr h hf hs
 ·exact Own.fr h hf hs
def FarP (own:Bool) (P:AV->List (List AV)->List (List AV)->Prop) (B:Nat) (H:Hp) (v:AV) (s:Sr):Prop:=∃ a b c d lr sr,v=stAV a b c s d/\RoOwn own 4 99 H a (s.top.map entRow)/\RoOwn own 1 23 H b lr/\All2 (fun row es=>∃ u,row=[u]/\RoOwn own 4 99 H u (es.map entRow)/\∀ y,u.of y->B<=y) lr s.lev/\RoOwn own 5 66 H c sr /\
 All2 (fun row s=>∃ r,row=[.str s.l,.str s.m,.str s.f,r,.int .i64 s.k]/\RoOwn own 1 9 H r (s.r.map strRow)/\∀ y,r.of y->B<=y) sr s.sv/\RoOwn own 1 3 H d (s.tms.map intRow)/\(∀ y,a.of y\/b.of y\/c.of y\/d.of y->B<=y)/\P a lr sr
abbrev FarS:=FarP true SepS
theorem FarP.fr {own:Bool} {S:Nat->Prop} {P:AV->List (List AV)->List (List AV)->Prop} {B:Nat} {H H':Hp} {v:AV} {s:Sr} (h:FarP own P B H v s) (hf:Fr S H H') (hS:∀ y,S y->y<B\/∀ ob,H.at y=some ob->ob.esz=6):FarP own P B H' v s:=by
 have key:∀ {esz ety:Nat} {w:AV} {R:List (List AV)},RoOwn own esz ety H w R->esz≠6->(∀ y,w.of y->B<=y)->RoOwn own esz ety H' w R:=by
  intro esz ety w R hr he hw
  refine hr.fr hf (fun y hy hs=>?_)
  rcases hr.rows with ⟨rfl,_⟩ | ⟨rfl,_⟩ | ⟨o,i,ob,rfl,h2,h3,h4⟩
  ·exact hy.elim
  ·exact hy.elim
  ·have:o=y:=hy
   subst this
   rcases hS o hs with h | h
   ·have:=hw o rfl
    omega
   ·exact he (by rw [<- h3]; exact h _ h2)
 obtain⟨a,b,c,d,lr,sr,e,h1,h2,h3,h4,h5,h6,h7,h8⟩:=h
 exact⟨a,b,c,d,lr,sr,e,key h1 (by simp) (fun y hy=>h7 y (.inl hy)),key h2 (by simp) (fun y hy=>h7 y (.inr (.inl hy))),All2.mono (fun _ _ ⟨u,k1,k2,k3⟩=>⟨u,k1,key k2 (by simp) k3,k3⟩) h3,
  key h4 (by simp) (fun y hy=>h7 y (.inr (.inr (.inl hy)))),All2.mono (fun _ _ ⟨u,k1,k2,k3⟩=>⟨u,k1,key k2 (by simp) k3,k3⟩) h5,key h6 (by simp) (fun y hy=>h7 y (.inr (.inr (.inr hy)))),h7,h8⟩
theorem FarP.base {own:Bool} {B B':Nat} {H:Hp} {v:AV} {s:Sr} {P:AV->List (List AV)->List (List AV)->Prop} (h:FarP own P B H v s) (hb:B'<=B):FarP own P B' H v s:=by
 obtain⟨a,b,c,d,lr,sr,e,h1,h2,h3,h4,h5,h6,h7,h8⟩:=h
 exact⟨a,b,c,d,lr,sr,e,h1,h2,All2.mono (fun _ _ ⟨u,k1,k2,k3⟩=>⟨u,k1,k2,fun y hy=>Nat.le_trans hb (k3 y hy)⟩) h3,h4,All2.mono (fun _ _ ⟨u,k1,k2,k3⟩=>⟨u,k1,k2,fun y hy=>Nat.le_trans hb (k3 y hy)⟩) h5,h6,fun y hy=>Nat.le_trans hb (h7 y hy),h8⟩
theorem FarP.st {own:Bool} {B:Nat} {H:Hp} {v:AV} {s:Sr} {P:AV->List (List AV)->List (List AV)->Prop} (h:FarP own P B H v s):St H v s:=by
 obtain⟨a,b,c,d,lr,sr,e,h1,h2,h3,h4,h5,h6,h7,h8⟩:=h
 exact⟨a,b,c,d,lr,sr,e,h1.rows,h2.rows,All2.mono (fun _ _ ⟨u,k1,k2,k3⟩=>⟨u,k1,k2.rows⟩) h3,h4.rows,All2.mono (fun _ _ ⟨u,k1,k2,k3⟩=>⟨u,k1,k2.rows,fun _ _ h=>h⟩) h5,h6.rows⟩
theorem CpS.fin (h:CpS H H' L3 3 3 v1 lv sv v2 lr sr s) (hl:s.lev.length=3) (hs:s.sv.length=3):MSt H H' (.ag [v1,lv,sv,.int .i64 s.keep,.int .i64 s.time,v2]) s/\FarS H.length H' (.ag [v1,lv,sv,.int .i64 s.keep,.int .i64 s.time,v2]) s:=by
 obtain⟨h1,h2,h3,h4,h5,h6,h7,h8,h9,h10,h11,h12⟩:=h
 rw [List.take_of_length_le (by omega)] at h5 h8
 have ll:=h5.length
 have ls:=h8.length
 obtain⟨ol,rfl⟩:=h4.sl (by omega)
 obtain⟨os,rfl⟩:=h7.sl (by omega)
 rw [ll] at h4
 rw [ls] at h7
 obtain⟨e1,obl,b1,-,-,b2,-⟩:=h4.ob
 have hno:¬v2.of ol:=fun hx=>by
  have:=h3.1.ety hx b1
  rw [b2] at this
  simp at this
 refine⟨⟨v1,ol,os,v2,lr,sr,by rw [stAV,ll,ls],h2,h4,All2.mono (fun _ _ ⟨u,k1,k2,k3⟩=>⟨u,k1,k2.rows⟩) h5,h7,?_,h3,hno,h6 ol rfl,h9 os rfl,hl,hs,h12.1,fun u hu y hy=>by
  obtain⟨es,w,e,hw,hwb⟩:=All2.mem1 h5 _ hu
  cases e
  exact hwb y hy⟩,v1,_,_,v2,lr,sr,rfl,h2.1,by rw [ll]; exact h4,All2.mono (fun _ _ ⟨u,k1,k2,k3⟩=>⟨u,k1,k2,k3⟩) h5,by rw [ls]; exact h7,All2.mono (fun _ _ ⟨u,k1,k2,k3⟩=>⟨u,k1,k2,k3⟩) h8,h3.1,fun y hy=>?_,h12⟩
 rotate_left
 ·rcases hy with h | h | h | h
  ·exact h2.2 y h
  ·exact h6 y h
  ·exact h9 y h
  ·exact h3.2 y h
 refine All2.mono (fun row x hr=>?_) h8
 obtain⟨r,k1,k2,k3⟩:=hr
 refine⟨r,k1,k2.rows,fun y hx hh=>?_⟩
 rcases hh with hh | hh
 ·subst hh
  have:=k2.ety hx b1
  rw [b2] at this
  simp at this
 ·rcases h3.1 with ⟨rfl,_⟩ | ⟨rfl,_⟩ | ⟨o',ob',rfl,a1,a2,a3,a4,_⟩
  ·exact hh.elim
  ·exact hh.elim
  ·have:o'=y:=hh
   subst this
   have:=k2.ety hx a1
   rw [a4] at this
   simp at this
end
theorem LvRow.own {H:Hp} {row:List AV} {es:List Ent} {B:Nat} (h:LvO B H row es):LvRow H row es:=by
 obtain⟨u,h1,h2,h3⟩:=h
 exact⟨u,h1,h2.rows⟩
set_option maxHeartbeats 1600000 in
theorem clone_ok (v:AV) (s:Sr) (H:Hp) (hs:St H v s) (hb:StB s) (hl3:s.lev.length=3) (hs3:s.sv.length=3) :
  AC Tryz.prog E 150 [v] H (fun u H'=>HLe H H'/\MSt H H' u s/\FarS H.length H' u s):=by
 obtain⟨a,b,c,d,lr,sr,rfl,ha,hb1,hlr,hc,hsr,hd⟩:=hs
 obtain⟨hB1,hB2,hB3,hB4,hB5,hB6,hB7,hB8,hB9⟩:=hb
 refine AC_by fol (tC_le tabJ_ok) h_impl_Store_clone ?_
 have ll:=hlr.length
 have ls:=hsr.length
 obtain⟨H1,hH1⟩:∃ H1:Hp,H1=H++[some ⟨[[a,b,c,.int .i64 s.keep,.int .i64 s.time,d]],6,28,false⟩,some ⟨[[.nils,.nils,.nils,.int .i64 0,.int .i64 0,.nils]],6,28,false⟩]:=⟨_,rfl⟩
 have hle1:HLe H H1:=by rw [hH1]; exact HLe.self _ _
 have b0:H1.at H.length=some ⟨[[a,b,c,.int .i64 s.keep,.int .i64 s.time,d]],6,28,false⟩:=by rw [hH1]; simp
 have b1:H1.at (H.length+1)=some ⟨[[.nils,.nils,.nils,.int .i64 0,.int .i64 0,.nils]],6,28,false⟩:=by rw [hH1]; simp
 have hl1:H1.length=H.length+2:=by rw [hH1]; simp
 have l1:=hb1.len
 rw [ll,hl3] at l1
 simp [-RgP_both,c_impl_Store_clone,stAV,Rows.one ha,Rows.one hb1,Rows.one hc,Rows.one hd,<- hH1,b0]
 refine RgP_then (tC_mono AC_mono) (fun t H2=>t 1=.pt H.length 0 0/\t 2=.pt (H.length+1) 0 0/\∃ L3 v1 v2,t 3=.pt L3 0 0/\H.length+2<=L3/\HLe H1 H2/\CpS H H2 L3 0 0 v1 .nils .nils v2 [] [] s) ?_ ?_
 ·have fill:∀ {H2:Hp} {L3:Nat} {v1 v2:AV},H2.at L3=some ⟨[[v1,.nils,.nils,.int .i64 s.keep,.int .i64 s.time,v2]],6,28,false⟩->OwnE H H2 v1 s.top->OwnI H H2 v2 s.tms->H.length<=L3->HLe H H2->CpS H H2 L3 0 0 v1 .nils .nils v2 [] [] s :=
   fun h1 h2 h3 h4 h5=>⟨h1,h2,h3,Own.nils,trivial,fun x hx=>hx.elim,Own.nils,trivial,fun x hx=>hx.elim,h4,h5,OffT.nil _,List.Pairwise.nil,List.Pairwise.nil⟩
  rw [RgP_both]
  refine⟨?_,?_⟩
  ·simp
   refine cg_ex (cloneRun_ok a s.top H1 (ha.le hle1) hB1.1) ?_
   rintro v1 H2 ⟨hle2,hv1⟩
   have b2:=hle2.2 _ _ b0
   have hv1':=hv1.base hle1.1
   simp [b2]
   refine⟨?_,?_⟩
   ·refine cg_ex (cloneInts_ok d s.tms H2 (hd.le (hle1.trans hle2)) hB5) ?_
    rintro v2 H3 ⟨hle3,hv2⟩
    have b3:=hle3.2 _ _ b2
    have hv2':=hv2.base (Nat.le_trans hle1.1 hle2.1)
    have u3:=Hp.at_lt b3
    simp [b3,Rows.cells hv1.1.rows,Rows.cells1 hv1.1.rows,Rows.cells hv2.1.rows,Rows.cells1 hv2.1.rows,Rows.one hv1.1.rows,Rows.one hv2.1.rows,Hp.at_app,u3]
    refine⟨by have:=hle2.1; have:=hle3.1; omega,(hle2.trans hle3).app _,v1,v2,?_⟩
    exact fill (by simp) (hv1'.le (hle3.app _)) (hv2'.le (HLe.self _ _)) (by have:=hle1.1; have:=hle2.1; have:=hle3.1; omega) (((hle1.trans hle2).trans hle3).app _)
   ·obtain⟨G,hG⟩:∃ G:Hp,G=H2++[some ⟨[[.nils,.nils,.nils,.int .i64 0,.int .i64 0,.nils]],6,28,false⟩]:=⟨_,rfl⟩
    have hleG:HLe H2 G:=by rw [hG]; exact HLe.self _ _
    have bG:G.at H2.length=some ⟨[[.nils,.nils,.nils,.int .i64 0,.int .i64 0,.nils]],6,28,false⟩:=by rw [hG]; simp
    have bbG:=hleG.2 _ _ b2
    simp [<- hG,bbG]
    refine cg_ex (cloneInts_ok d s.tms G (hd.le ((hle1.trans hle2).trans hleG)) hB5) ?_
    rintro v2 H3 ⟨hle3,hv2⟩
    have b3:=hle3.2 _ _ bG
    have bb3:=hle3.2 _ _ bbG
    have hv2':=hv2.base (Nat.le_trans (Nat.le_trans hle1.1 hle2.1) hleG.1)
    have u3:=Hp.at_lt b3
    simp [b3,bb3,u3,Rows.cells hv1.1.rows,Rows.cells1 hv1.1.rows,Rows.cells hv2.1.rows,Rows.cells1 hv2.1.rows,Rows.one hv1.1.rows,Rows.one hv2.1.rows]
    have ge:=Nat.le_trans hle1.1 hle2.1
    refine⟨by have:=hle2.1; omega,((hle2.trans hleG).trans hle3).set (by have:=hle2.1; omega) _,v1,v2,?_⟩
    have F:=Fr.one H3 H2.length (some ⟨[[v1,.nils,.nils,.int .i64 s.keep,.int .i64 s.time,v2]],6,28,false⟩)
    have hne:∀ e,e≠28->∀ y ob,y=H2.length->H3.at y=some ob->ob.ety≠e:=fun e he y ob hy ho=>by
     rw [hy,b3] at ho
     cases ho
     exact he.symm
    exact fill (Hp.at_set _ u3) ((hv1'.le (hleG.trans hle3)).frE F (hne _ (by simp))) (hv2'.frE F (hne _ (by simp))) (by omega) ((((hle1.trans hle2).trans hleG).trans hle3).set (by omega) _)
  ·obtain⟨G,hG⟩:∃ G:Hp,G=H1++[some ⟨[[.nils,.nils,.nils,.int .i64 0,.int .i64 0,.nils]],6,28,false⟩]:=⟨_,rfl⟩
   have hleG:HLe H1 G:=by rw [hG]; exact HLe.self _ _
   have bG:G.at H1.length=some ⟨[[.nils,.nils,.nils,.int .i64 0,.int .i64 0,.nils]],6,28,false⟩:=by rw [hG]; simp
   have bbG:=hleG.2 _ _ b0
   simp [<- hG,bbG]
   refine cg_ex (cloneRun_ok a s.top G (ha.le (hle1.trans hleG)) hB1.1) ?_
   rintro v1 H2 ⟨hle2,hv1⟩
   have bG2:=hle2.2 _ _ bG
   have bb2:=hle2.2 _ _ bbG
   have hv1':=hv1.base (Nat.le_trans hle1.1 hleG.1)
   simp [bb2]
   refine cg_ex (cloneInts_ok d s.tms H2 (hd.le ((hle1.trans hleG).trans hle2)) hB5) ?_
   rintro v2 H3 ⟨hle3,hv2⟩
   have b3:=hle3.2 _ _ bG2
   have bb3:=hle3.2 _ _ bb2
   have hv2':=hv2.base (Nat.le_trans (Nat.le_trans hle1.1 hleG.1) hle2.1)
   have u3:=Hp.at_lt b3
   simp [b3,bb3,u3,Rows.cells hv1.1.rows,Rows.cells1 hv1.1.rows,Rows.cells hv2.1.rows,Rows.cells1 hv2.1.rows,Rows.one hv1.1.rows,Rows.one hv2.1.rows]
   refine⟨by omega,((hleG.trans hle2).trans hle3).set (Nat.le_refl _) _,v1,v2,?_⟩
   have F:=Fr.one H3 H1.length (some ⟨[[v1,.nils,.nils,.int .i64 s.keep,.int .i64 s.time,v2]],6,28,false⟩)
   have hne:∀ e,e≠28->∀ y ob,y=H1.length->H3.at y=some ob->ob.ety≠e:=fun e he y ob hy ho=>by
    rw [hy,b3] at ho
    cases ho
    exact he.symm
   exact fill (Hp.at_set _ u3) ((hv1'.le hle3).frE F (hne _ (by simp))) (hv2'.frE F (hne _ (by simp))) (by omega) ((((hle1.trans hleG).trans hle2).trans hle3).set (by omega) _)
 rintro t H2 ⟨t1,t2,L3,v1,v2,t3,hL3,hle2,hC⟩
 have b02:=hle2.2 _ _ b0
 have b12:=hle2.2 _ _ b1
 simp [t1,t2,t3,b02,l1,hb1.slc]
 refine W_for (fun m t H'=>∃ i lv sv lr' sr',i+m=3/\t 1=.pt H.length 0 0/\t 2=.pt (H.length+1) 0 0/\t 3=.pt L3 0 0/\t 18=b/\t 19=.int .i64 3/\t 20=.int .i64 (i:Nat)/\H'.at H.length=some ⟨[[a,b,c,.int .i64 s.keep,.int .i64 s.time,d]],6,28,false⟩/\H'.at (H.length+1)=some ⟨[[.nils,.nils,.nils,.int .i64 0,.int .i64 0,.nils]],6,28,false⟩/\CpS H H' L3 i i v1 lv sv v2 lr' sr' s) 3 ?_ (tC_mono AC_mono) ?_
 ·exact⟨0,.nils,.nils,[],[],by simp,by simp [t1],by simp [t2],by simp [t3],by simp,by simp,by simp,b02,b12,hC⟩
 clear t1 t2 t3 hC b02 b12 hle2
 rintro m t H' ⟨i,lv,sv,lr',sr',him,t1,t2,t3,t18,t19,t20,b02,b12,hC⟩
 have n1:L3≠H.length:=by omega
 have n2:L3≠H.length+1:=by omega
 simp [t1,t2,t3,t18,t19,t20]
 refine c_split (fun hq=>?_) (fun hq=>?_)<;>simp at hq
 ·have hi3:i<3:=by omega
  have hil:i<s.lev.length:=by omega
  have his:i<s.sv.length:=by omega
  have hiI:(i:Int)<3:=by omega
  have hw:=wrapN (i:=i) (by omega)
  obtain⟨o1,i1,ob1,rfl,c1,c2,c3⟩:=hb1.get (j:=i) (by omega)
  obtain⟨u,hu,hue⟩:=hlr.get i (by omega) hil
  rw [hu] at c3
  obtain⟨o2,i2,ob2,rfl,e1,e2,e3⟩:=hc.get (j:=i) (by omega)
  obtain⟨r,hr,hrs,_⟩:=hsr.get i (by omega) his
  rw [hr] at e3
  have d1:=hC.le.2 _ _ c1
  have hes:=hB2 _ (List.getElem_mem hil)
  have hxs:=hB6 _ (List.getElem_mem his)
  have hi1:i<lr.length:=by omega
  have hi1I:(i:Int)<lr.length:=by omega
  have hi2:i<sr.length:=by omega
  have hi2I:(i:Int)<sr.length:=by omega
  have cb:=hC.bx
  simp [t1,t2,t3,t18,t19,t20,d1,c2,c3,hi1,hi1I,cb]
  refine cg_ex (cloneRun_ok u s.lev[i] H' (hue.le hC.le) hes.1) ?_
  rintro u2 H3 ⟨hle3,hu2⟩
  have hC3:=hC.hle hle3
  have cb3:=hC3.bx
  have ub3:=Hp.at_lt cb3
  simp [t1,t2,t3,t18,t19,t20,cb3,Hp.at_app,ub3,Rows.cells hu2.1.rows,Rows.cells1 hu2.1.rows,Rows.one hu2.1.rows]
  refine appG_one (bytes:=24) (R:=lr') hC3.ol (by have:=hC3.rl.length; simp at this; omega) (fun lv4 H4 g1 g2 g3=>?_)
  have hC4:=hC3.addL hil (hu2.base hC.le.1) (K:=H'.length) (fun y hy=>hu2.2 y hy) (fun y hy=>hC.o1.1.lt hy) hC.lrl g1 g2 g3
  have nbx:∀ {y:Nat} {ob:Ob},H3.at y=some ob->ob.ety=28->¬lv.of y:=fun ho he hy=>by
   have:=hC3.ol.ety hy ho
   rw [he] at this
   simp at this
  have cb4:=g2.2 _ _ (nbx cb3 rfl) cb3
  have u4:=Hp.at_lt cb4
  have b04:=g2.2 _ _ (nbx (hle3.2 _ _ b02) rfl) (hle3.2 _ _ b02)
  have b14:=g2.2 _ _ (nbx (hle3.2 _ _ b12) rfl) (hle3.2 _ _ b12)
  obtain⟨K4,hK4⟩:∃ K4:Hp,K4=List.set H4 L3 (some ⟨[[v1,lv4,sv,.int .i64 s.keep,.int .i64 s.time,v2]],6,28,false⟩):=⟨_,rfl⟩
  have b0K:=(Hp.at_set_ne (x:=some ⟨[[v1,lv4,sv,.int .i64 s.keep,.int .i64 s.time,v2]],6,28,false⟩) n1).trans b04
  have b1K:=(Hp.at_set_ne (x:=some ⟨[[v1,lv4,sv,.int .i64 s.keep,.int .i64 s.time,v2]],6,28,false⟩) n2).trans b14
  rw [<- hK4] at b0K b1K
  rw [<- hK4] at hC4
  have cbK:=hC4.bx
  have f1:=hC4.le.2 _ _ e1
  simp [t1,t2,t3,t18,t19,t20,cb4,u4,Rows.cells g1.rows,Rows.cells1 g1.rows,<- hK4,b0K,cbK,f1,e2,e3,hi2,hi2I]
  have hsk:=Sclone_ok (E:=E) r s.sv[i] K4 (hrs.le hC4.le) hxs
  simp only [svAV] at hsk
  refine cg_ex hsk ?_
  rintro w H5 ⟨hle5,r2,rfl,hr2⟩
  have hC5:=hC4.hle hle5
  have cb5:=hC5.bx
  have ub5:=Hp.at_lt cb5
  simp [t1,t2,t3,t18,t19,t20,cb5,Hp.at_app,ub5,Rows.one hr2.1.rows]
  refine appG_one (bytes:=80) (R:=sr') hC5.os (by have:=hC5.rs.length; simp at this; omega) (fun sv6 H6 p1 p2 p3=>?_)
  have hC6:=hC5.addS his (hr2.base hC4.le.1) (K:=K4.length) (fun y hy=>hr2.2 y hy) hC4.srl p1 p2 p3
  have nbx2:∀ {y:Nat} {ob:Ob},H5.at y=some ob->ob.ety=28->¬sv.of y:=fun ho he hy=>by
   have:=hC5.os.ety hy ho
   rw [he] at this
   simp at this
  have cb6:=p2.2 _ _ (nbx2 cb5 rfl) cb5
  have u6:=Hp.at_lt cb6
  have b06:=p2.2 _ _ (nbx2 (hle5.2 _ _ b0K) rfl) (hle5.2 _ _ b0K)
  have b16:=p2.2 _ _ (nbx2 (hle5.2 _ _ b1K) rfl) (hle5.2 _ _ b1K)
  simp [t1,t2,t3,t18,t19,t20,cb6,u6,Rows.cells p1.rows,Rows.cells1 p1.rows,hw]
  exact⟨m-1,by omega,i+1,by omega,by omega,by rw [Hp.at_set_ne n1]; exact b06,by rw [Hp.at_set_ne n2]; exact b16,lv4,sv6,_,_,hC6⟩
 ·have:i=3:=by omega
  subst this
  have c0:=hC.bx
  have u1:=Hp.at_lt b12
  simp [t1,t2,t3,c0,b12,u1,Hp.at_set,Rows.one hC.o1.1.rows,Rows.one hC.ol.rows,Rows.one hC.os.rows,Rows.one hC.o2.1.rows]
  have hfin:=hC.fin hl3 hs3
  exact⟨hC.le.set (by omega) _,hfin.1.fr (Fr.one _ _ _) (fun x ob hx ho=>by rw [hx,b12] at ho; cases ho; rfl),hfin.2.fr (Fr.one _ _ _) (fun x hx=>.inr (fun ob ho=>by rw [hx,b12] at ho; cases ho; rfl))⟩
end Go.Proofs.YtgoeenodllmdpaaGreat.B

namespace Go.Proofs.YtgoeenodllmdpaaGreat.B
open Go.RowKit Go.Proofs
set_option linter.unusedVariables false
set_option linter.unusedSimpArgs false
variable {E:Env}
def PSt (H0 H:Hp) (o:Nat) (s:Sr):Prop:=H0.length<=o/\∃ a ol os d,H.at o=some ⟨[[a,.sl ol 0 3,.sl os 0 3,.int .i64 s.keep,.int .i64 s.time,d]],6,28,false⟩/\MSt H0 H (.ag [a,.sl ol 0 3,.sl os 0 3,.int .i64 s.keep,.int .i64 s.time,d]) s
theorem PSt.le {H0 H H':Hp} {o:Nat} {s:Sr} (h:PSt H0 H o s) (hle:HLe H H'):PSt H0 H' o s:=by
 obtain⟨h1,a,ol,os,d,h2,h3⟩:=h
 exact⟨h1,a,ol,os,d,hle.2 _ _ h2,h3.le hle⟩
def K4 (H H':Hp):Prop:=H.length<=H'.length/\∀ y ob,H.at y=some ob->ob.esz=4->H'.at y=some ob
theorem K4.trans {a b c:Hp} (h:K4 a b) (k:K4 b c):K4 a c:=⟨Nat.le_trans h.1 k.1,fun y ob ho he=>k.2 y ob (h.2 y ob ho he) he⟩
theorem HLe.k4 {a b:Hp} (h:HLe a b):K4 a b:=⟨h.1,fun y ob ho _=>h.2 y ob ho⟩
theorem K4.refl (a:Hp):K4 a a:=(HLe.refl a).k4
theorem Fr.k4 {S:Nat->Prop} {a b:Hp} (h:Fr S a b) (hS:∀ y ob,S y->a.at y=some ob->ob.esz≠4):K4 a b:=⟨h.1,fun y ob ho he=>h.2 y ob (fun hs=>hS y ob hs ho he) ho⟩
theorem Ents.k4 {H H':Hp} {v:AV} {es:List Ent} (h:Ents H v es) (hk:K4 H H'):Ents H' v es:=by
 rcases h with h | h | ⟨o,i,ob,h1,h2,h3,h4⟩
 ·exact .inl h
 ·exact .inr (.inl h)
 ·exact .inr (.inr ⟨o,i,ob,h1,hk.2 _ _ h2 h3,h3,h4⟩)
def SieveB (B:Nat) (H:Hp) (L:Nat) (o:Option Sv):Prop:=∃ l m f r k,H.at L=some ⟨[[.str l,.str m,.str f,r,.int .i64 k]],5,66,false⟩/\∀ x,o=some x->l=x.l/\m=x.m/\f=x.f/\k=x.k/\Strs H r x.r/\∀ y,r.of y->B<=y
theorem SvRet.fillB {B:Nat} {H H' H2:Hp} {l m f:ByteArray} {r:AV} {k:Int} {L:Nat} {o:Option Sv} (h:∀ x,o=some x->l=x.l/\m=x.m/\f=x.f/\k=x.k/\OwnS H H' r x.r/\x.r.length<=12000)
  (hb:H2.at L=some ⟨[[.str l,.str m,.str f,r,.int .i64 k]],5,66,false⟩) (hs:∀ xs,OwnS H H' r xs->Strs H2 r xs) (hB:B<=H.length):SieveB B H2 L o :=
 ⟨l,m,f,r,k,hb,fun x hx=>by
  obtain⟨h1,h2,h3,h4,h5,h6⟩:=h x hx
  exact⟨h1,h2,h3,h4,hs _ h5,fun y hy=>Nat.le_trans hB (h5.2 y hy)⟩⟩
theorem setR_none {s:Sr} {i:Nat} {es:List Ent} (h:sieveO (keysR es) s.keep=none\/sizeL i<es.length):setR s i es=none:=by
 unfold setR
 rcases h with h | h
 ·rw [h]
 ·split
  ·rfl
  ·rw [if_neg (by omega)]
def PTop (H:Hp) (o y:Nat):Prop:=∃ a rs ob,H.at o=some ob/\ob.rows=[a :: rs]/\a.of y
theorem PSt.top_lt {H0 H:Hp} {o:Nat} {s:Sr} (h:PSt H0 H o s) {y:Nat} (hy:PTop H o y):y<H.length:=by
 obtain⟨h1,a,ol,os,d,h2,h3⟩:=h
 obtain⟨a',rs,ob,k1,k2,k3⟩:=hy
 rw [h2] at k1
 cases k1
 cases k2
 exact h3.top_lt (by exact k3)
set_option maxHeartbeats 1600000 in
theorem put_ok (o i:Nat) (r:AV) (s:Sr) (es:List Ent) (H0 H:Hp) (hs:PSt H0 H o s) (hle0:HLe H0 H) (hr:Ents H r es) (hes:EsB es) (hi:i<3) (hra:∀ y,r.of y->¬PTop H o y) (hrb:∀ y,r.of y->H0.length<=y) :
  AC Tryz.prog E 246 [.pt o 0 0,.int .i64 i,r] H (fun u H'=>HLe H0 H'/\K4 H H'/\match setR s i es with
   | some x=>u=.bool true/\PSt H0 H' o x
   | none=>u=.bool false/\HLe H H'):=by
 obtain⟨ho,a0,ol0,os0,d0,hbx,hm⟩:=hs
 obtain⟨a,ol,os,d,lr,sr,hv,ha,hlv,hlr,hsv,hsr,hd,hdo,hol,hos,hl3,hs3,hoff⟩:=hm
 simp only [stAV,hl3,hs3,AV.ag.injEq,List.cons.injEq,AV.sl.injEq,and_true,true_and] at hv
 obtain⟨rfl,rfl,rfl,rfl⟩:=hv
 refine AC_by fol (tC_le tabJ_ok) h_impl_Store_put ?_
 obtain⟨e1,obl,k1,k2,k3,k4,k5,k6⟩:=hlv.ob
 obtain⟨e2,obs,j1,j2,j3,j4,j5,j6⟩:=hsv.ob
 have hlr3:lr.length=3:=by omega
 have hsr3:sr.length=3:=by omega
 have hneo:ol0≠os0:=by
  rintro rfl
  rw [k1] at j1
  cases j1
  omega
 obtain⟨u0,hu0,_⟩:=hlr.get i (by omega) (by omega)
 obtain⟨r0,hr0,_,_⟩:=hsr.get i (by omega) (by omega)
 have k7:obl.rows[i]?=some [u0]:=by
  have:(obl.rows.take lr.length)[i]?=lr[i]?:=by rw [k6]
  rw [List.getElem?_take,if_pos (by omega)] at this
  rw [this,List.getElem?_eq_getElem (by omega),hu0]
 have j7:obs.rows[i]?=some [.str (s.sv[i]'(by omega)).l,.str (s.sv[i]'(by omega)).m,.str (s.sv[i]'(by omega)).f,r0,.int .i64 (s.sv[i]'(by omega)).k]:=by
  have:(obs.rows.take sr.length)[i]?=sr[i]?:=by rw [j6]
  rw [List.getElem?_take,if_pos (by omega)] at this
  rw [this,List.getElem?_eq_getElem (by omega),hr0]
 have hks:=keysR_short hes.2
 have hkl:=keysR_len es
 have hkb:(keysR es).length<4611686018427387904:=by have:=hes.1; omega
 have hiI:(i:Int)<3:=by omega
 simp [-RgP_both,c_impl_Store_put,hbx]
 refine RgP_then (tC_mono AC_mono) (fun t H2=>t 0=.pt o 0 0/\t 1=.int .i64 i/\t 2=r/\HLe H H2/\∃ L,t 7=.pt L 0 0/\H.length<=L/\t 8=.bool (sieveO (keysR es) s.keep).isSome/\SieveB H.length H2 L (sieveO (keysR es) s.keep)) ?_ ?_
 ·rw [RgP_both]
  refine⟨?_,?_⟩
  ·simp
   refine cg_ex (keysOf_ok r es H hr hes.1) ?_
   rintro w H2 ⟨hle2,hw⟩
   have b2:=hle2.2 _ _ hbx
   simp [b2]
   refine⟨?_,?_⟩
   ·refine cg_ex (implSieveOf_ok w (keysR es) s.keep H2 hw.strs hks hkb) ?_
    rintro v2 H3 ⟨hle3,hret⟩
    obtain⟨l,m',f,r1,k,rfl,hr1,hr2,hr3,hx⟩:=hret.shape
    have b3:=hle3.2 _ _ b2
    have ub:=Hp.at_lt b3
    simp [b3,hr1,hr2,hr3,Hp.at_app,ub]
    exact⟨(hle2.trans hle3).app _,Nat.le_trans hle2.1 hle3.1,SvRet.fillB hx (by simp) (fun xs h=>h.strs.le (HLe.self _ _)) hle2.1⟩
   ·have ub:=Hp.at_lt b2
    obtain⟨G,hG⟩:∃ G:Hp,G=H2++[some ⟨[[.str ⟨#[]⟩,.str ⟨#[]⟩,.str ⟨#[]⟩,.nils,.int .i64 0]],5,66,false⟩]:=⟨_,rfl⟩
    have hleG:HLe H2 G:=by rw [hG]; exact HLe.self _ _
    have bG:G.at H2.length=some ⟨[[.str ⟨#[]⟩,.str ⟨#[]⟩,.str ⟨#[]⟩,.nils,.int .i64 0]],5,66,false⟩:=by rw [hG]; simp
    simp [<- hG,hleG.2 _ _ b2]
    refine cg_ex (implSieveOf_ok w (keysR es) s.keep G (hw.strs.le hleG) hks hkb) ?_
    rintro v2 H3 ⟨hle3,hret⟩
    obtain⟨l,m',f,r1,k,rfl,hr1,hr2,hr3,hx⟩:=hret.shape
    have b3:=hle3.2 _ _ bG
    have u3:=Hp.at_lt b3
    simp [b3,u3,hr1,hr2,hr3]
    exact⟨((hle2.trans hleG).trans hle3).set (hle2.1) _,hle2.1,SvRet.fillB hx (Hp.at_set _ u3) (fun xs h=>h.set5 b3 rfl _) (Nat.le_trans hle2.1 hleG.1)⟩
  ·obtain⟨G,hG⟩:∃ G:Hp,G=H++[some ⟨[[.str ⟨#[]⟩,.str ⟨#[]⟩,.str ⟨#[]⟩,.nils,.int .i64 0]],5,66,false⟩]:=⟨_,rfl⟩
   have hleG:HLe H G:=by rw [hG]; exact HLe.self _ _
   have bG:G.at H.length=some ⟨[[.str ⟨#[]⟩,.str ⟨#[]⟩,.str ⟨#[]⟩,.nils,.int .i64 0]],5,66,false⟩:=by rw [hG]; simp
   have bbG:=hleG.2 _ _ hbx
   simp [<- hG,bbG]
   refine cg_ex (keysOf_ok r es G (hr.le hleG) hes.1) ?_
   rintro w H2 ⟨hle2,hw⟩
   have bb2:=hle2.2 _ _ bbG
   have bG2:=hle2.2 _ _ bG
   simp [bb2]
   refine cg_ex (implSieveOf_ok w (keysR es) s.keep H2 hw.strs hks hkb) ?_
   rintro v2 H3 ⟨hle3,hret⟩
   obtain⟨l,m',f,r1,k,rfl,hr1,hr2,hr3,hx⟩:=hret.shape
   have b3:=hle3.2 _ _ bG2
   have u3:=Hp.at_lt b3
   simp [b3,u3,hr1,hr2,hr3]
   exact⟨((hleG.trans hle2).trans hle3).set (Nat.le_refl _) _,SvRet.fillB hx (Hp.at_set _ u3) (fun xs h=>h.set5 b3 rfl _) (Nat.le_trans hleG.1 hle2.1)⟩
 rintro t H2 ⟨t0,t1,t2,hle2,L,t7,hL,t8,hSB⟩
 have hleA:=hle0.trans hle2
 simp [t0,t1,t2,t7,t8,hr.len,hr.slc]
 cases hso:sieveO (keysR es) s.keep with
 | none =>
  rw [setR_none (.inl hso)]
  simp
  exact⟨hleA,hle2.k4,hle2⟩
 | some x =>
 simp [t1,t2,hr.len,hr.slc]
 refine cg_use (room_ok i H2 (by omega)) ?_
 rcases Nat.lt_or_ge (sizeL i) es.length with q | q
 ·have q':(sizeL i:Int)<(es.length:Int):=by omega
  rw [setR_none (.inr q)]
  simp [q']
  exact⟨hleA,hle2.k4,hle2⟩
 have q':¬(sizeL i:Int)<(es.length:Int):=by omega
 rw [hso] at hSB
 obtain⟨l,m',f,r',k,g1,g2⟩:=hSB
 obtain⟨rfl,rfl,rfl,rfl,hxr,hxo⟩:=g2 x rfl
 have hset:setR s i es=some { s with lev:=s.lev.set i es,sv:=s.sv.set i x }:=by
  unfold setR
  rw [hso]
  simp [q]
 rw [hset]
 have c0:=hle2.2 _ _ hbx
 have cl:=hle2.2 _ _ k1
 have cs:=hle2.2 _ _ j1
 have u0:=Hp.at_lt c0
 have ul:=Hp.at_lt cl
 have us:=Hp.at_lt cs
 have n1:ol0≠o:=by
  rintro rfl
  rw [k1] at hbx
  cases hbx
  simp at k3
 have n2:os0≠o:=by
  rintro rfl
  rw [j1] at hbx
  cases hbx
  simp at j3
 have n3:ol0≠L:=by have:=Hp.at_lt k1; omega
 have n4:os0≠L:=by have:=Hp.at_lt j1; omega
 simp [q',t0,t1,t2,t7,t8,c0,cl,cs,u0,ul,us,g1,k2,k3,j2,j3,k7,j7,hi,hiI,Rows.cells hr,Rows.cells1 hr,Hp.at_set,Hp.at_set_ne,n1,n2,n3,n4,hneo,hneo.symm,Rows.one hxr]
 have ll:=Hp.at_lt k1
 have ls:=Hp.at_lt j1
 have F:Fr (fun y=>y=ol0\/y=os0) H _:=((hle2.fr (S:=fun y=>y=ol0\/y=os0)).set (.inl (.inl rfl)) (some ⟨obl.rows.set i [r],1,obl.ety,false⟩)).set (.inl (.inr rfl)) (some ⟨obs.rows.set i [.str x.l,.str x.m,.str x.f,r',.int .i64 x.k],5,obs.ety,false⟩)
 refine⟨hle0.fr_le F (fun y hy=>?_),F.k4 (fun y ob hy hob=>?_),ho,a0,ol0,os0,d0,F.2 o _ (fun hy=>?_) hbx,?_⟩
 ·rcases hy with rfl | rfl
  ·exact hol
  ·exact hos
 ·rcases hy with rfl | rfl
  ·rw [k1] at hob
   cases hob
   omega
  ·rw [j1] at hob
   cases hob
   omega
 ·rcases hy with h | h
  ·exact n1 h.symm
  ·exact n2 h.symm
 ·have hr2:Strs _ r' x.r:=(Rows.fr (Rows.fr hxr (Fr.one H2 ol0 (some ⟨obl.rows.set i [r],1,obl.ety,false⟩)) (fun y hy h=>by have:=hxo y hy; omega)) (Fr.one _ os0 (some ⟨obs.rows.set i [.str x.l,.str x.m,.str x.f,r',.int .i64 x.k],5,obs.ety,false⟩)) (fun y hy h=>by have:=hxo y hy; omega))
  exact MSt_set (i:=i) (es:=es) (x:=x) ha hlv hlr hsv hsr hd hdo hol hos hl3 hs3 k1 j1 F (by rw [Hp.at_set_ne hneo.symm,Hp.at_set _ ul]) (Hp.at_set _ (by rw [List.length_set]; exact us)) hr hr2 (fun h=>by have:=hxo _ h; omega) (fun y hy hd'=>by have:=hxo y hy; have:=hd.1.lt hd'; omega) hoff (fun y hy hy2=>hra y hy ⟨a0,_,_,hbx,rfl,hy2⟩) hrb
end Go.Proofs.YtgoeenodllmdpaaGreat.B

namespace Go.Proofs.YtgoeenodllmdpaaGreat.B
open Go.RowKit
set_option linter.unusedVariables false
set_option linter.unusedSimpArgs false
theorem runOk_nil:runOk []=true:=by decide
theorem runOk_one {e:Ent} (h:entOk e=true):runOk [e]=true:=runOk_of (List.pairwise_singleton _ _) (fun x hx=>by rw [List.mem_singleton.1 hx]; exact h) (by simp)
theorem joinI_new {a:List Ent} {e:Ent} (ha:runOk a=true) (hl:a.length<=39) (he:entOk e=true) (hn:∀ x∈a,x.time<e.time):joinI a [e]=some (joinL [e] a):=by
 have hf:Fine [e] a:=⟨runOk_one he,ha,fun x hx y hy _=>by rw [List.mem_singleton.1 hx]; exact hn y hy,by simp; omega⟩
 have hr:=hf.run
 have hq:joinL [e] a=joinL a [e]:=sorted_one (runOk_pair hr).1 (joinL_srt (runOk_srt ha) (runOk_srt (runOk_one he))) ((joinL_perm a [e]).trans (List.perm_append_comm.trans (joinL_perm [e] a).symm))
 rw [joinI,if_pos ⟨ha,runOk_one he,by rw [<- hq]; exact hr⟩,hq]
theorem intoR_top:∀ {n:Nat} {s x:Sr} {r:List Ent},intoR n s r=some x->x.top=s.top:=fun h=>(intoR_tms h).2.1
theorem writeI_eq {s:Sr} {e:Ent} (h:storeOk s=true) (he:e.time=s.time+1):writeI s e=addR s e:=by
 obtain⟨hh,k0,k1,k2⟩:=storeOk_ok h
 obtain⟨a1,a2,a3,a4,a5,a6⟩:=headI_parts hh
 have hlate:∀ x∈s.top,x.time<=s.time:=fun x hx=>(okI_parts k0).2.2.2 x (by rw [aboveI_0]; exact hx)
 unfold writeI addR
 rw [h,Bool.true_and]
 cases hk:entOk e with
 | false=>simp
 | true =>
  simp only [if_true]
  by_cases h4:s.top.length=4
  ·rw [if_pos h4,if_pos (by omega),downI_eq h]
   cases hd:downR s with
   | none=>rfl
   | some x =>
    have hx:x.top=[]:=intoR_top hd
    simp only
    rw [hx,joinI_new runOk_nil (by simp) hk (fun x hx=>by cases hx)]
    rfl
  ·rw [if_neg h4,if_neg (by omega)]
   simp only
   rw [joinI_new a3 (by omega) hk (fun x hx=>by have:=hlate x hx; omega)]
   rfl
def lowB (p:Option Int) (t:Int):Bool:=match p with
 | none=>true
 | some q=>decide (q<t)
theorem lowB_iff (p:Option Int) (t:Int):lowB p t=true↔∀ q,p=some q->q<t:=by
 cases p with
 | none=>simp [lowB]
 | some q=>simp [lowB]
theorem asc1_cons (now:Int) (p:Option Int) (t:Int) (ts:List Int):asc1 now p (t :: ts)=(decide (0<=t)&&decide (t<=now)&&lowB p t&&asc1 now (some t) ts):=by cases p<;>rfl
theorem asc1_iff (now:Int):∀ (ts:List Int) (p:Option Int),asc1 now p ts=true↔(∀ t∈ts,0<=t/\t<=now/\∀ q,p=some q->q<t)/\ts.Pairwise (·<·)
 | [],p=>by simp [asc1]
 | t :: ts,p=>by
  rw [asc1_cons,Bool.and_eq_true,Bool.and_eq_true,Bool.and_eq_true,asc1_iff now ts,List.pairwise_cons]
  simp only [decide_eq_true_eq]
  rw [lowB_iff]
  constructor
  ·rintro ⟨⟨⟨h1,h2⟩,h3⟩,h4,h5⟩
   refine⟨fun x hx=>?_,fun x hx=>(h4 x hx).2.2 t rfl,h5⟩
   rcases List.mem_cons.1 hx with rfl | hx
   ·exact⟨h1,h2,h3⟩
   ·obtain⟨g1,g2,g3⟩:=h4 x hx
    exact⟨g1,g2,fun q hq=>by have:=h3 q hq; have:=g3 t rfl; omega⟩
  ·rintro ⟨h1,h2,h3⟩
   obtain⟨g1,g2,g3⟩:=h1 t (by simp)
   exact⟨⟨⟨g1,g2⟩,g3⟩,fun x hx=>⟨(h1 x (by simp [hx])).1,(h1 x (by simp [hx])).2.1,fun q hq=>by injection hq with hq; rw [<- hq]; exact h2 x hx⟩,h3⟩
theorem holdI_eq {s:Sr} (h:storeOk s=true):holdI s=holdR s:=by
 have ht:=(headI_parts (storeOk_ok h).1).2.2.2.2.2
 have hn:=(headI_parts (storeOk_ok h).1).2.2.2.2.1
 have ht':=ht
 simp only [timesR,Bool.and_eq_true,decide_eq_true_eq] at ht'
 obtain⟨h1,h2⟩:=ht'
 rw [asc1_iff] at h1
 obtain⟨h3,h4⟩:=h1
 have hin:s.time∈s.tms↔s.tms.getLast?=some s.time:=by
  constructor
  ·intro hm
   obtain⟨i,hi,he⟩:=List.mem_iff_getElem.1 hm
   rw [List.getLast?_eq_getElem?,List.getElem?_eq_getElem (by omega)]
   rcases Nat.lt_or_ge i (s.tms.length-1) with hlt | hge
   ·have:=List.pairwise_iff_getElem.1 h4 i (s.tms.length-1) hi (by omega) hlt
    have:=(h3 _ (List.getElem_mem (show s.tms.length-1<s.tms.length by omega))).2.1
    omega
   ·have:s.tms.length-1=i:=by omega
    simp only [this,he]
  ·intro hm
   exact List.mem_of_getLast? hm
 unfold holdI holdR
 rw [if_pos h]
 by_cases hm:s.time∈s.tms
 ·rw [if_pos hm,if_pos (hin.1 hm)]
  simp only
  rw [if_pos ht]
 ·rw [if_neg hm,if_neg (fun e=>hm (hin.2 e))]
  simp only
  have hlt:∀ t∈s.tms,t<s.time:=fun t hx=>by
   have:=(h3 t hx).2.1
   have:t≠s.time:=fun e=>hm (by rw [<- e]; exact hx)
   omega
  have hasc:asc1 s.time none (s.tms++[s.time])=true:=by
   rw [asc1_iff]
   refine⟨fun t hx=>?_,List.pairwise_append.2 ⟨h4,List.pairwise_singleton _ _,fun x hx y hy=>by rw [List.mem_singleton.1 hy]; exact hlt x hx⟩⟩
   rcases List.mem_append.1 hx with hx | hx
   ·exact⟨(h3 t hx).1,(h3 t hx).2.1,fun q hq=>by cases hq⟩
   ·rw [List.mem_singleton.1 hx]
    exact⟨hn.1,Int.le_refl _,fun q hq=>by cases hq⟩
  have e:timesR (s.tms++[s.time]) s.time=decide (s.tms.length+1<=3):=by
   unfold timesR
   rw [hasc]
   simp
  rw [e]
  simp only [decide_eq_true_eq]
theorem freeI_eq {s:Sr} {t:Int} (h:storeOk s=true):freeI s t=freeR s t:=by
 unfold freeI freeR
 rw [if_pos h]
 simp only
 have hle:(s.tms.filter fun x=>!decide (x=t)).length<=s.tms.length:=List.length_filter_le _ _
 by_cases he:(s.tms.filter fun x=>!decide (x=t)).length=s.tms.length
 ·rw [if_neg (by omega),if_pos he]
 ·rw [if_pos (by omega),if_neg he]
theorem joinSI_eq {s:Sr} {l:Int} (h:storeOk s=true):joinSI s l=joinR s l:=by
 obtain⟨p2,p1,p0⟩:=push_ok h
 have hk:=storeOk_keep h
 unfold joinSI joinR
 by_cases hl:0<=l/\l<=1
 case neg=>rw [if_neg hl,if_neg (fun g=>hl g.2)]
 rw [if_pos hl,if_pos ⟨h,hl⟩]
 obtain⟨i,hi,rfl⟩:∃ i:Nat,i<=1/\l=i:=⟨l.toNat,by omega,by omega⟩
 have et:((i:Nat):Int).toNat=i:=by omega
 rw [et]
 obtain⟨x0,hx0⟩:=setR_nil hk i
 rw [hx0 s rfl]
 simp only
 have hpush:PushOk (1-i) s (s.lev.getD i []):=by
  have:i=0\/i=1:=by omega
  rcases this with rfl | rfl
  ·exact p1
  ·exact p0
 rw [pushI_eq _ hpush]
 have hF:=intoR_frame (F:=fun s':Sr=>{ s' with lev:=s'.lev.set i [],sv:=s'.sv.set i x0 }) (m:=i+1) (fun s j r h1 h2=>by
  unfold setR
  simp only
  cases sieveO (keysR r) s.keep with
  | none=>rfl
  | some x =>
   simp only
   split
   ·simp only [Option.map_some]
    rw [List.set_comm [] r (show i≠j by omega),List.set_comm x0 x (show i≠j by omega)]
   ·rfl) (fun s j h1=>by
  simp only
  rw [List.getD_eq_getElem?_getD,List.getD_eq_getElem?_getD,List.getElem?_set_ne (by omega)]) (fun _=>rfl) (1-i) (by omega) s (s.lev.getD i [])
 rw [hF]
 cases hc:intoR (1-i) s (s.lev.getD i []) with
 | none=>rfl
 | some x =>
  show setR x i []=_
  rw [hx0 x (intoR_tms hc).2.2.1]
  rfl
end Go.Proofs.YtgoeenodllmdpaaGreat.B

namespace Go.Proofs.YtgoeenodllmdpaaGreat.B
open Go.RowKit Go.Proofs
set_option linter.unusedVariables false
set_option linter.unusedSimpArgs false
variable {E:Env}
theorem trimI_sub (r:List Ent) (ts:List Int) (b:Bool):(trimI r ts b).Sublist r:=by
 unfold trimI
 split
 ·exact trimR_sub r ts b
 ·exact List.nil_sublist r
theorem joinI_eq {a b l:List Ent} (h:joinI a b=some l):l=joinL a b:=by
 unfold joinI at h
 split at h
 ·cases h
  rfl
 ·cases h
theorem Fits.sub {a b:List Ent} (h:Fits b) (hs:a.Sublist b):Fits a:=fun e he=>h e (hs.subset he)
theorem pushI_small:∀ {n:Nat} {s x:Sr} {r:List Ent},Small s->Fits r->pushI n s r=some x->Small x
 | 0,s,x,r,h,hr,hx=>by
  rw [pushI,Option.bind_eq_some_iff] at hx
  obtain⟨a,ha,hx⟩:=hx
  exact setR_small h (by omega) (Fits.sub (by rw [joinI_eq ha]; exact hr.join (h.lv 2).2) (trimI_sub _ _ _)) hx
 | n+1,s,x,r,h,hr,hx=>by
  unfold pushI at hx
  split at hx
  ·rename_i y hy
   cases hx
   rw [Option.bind_eq_some_iff] at hy
   obtain⟨a,ha,hy⟩:=hy
   exact setR_small h (i:=1-n) (by omega) (Fits.sub (by rw [joinI_eq ha]; exact hr.join (h.lv (1-n)).2) (trimI_sub _ _ _)) hy
  ·split at hx
   ·cases hx
   ·rename_i y hy
    exact setR_small (pushI_small h (h.lv (1-n)).2 hy) (by omega) (Fits.sub hr (trimI_sub _ _ _)) hx
def att (n:Nat) (s:Sr) (es:List Ent):Option Sr:=(joinI es (s.lev.getD (2-n) [])).bind fun a=>setR s (2-n) (trimI a s.tms (decide (n=0)))
theorem pushI_0 (s:Sr) (es:List Ent):pushI 0 s es=att 0 s es:=rfl
theorem pushI_s (n:Nat) (s:Sr) (es:List Ent):pushI (n+1) s es=match att (n+1) s es with
  | some x=>some x
  | none=>match pushI n s (s.lev.getD (2-(n+1)) []) with
   | none=>none
   | some x=>setR x (2-(n+1)) (trimI es x.tms false):=by
 have e:2-(n+1)=1-n:=by omega
 rw [pushI,att,e]
 simp only [show decide (n+1=0)=false from decide_eq_false (by omega)]
 all_goals
  generalize ((joinI es (s.lev.getD (1-n) [])).bind fun a=>setR s (1-n) (trimI a s.tms false))=X
  cases X with
  | some x=>rfl
  | none =>
   generalize pushI n s (s.lev.getD (1-n) [])=Y
   cases Y<;>rfl
theorem PSt.parts {H0 H:Hp} {o:Nat} {s:Sr} (h:PSt H0 H o s):∃ a ol os d obl,H.at o=some ⟨[[a,.sl ol 0 3,.sl os 0 3,.int .i64 s.keep,.int .i64 s.time,d]],6,28,false⟩/\OwnE H0 H a s.top/\OwnI H0 H d s.tms/\H.at ol=some obl/\obl.esz=1 /\
  ∀ i,i<3->∃ u,obl.rows[i]?=some [u]/\Ents H u (s.lev.getD i []):=by
 obtain⟨h1,a,ol,os,d,h2,h3⟩:=h
 obtain⟨p1,p2,p3⟩:=h3.parts
 obtain⟨ob,u,k1,k2,k3,k4⟩:=h3.lev 0 (by omega)
 refine⟨a,ol,os,d,ob,h2,p1,p2,k1,k2,fun i hi=>?_⟩
 obtain⟨ob',u',g1,g2,g3,g4⟩:=h3.lev i hi
 rw [k1] at g1
 cases g1
 exact⟨u',g3,g4⟩
theorem PTop.back {H H':Hp} {o y:Nat} {ob:Ob} (hle:HLe H H') (hb:H.at o=some ob) (h:PTop H' o y):PTop H o y:=by
 obtain⟨a,rs,ob',k1,k2,k3⟩:=h
 rw [hle.2 _ _ hb] at k1
 cases k1
 exact⟨a,rs,ob,hb,k2,k3⟩
def OpR (H0 H:Hp) (o:Nat) (u:AV) (H':Hp) (r:Option Sr):Prop:=HLe H0 H'/\K4 H H'/\match r with
 | some x=>u=.bool true/\PSt H0 H' o x
 | none=>u=.bool false
def PushP (E:Env) (o n:Nat):Prop:=∀ (r:AV) (s:Sr) (es:List Ent) (H0 H:Hp),PSt H0 H o s->HLe H0 H->Ents H r es->SmB es->Small s ->
  AC Tryz.prog E 238 [.pt o 0 0,.int .i64 ((2-n:Nat):Int),r] H (fun u H'=>OpR H0 H o u H' (pushI n s es))
set_option maxHeartbeats 1600000 in
theorem push_step (o n:Nat) (hn:n<=2) (ih:∀ m,n=m+1->PushP E o m):PushP E o n:=by
 intro r s es H0 H hs hle0 hr hes hsm
 refine AC_by fol (tC_le tabJ_ok) h_impl_Store_push ?_
 obtain⟨lv,hlv⟩:∃ lv,lv=2-n:=⟨_,rfl⟩
 have hl3:lv<3:=by omega
 have hlI:(lv:Int)<3:=by omega
 rw [<- hlv]
 obtain⟨a,ol,os,d,obl,b0,p1,p2,k1,k2,k3⟩:=hs.parts
 obtain⟨u,ku,hu⟩:=k3 lv hl3
 have hbot:(decide ((lv:Int)=2))=decide (n=0):=by
  rw [decide_eq_decide]
  omega
 obtain⟨tl1,tl2,tl3⟩:s.tms.length<=1000/\SmB (s.lev.getD lv [])/\True:=⟨hsm.2.2.1,hsm.lv lv,trivial⟩
 obtain⟨ll,hll⟩:∃ ll,ll=s.lev.getD lv []:=⟨_,rfl⟩
 rw [<- hll] at hu tl2
 simp only [c_impl_Store_push]
 refine W_cut (tC_mono AC_mono) (fun t H'=>H'=H/\t 0=.pt o 0 0/\t 1=.int .i64 lv/\t 2=r) (by simp) ?_
 rintro t H' ⟨rfl,t0,t1,t2⟩
 refine W_cut (tC_mono AC_mono) (fun t H2=>H2=H'/\t 0=.pt o 0 0/\t 1=.int .i64 lv/\t 2=r/\t 7=.bool (decide (n=0))) (by simp [t0,t1,t2,<- hbot]) ?_
 rintro t H2 ⟨rfl,t0,t1,t2,t7⟩
 refine W_cut (tC_mono AC_mono) (fun t H3=>t 0=.pt o 0 0/\t 1=.int .i64 lv/\t 2=r/\t 7=.bool (decide (n=0))/\HLe H2 H3/\∃ w,t 8=w/\t 9=.bool (joinI es ll).isSome/\∀ l,joinI es ll=some l->OwnE H2 H3 w l) ?_ ?_
 ·simp [t0,t1,t2,t7,b0,k1,k2,ku,hl3,hlI]
  refine cg_ex (RunJoin_ok r u es ll H2 hr hu hes tl2) ?_
  rintro v H3 ⟨hle3,hret⟩
  cases hj:joinI es ll with
  | none =>
   rw [hj] at hret
   obtain rfl:=hret
   simp [t0,t1,t2,t7]
   exact hle3
  | some l =>
   rw [hj] at hret
   obtain⟨w,rfl,hw⟩:=hret
   simp [t0,t1,t2,t7]
   exact⟨hle3,hw⟩
 rintro t H3 ⟨t0,t1,t2,t7,hle3,w,t8,t9,hw⟩
 have b3:=hle3.2 _ _ b0
 have hs3:=hs.le hle3
 refine W_cut (tC_mono AC_mono) (fun t H4=>t 0=.pt o 0 0/\t 1=.int .i64 lv/\t 2=r/\t 7=.bool (decide (n=0))/\HLe H2 H4/\att n s es=none) ?_ ?_
 ·cases hj:joinI es ll with
  | none =>
   rw [hj] at t9
   have ha:att n s es=none:=by
    unfold att
    rw [<- hlv,<- hll,hj]
    rfl
   simp [t0,t1,t2,t7,t8,t9,ha]
   exact hle3
  | some l =>
   rw [hj] at t9
   have hw2:=hw l hj
   have hlj:=joinI_eq hj
   have hlE:EsB l:=by
    rw [hlj]
    exact hes.join tl2
   have ha:att n s es=setR s lv (trimI l s.tms (decide (n=0))):=by
    unfold att
    rw [<- hlv,<- hll,hj]
    rfl
   simp [t0,t1,t2,t7,t8,t9,b3]
   refine cg_ex (RunTrim_ok w d l s.tms (decide (n=0)) H3 hw2.ents (p2.ints.le hle3) hlE (by omega)) ?_
   rintro w4 H4 ⟨hle4,hw4⟩
   simp [t0,t1,t2,t7]
   refine cg_ex (put_ok o lv w4 s _ H0 H4 (hs3.le hle4) ((hle0.trans hle3).trans hle4) hw4.ents (hlE.sub (trimI_sub _ _ _)) hl3 (fun y hy ht=>by
    have h9:=hs3.top_lt (PTop.back hle4 b3 ht)
    have:=hw4.2 y hy
    omega) (fun y hy=>by have:=hw4.2 y hy; have:=hle0.1; have:=hle3.1; omega)) ?_
   rintro v H5 ⟨q1,q2,q3⟩
   rw [<- ha] at q3
   cases h5:att n s es with
   | some x =>
    rw [h5] at q3
    obtain⟨rfl,q4⟩:=q3
    simp
    have:pushI n s es=some x:=by
     cases n with
     | zero=>exact h5
     | succ n =>
      rw [pushI_s,h5]
    rw [this]
    exact⟨q1,((hle3.trans hle4).k4).trans q2,rfl,q4⟩
   | none =>
    rw [h5] at q3
    obtain⟨rfl,q4⟩:=q3
    simp [t0,t1,t2,t7]
    exact (hle3.trans hle4).trans q4
 clear t0 t1 t2 t7 t8 t9
 rintro t H4 ⟨t0,t1,t2,t7,hle4,hatt⟩
 have b4:=hle4.2 _ _ b0
 have kk4:=hle4.2 _ _ k1
 have hs4:=hs.le hle4
 cases n with
 | zero =>
  simp [t0,t1,t2,t7]
  rw [pushI_0,hatt]
  exact⟨hle0.trans hle4,hle4.k4,rfl⟩
 | succ n =>
  have hw1:IntKind.i64.wrap ((lv:Int)+1)=((2-n:Nat):Int):=by
   rw [wrapN (by omega)]
   congr 1
   omega
  rw [pushI_s,hatt,<- hlv,<- hll]
  simp [t0,t1,t2,t7,b4,kk4,k2,ku,hl3,hlI,hw1]
  refine cg_ex (ih n rfl u s ll H0 H4 hs4 (hle0.trans hle4) (hu.le hle4) tl2 hsm) ?_
  rintro v H5 ⟨q1,q2,q3⟩
  have hk5:=hle4.k4.trans q2
  cases h5:pushI n s ll with
  | none =>
   rw [h5] at q3
   obtain rfl:=q3
   simp
   exact⟨q1,hk5,rfl⟩
  | some x =>
   rw [h5] at q3
   obtain⟨rfl,hx⟩:=q3
   have hsx:=pushI_small hsm tl2.2 h5
   obtain⟨a5,ol5,os5,d5,obl5,b5,p51,p52,k51,k52,k53⟩:=hx.parts
   have hr5:=hr.k4 hk5
   simp [t0,t1,t2,t7,b5]
   refine cg_ex (RunTrim_ok r d5 es x.tms false H5 hr5 p52.ints hes.big (by have:=hsx.2.2.1; omega)) ?_
   rintro w6 H6 ⟨hle6,hw6⟩
   simp [t0,t1,t2,t7]
   refine cg_ex (put_ok o lv w6 x _ H0 H6 (hx.le hle6) (q1.trans hle6) hw6.ents (hes.big.sub (trimI_sub _ _ _)) hl3 (fun y hy ht=>by
    have h9:=hx.top_lt (PTop.back hle6 b5 ht)
    have:=hw6.2 y hy
    omega) (fun y hy=>by have:=hw6.2 y hy; have:=q1.1; omega)) ?_
   rintro v H7 ⟨y1,y2,y3⟩
   have hk7:=(hk5.trans hle6.k4).trans y2
   cases h7:setR x lv (trimI es x.tms false) with
   | some z =>
    rw [h7] at y3
    obtain⟨rfl,hz⟩:=y3
    simp
    exact⟨y1,hk7,rfl,hz⟩
   | none =>
    rw [h7] at y3
    obtain⟨rfl,hz⟩:=y3
    simp
    exact⟨y1,hk7,rfl⟩
theorem pushP_ok (o:Nat):∀ (n:Nat),n<=2->PushP E o n
 | 0,h=>push_step o 0 h (fun m e=>by omega)
 | n+1,h=>push_step o (n+1) h (fun m e=>by
  have:m=n:=by omega
  subst this
  exact pushP_ok o m (by omega))
theorem down_ok (o:Nat) (s:Sr) (H0 H:Hp) (hs:PSt H0 H o s) (hle0:HLe H0 H) (hsm:Small s) :
  AC Tryz.prog E 191 [.pt o 0 0] H (fun u H'=>OpR H0 H o u H' (downI s)):=by
 refine AC_by fol (tC_le tabJ_ok) h_impl_Store_down ?_
 obtain⟨a,ol,os,d,obl,b0,p1,p2,k1,k2,k3⟩:=hs.parts
 simp [c_impl_Store_down,b0]
 refine cg_ex (pushP_ok o 2 (by omega) a s s.top H0 H hs hle0 p1.ents hsm.1 hsm) ?_
 rintro v H2 ⟨q1,q2,q3⟩
 cases h:pushI 2 s s.top with
 | none =>
  rw [h] at q3
  obtain rfl:=q3
  simp [downI,h]
  exact⟨q1,q2,rfl⟩
 | some x =>
  rw [h] at q3
  obtain⟨rfl,hx⟩:=q3
  obtain⟨ho,a2,ol2,os2,d2,b2,hm⟩:=hx
  obtain⟨g1,g2,g3⟩:=hm.parts
  have u2:=Hp.at_lt b2
  simp [b2,u2,downI,h]
  have F:=Fr.one H2 o (some ⟨[[.nils,.sl ol2 0 3,.sl os2 0 3,.int .i64 x.keep,.int .i64 x.time,d2]],6,28,false⟩)
  have hm2:=hm.fr F (fun y ob hy hob=>by rw [hy,b2] at hob; cases hob; rfl)
  obtain⟨j1,j2,j3⟩:=hm2.parts
  refine⟨q1.fr_le F (fun y hy=>by rw [hy]; exact ho),q2.trans (F.k4 (fun y ob hy hob=>by rw [hy,b2] at hob; cases hob; simp)),rfl,ho,.nils,ol2,os2,d2,Hp.at_set _ u2,?_⟩
  exact hm2.upd x.time OwnM.nils j2 j3 (fun y hy=>hy) (fun lr _ _ y hy=>hy.elim)
end Go.Proofs.YtgoeenodllmdpaaGreat.B

namespace Go.Proofs.YtgoeenodllmdpaaGreat.B
open Go.RowKit Go.Proofs
set_option linter.unusedVariables false
set_option linter.unusedSimpArgs false
variable {E:Env}
theorem setR_time {s x:Sr} {i:Nat} {es:List Ent} (h:setR s i es=some x):x.time=s.time:=by
 unfold setR at h
 split at h
 ·cases h
 ·split at h
  ·cases h
   rfl
  ·cases h
theorem pushI_time:∀ {n:Nat} {s x:Sr} {r:List Ent},pushI n s r=some x->x.time=s.time
 | 0,s,x,r,hx=>by
  rw [pushI,Option.bind_eq_some_iff] at hx
  obtain⟨a,ha,hx⟩:=hx
  exact setR_time hx
 | n+1,s,x,r,hx=>by
  unfold pushI at hx
  split at hx
  ·rename_i y hy
   cases hx
   rw [Option.bind_eq_some_iff] at hy
   obtain⟨a,ha,hy⟩:=hy
   exact setR_time hy
  ·split at hx
   ·cases hx
   ·rename_i y hy
    exact (setR_time hx).trans (pushI_time hy)
theorem downI_small {s x:Sr} (h:Small s) (hx:downI s=some x):Small x/\x.top=[]/\x.time=s.time:=by
 unfold downI at hx
 cases hp:pushI 2 s s.top with
 | none =>
  rw [hp] at hx
  cases hx
 | some y =>
  rw [hp] at hx
  cases hx
  have hy:=pushI_small h h.1.2 hp
  exact⟨⟨⟨by simp,fun e he=>by simp at he⟩,hy.2⟩,rfl,(pushI_time hp:y.time=s.time)⟩
theorem PSt.upd {H0 H:Hp} {o:Nat} {a a' d:AV} {ol os:Nat} {s:Sr} {tp:List Ent} {t:Int} (ho:H0.length<=o) (hb:H.at o=some ⟨[[a,.sl ol 0 3,.sl os 0 3,.int .i64 s.keep,.int .i64 s.time,d]],6,28,false⟩) {K:Hp} (hle:HLe K H) (hm:MSt H0 K (.ag [a,.sl ol 0 3,.sl os 0 3,.int .i64 s.keep,.int .i64 s.time,d]) s) (ha:OwnE H0 H a' tp) (hb':∀ y,a'.of y->K.length<=y) :
  PSt H0 (List.set H o (some ⟨[[a',.sl ol 0 3,.sl os 0 3,.int .i64 s.keep,.int .i64 t,d]],6,28,false⟩)) o { s with top:=tp,time:=t }:=by
 obtain⟨p1,p2,p3⟩:=hm.parts
 have hm2:=hm.upd2 t hle ha hb'
 exact⟨ho,a',ol,os,d,Hp.at_set _ (Hp.at_lt hb),hm2.fr (Fr.one H o _) (fun y ob hy hob=>by rw [hy,hb] at hob; cases hob; rfl)⟩
theorem PSt.fr4 {H:Hp} {o:Nat} {r:List (List AV)} (x:Option Ob) (hb:H.at o=some ⟨r,6,28,false⟩):K4 H (List.set H o x):=(Fr.one H o x).k4 (fun y ob hy hob=>by rw [hy,hb] at hob; cases hob; simp)
set_option maxHeartbeats 1600000 in
theorem write_ok (o:Nat) (k:ByteArray) (val:Int) (gone:Bool) (tt:Int) (s:Sr) (H0 H:Hp) (hs:PSt H0 H o s) (hle0:HLe H0 H) (hsm:Small s) (ht:IntKind.i64.wrap (s.time+1)=s.time+1) (hk:k.size<4611686018427387904) :
  AC Tryz.prog E 120 [.pt o 0 0,.ag [.str k,.int .i64 val,.bool gone,.int .i64 tt]] H (fun u H'=>OpR H0 H o u H' (writeI s ⟨k,val,gone,s.time+1⟩)):=by
 obtain⟨a,ol,os,d,obl,b0,p1,p2,k1,k2,k3⟩:=hs.parts
 have l1:=p1.ents.len
 have u0:=Hp.at_lt b0
 refine AC_by fol (tC_le tabJ_ok) h_impl_Store_write ?_
 simp only [c_impl_Store_write]
 refine W_cut (tC_mono AC_mono) (fun t H2=>t 0=.pt o 0 0/\t 3=.pt H.length 0 0/\H2=H++[some ⟨[[.str k,.int .i64 val,.bool gone,.int .i64 tt]],4,99,false⟩]) (by simp) ?_
 rintro t H2 ⟨t0,t3,rfl⟩
 refine W_cut (tC_mono AC_mono) (fun t H2=>t 0=.pt o 0 0/\t 3=.pt H.length 0 0/\H2=H++[some ⟨[[.str k,.int .i64 val,.bool gone,.int .i64 (s.time+1)]],4,99,false⟩]) (by simp [t0,t3,b0,u0,Hp.at_app,ht]) ?_
 rintro t H2 ⟨t0,t3,hH2⟩
 have hle2:HLe H H2:=by rw [hH2]; exact HLe.self _ _
 have bE:H2.at H.length=some ⟨[[.str k,.int .i64 val,.bool gone,.int .i64 (s.time+1)]],4,99,false⟩:=by rw [hH2]; simp
 have b2:=hle2.2 _ _ b0
 have hs2:=hs.le hle2
 clear hH2
 refine W_cut (tC_mono AC_mono) (fun t H3=>t 0=.pt o 0 0/\t 3=.pt H.length 0 0/\entOk ⟨k,val,gone,s.time+1⟩=true/\HLe H0 H3/\K4 H H3/\H3.at H.length=some ⟨[[.str k,.int .i64 val,.bool gone,.int .i64 (s.time+1)]],4,99,false⟩/\∃ x,(if s.top.length=4 then downI s else some s)=some x/\x.time=s.time/\Small x/\PSt H0 H3 o x) ?_ ?_
 ·simp [t0,t3,bE]
  refine cg_use (entryOk_ok ⟨k,val,gone,s.time+1⟩ _ hk) ?_
  cases he:entOk ⟨k,val,gone,s.time+1⟩ with
  | false =>
   simp
   exact⟨hle0.trans hle2,hle2.k4,by rw [writeI,if_neg (by rw [he]; simp)]⟩
  | true =>
   simp [t0,t3,b2,l1,p1.ents.slc]
   by_cases h4:s.top.length=4
   ·have h4I:(s.top.length:Int)=4:=by omega
    simp [h4,h4I,t0]
    refine cg_ex (down_ok o s H0 H2 hs2 (hle0.trans hle2) hsm) ?_
    rintro v H3 ⟨q1,q2,q3⟩
    have bE3:=q2.2 _ _ bE rfl
    cases hd:downI s with
    | none =>
     rw [hd] at q3
     obtain rfl:=q3
     simp
     exact⟨q1,hle2.k4.trans q2,by rw [writeI,if_pos he,if_pos h4,hd]⟩
    | some x =>
     rw [hd] at q3
     obtain⟨rfl,hx⟩:=q3
     simp [t0,t3]
     have hsx:=downI_small hsm hd
     exact⟨q1,hle2.k4.trans q2,bE3,hsx.2.2,hsx.1,hx⟩
   ·have h4I:¬(s.top.length:Int)=4:=by omega
    simp [h4,h4I,t0,t3]
    exact⟨hle0.trans hle2,hle2.k4,bE,hsm,hs2⟩
 rintro t H3 ⟨t0,t3,he,q1,q2,bE3,x,hx,hxt,hsx,hx3⟩
 obtain⟨ho,a3,ol3,os3,d3,b3,hm3⟩:=hx3
 obtain⟨p31,p32,p33⟩:=hm3.parts
 have u3:=Hp.at_lt b3
 have hw:writeI s ⟨k,val,gone,s.time+1⟩=(joinI x.top [⟨k,val,gone,s.time+1⟩]).map fun t=>{ x with top:=t,time:=s.time+1 }:=by
  rw [writeI,if_pos he,hx]
 rw [hw]
 obtain⟨G,hG⟩:∃ G:Hp,G=H3++[some ⟨[[.str k,.int .i64 val,.bool gone,.int .i64 (s.time+1)]],4,99,false⟩]:=⟨_,rfl⟩
 have hleG:HLe H3 G:=by rw [hG]; exact HLe.self _ _
 have bG:=hleG.2 _ _ b3
 have bEG:=hleG.2 _ _ bE3
 have hone:OwnE H3 G (.sl H3.length 0 1) [⟨k,val,gone,s.time+1⟩]:=⟨Own.obj (R:=[[.str k,.int .i64 val,.bool gone,.int .i64 (s.time+1)]]) (by rw [hG]; simp) rfl,fun y hy=>by simp at hy; omega⟩
 simp [t0,t3,b3,bE3,<- hG,bG,bEG]
 refine cg_ex (RunJoin_ok a3 (.sl H3.length 0 1) x.top [⟨k,val,gone,s.time+1⟩] G (p31.ents.le hleG) hone.ents hsx.1 ⟨by simp,fun e hm=>by rw [List.mem_singleton.1 hm]; exact (entOk_fit he).1⟩) ?_
 rintro v H4 ⟨hle4,hret⟩
 have b4:=hle4.2 _ _ bG
 have bE4:=hle4.2 _ _ bEG
 have u4:=Hp.at_lt b4
 have ne1:o≠H.length:=by have:=Hp.at_lt b0; omega
 have hle34:=hleG.trans hle4
 cases hj:joinI x.top [⟨k,val,gone,s.time+1⟩] with
 | none =>
  rw [hj] at hret
  obtain rfl:=hret
  simp [t0,t3,b4,bE4,u4,ne1,ne1.symm,Hp.at_set_ne,Hp.at_set]
  exact⟨(q1.trans hle34).set ho _,(q2.trans hle34.k4).trans (PSt.fr4 _ b4),rfl⟩
 | some l =>
  rw [hj] at hret
  obtain⟨w,rfl,hw⟩:=hret
  simp [t0,t3,b4,bE4,u4,ne1,ne1.symm,Hp.at_set_ne,Hp.at_set,hw.rows.one,hw.rows.cells,hw.rows.cells1]
  exact⟨(q1.trans hle34).set ho _,(q2.trans hle34.k4).trans (PSt.fr4 _ b4),rfl,PSt.upd ho b4 hle34 hm3 (hw.base (Nat.le_trans q1.1 hleG.1)) (fun y hy=>Nat.le_trans hleG.1 (hw.2 y hy))⟩
end Go.Proofs.YtgoeenodllmdpaaGreat.B

namespace Go.Proofs.YtgoeenodllmdpaaGreat.B
open Go.RowKit Go.Proofs
set_option linter.unusedVariables false
set_option linter.unusedSimpArgs false
variable {E:Env}
theorem eqI_any (ts:List Int) (x:Int):ts.any (fun y=>decide (x=y))=decide (x∈ts):=by
 rw [Bool.eq_iff_iff,List.any_eq_true,decide_eq_true_iff]
 constructor
 ·rintro ⟨y,hy,h⟩
  rw [decide_eq_true_iff] at h
  rw [h]
  exact hy
 ·intro h
  exact⟨x,h,by simp⟩
theorem IndexI_ok (a:AV) (ts:List Int) (x:Int) (H:Hp) (ha:Ints H a ts) (hn:ts.length<1099511627776) :
  AC Tryz.prog E 213 [a,.int .i64 x] H (fun v H'=>v=.int .i64 (idxV (fun y=>decide (x=y)) ts)/\H'=H):=by
 refine AC_byp (tC_le tabJ_ok) h_slices_Index_Sint_int (by simp) ?_
 have l1:=ha.len
 simp [c_slices_Index_Sint_int,l1,ha.slc]
 refine W_for (fun m t H'=>∃ i,i+m=ts.length/\t 0=a/\t 1=.int .i64 x/\t 7=.int .i64 ts.length/\t 8=.int .i64 (i:Nat)/\H'=H/\∀ y∈ts.take i,decide (x=y)=false) ts.length ?_ (tC_mono AC_mono) ?_
 ·exact⟨0,by simp⟩
 rintro m t H' ⟨i,him,h0,h1,h7,h8,rfl,hI⟩
 simp [h0,h1,h7,h8]
 refine c_split (fun hq=>?_) (fun hq=>?_)<;>simp at hq
 ·have hw:=wrapN (i:=i) (by omega)
  obtain⟨o,i0,ob,rfl,a1,a2,a3⟩:=ha.get hq
  by_cases hx:x=ts[i]
  ·obtain⟨e1,e2⟩:=findIdx_first (p:=fun y=>decide (x=y)) hq (by simp [hx]) hI
   simp [h0,h1,h7,h8,hq,a1,a2,a3,hw,eq_true hx]
   simp only [idxV,e1,e2]
   simp
  ·simp [h0,h1,h7,h8,hq,a1,a2,a3,hw,hx]
   exact⟨m-1,by omega,i+1,by omega,by omega,fun y hy=>by simpa using take_snoc hq (by simp [hx]) hI y hy⟩
 ·have:i=ts.length:=by omega
  subst this
  rw [List.take_length] at hI
  have:ts.any (fun y=>decide (x=y))=false:=by
   rw [List.any_eq_false]
   intro x hx
   rw [hI x hx]
   simp
  simp only [idxV,this]
  simp
theorem ContainsI_ok (a:AV) (ts:List Int) (x:Int) (H:Hp) (ha:Ints H a ts) (hn:ts.length<1099511627776) :
  AC Tryz.prog E 165 [a,.int .i64 x] H (fun v H'=>v=.bool (decide (x∈ts))/\H'=H):=by
 refine AC_byp (tC_le tabJ_ok) h_slices_Contains_Sint_int (by simp) ?_
 simp [c_slices_Contains_Sint_int]
 refine cg_use (IndexI_ok a ts x H ha hn) ?_
 have:=idxV_pos (fun y=>decide (x=y)) ts
 rw [eqI_any,decide_eq_true_iff] at this
 simp [this]
theorem PSt.of {H0 H:Hp} {o:Nat} {r:List (List AV)} {a d:AV} {ol os:Nat} {s:Sr} (ho:H0.length<=o) (hb:H.at o=some ⟨r,6,28,false⟩) (hm:MSt H0 H (.ag [a,.sl ol 0 3,.sl os 0 3,.int .i64 s.keep,.int .i64 s.time,d]) s) :
  PSt H0 (List.set H o (some ⟨[[a,.sl ol 0 3,.sl os 0 3,.int .i64 s.keep,.int .i64 s.time,d]],6,28,false⟩)) o s :=
 ⟨ho,a,ol,os,d,Hp.at_set _ (Hp.at_lt hb),hm.fr (Fr.one H o _) (fun y ob hy hob=>by rw [hy,hb] at hob; cases hob; rfl)⟩
theorem hold_ok (o:Nat) (s:Sr) (H0 H:Hp) (hs:PSt H0 H o s) (hle0:HLe H0 H) (hsm:Small s) :
  AC Tryz.prog E 101 [.pt o 0 0] H (fun u H'=>OpR H0 H o u H' (holdI s)):=by
 obtain⟨ho,a,ol,os,d,b0,hm⟩:=hs
 obtain⟨p1,p2,p3⟩:=hm.parts
 have u0:=Hp.at_lt b0
 refine AC_by fol (tC_le tabJ_ok) h_impl_Store_hold ?_
 simp [c_impl_Store_hold,b0]
 have ts3:s.tms.length<=1000:=hsm.2.2.1
 refine cg_use (ContainsI_ok d s.tms s.time H p2.ints (by omega)) ?_
 by_cases hc:s.time∈s.tms
 ·simp [hc]
  exact⟨hle0,K4.refl _,by rw [holdI,if_pos hc]; exact⟨rfl,ho,a,ol,os,d,b0,hm⟩⟩
 ·simp [hc,b0,Hp.at_app,u0]
  refine appG_add (y:=s.time) (bytes:=8) (row:=intRow) (H0:=H0) p2 hle0 (by omega) rfl (fun v4 H4 g1 g2 g3 g4=>?_)
  have nd:¬d.of o:=fun h=>by have:=p2.1.ety h b0; simp at this
  have b4:=g3.2 _ _ nd b0
  have u4:=Hp.at_lt b4
  have hm4:=hm.app (ts:=s.tms++[s.time]) g3 g2 g4
  have l4:=g2.rows.len
  simp only [List.length_map,List.length_append,List.length_singleton] at l4
  simp [b4,u4,Hp.at_set,g2.rows.one,g2.rows.cells,g2.rows.cells1,g2.rows.slc,l4]
  refine⟨g1.set ho _,(g3.k4 (fun y ob hy hob=>by rw [p2.1.esz hy hob]; simp)).trans (PSt.fr4 _ b4),?_⟩
  by_cases h3:s.tms.length+1<=3
  ·rw [holdI,if_neg hc,if_pos h3,decide_eq_true (by omega:(s.tms.length:Int)+1<=3)]
   exact⟨rfl,PSt.of (s:={ s with tms:=s.tms++[s.time] }) ho b4 hm4⟩
  ·rw [holdI,if_neg hc,if_neg h3,decide_eq_false (by omega:¬(s.tms.length:Int)+1<=3)]
theorem cutG_sl {esz o i n l:Nat} {H:Hp} {ob:Ob} {C:CallP} {d:Option Nat} {p:Plan} {t:Tm} {K:Tm->Hp->Prop} (ho:H.at o=some ob) (he:ob.esz=esz) (hb:i+n<=ob.rows.length) (hl:l<=n)
  (hk:RgP C p (updO t d (.sl o (i+l) (n-l))) H K):cutG (.sl o i n) (some (.int .i64 l)) none esz C d p t H K:=by
 unfold cutG
 simp only [stepA,Od.ev,Option.map_some,Option.map_none,optI,ho,he,Option.bind_some,if_true]
 rw [show intA (AV.int IntKind.i64 (l:Int))=some (l:Int) from rfl]
 simp only [Option.bind_some]
 rw [if_pos ⟨by omega,by omega,by omega⟩]
 show RgP C p (updO t d (.sl o (i+(l:Int).toNat) ((n:Int).toNat-(l:Int).toNat))) H K
 simpa only [Int.toNat_natCast] using hk
theorem filter_take1 {p:Int->Bool} {ts:List Int} {j:Nat} (h:j<ts.length) (hp:p ts[j]=true) (h0:j=ts.findIdx p):(ts.take (j+1)).filter (fun x=>!p x)=ts.take j:=by
 rw [List.take_succ_eq_append_getElem h,List.filter_append]
 have e:(ts.take j).filter (fun x=>!p x)=ts.take j:=by
  rw [List.filter_eq_self]
  intro x hx
  obtain⟨i,hi,rfl⟩:=List.mem_take_iff_getElem.1 hx
  have:=List.not_of_lt_findIdx (p:=p) (xs:=ts) (i:=i) (by omega)
  simpa using this
 rw [e]
 simp [hp]
def OI (H:Hp) (o n:Nat) (l:List Int):Prop:=Own 1 3 H (.sl o 0 n) (l.map intRow)
def kep (p:Int->Bool) (l:List Int):List Int:=l.filter fun x=>!p x
theorem OI.get {H:Hp} {o n:Nat} {l:List Int} (h:OI H o n l) {i:Nat} {x:Int} (hi:l[i]?=some x):∃ ob,H.at o=some ob/\ob.ro=false/\ob.esz=1/\i<n/\ob.rows[i]?=some [.int .i64 x]:=by
 obtain⟨e,ob,q1,q2,q3,q4,q5,q6⟩:=Own.ob h
 rw [List.length_map] at e q5 q6
 have hl:i<l.length:=(List.getElem?_eq_some_iff.1 hi).1
 refine⟨ob,q1,q2,q3,by omega,?_⟩
 have:(ob.rows.take l.length)[i]?=(l.map intRow)[i]?:=by rw [q6]
 rw [List.getElem?_take,if_pos hl,List.getElem?_map,hi] at this
 exact this
theorem OI.set {H H':Hp} {o n:Nat} {l:List Int} (h:OI H o n l) {ob:Ob} (ho:H.at o=some ob) (i:Nat) (x:Int) (h':H'.at o=some { ob with rows:=ob.rows.set i [.int .i64 x] }):OI H' o n (l.set i x):=by
 have:=Own.setRow h ho i [.int .i64 x] h'
 unfold OI
 rw [List.map_set]
 exact this
theorem OI.clr {o n:Nat}:∀ (k:Nat) {H H':Hp} {l:List Int} {i:Nat} {ob:Ob},OI H o n l->H.at o=some ob->H'.at o=some { ob with rows:=clrR ob.rows i k (.int .i64 0) }->∃ l',OI H' o n l'/\l'.length=l.length/\l'.take i=l.take i
 | 0,H,H',l,i,ob,h,ho,h'=>by
  have hlen:l.length<=ob.rows.length:=by
   obtain⟨e,ob',q1,q2,q3,q4,q5,q6⟩:=Own.ob h
   rw [ho] at q1
   cases q1
   simpa using q5
  have:=h.set ho ob.rows.length 0 (h'.trans (by rw [List.set_eq_of_length_le (Nat.le_refl _)]; rfl))
  rw [List.set_eq_of_length_le hlen] at this
  exact⟨l,this,rfl,rfl⟩
 | k+1,H,H',l,i,ob,h,ho,h'=>by
  have h1:=Hp.at_set (some { ob with rows:=ob.rows.set i [.int .i64 0] }) (Hp.at_lt ho)
  obtain⟨l',e1,e2,e3⟩:=OI.clr k (i:=i+1) (h.set ho i 0 h1) h1 h'
  refine⟨l',e1,by simpa using e2,?_⟩
  have:=congrArg (List.take i) e3
  rw [List.take_take,List.take_take,Nat.min_eq_left (by omega),List.take_set_of_le (Nat.le_refl _)] at this
  exact this
theorem DeleteI_ok (d:AV) (ts:List Int) (g:Nat) (caps:List AV) (p:Int->Bool) (H0 H:Hp) (hd:OwnI H0 H d ts) (hn:ts.length<=1000) (hp:∀ x∈ts,∀ H',Fr d.of H H'->AC Tryz.prog E g (.int .i64 x :: caps) H' (fun v H2=>v=.bool (p x)/\H2=H')) (hg:∀ x,tabJ g (.int .i64 x :: caps)=none) :
  AC Tryz.prog E 145 [d,.fn g caps] H (fun v H'=>Fr d.of H H'/\OwnI H0 H' v (ts.filter fun x=>!p x)/\∀ y,v.of y->d.of y):=by
 refine AC_by fol (tC_le tabJ_ok) h_slices_DeleteFunc_Sint_int ?_
 simp [c_slices_DeleteFunc_Sint_int]
 refine cg_use (IndexInt_ok d ts g caps p H hd.ints (by omega) (fun x hx H' hle=>hp x hx H' hle.fr) hg) ?_
 by_cases hany:ts.any p=true
 ·have hi:idxV p ts=(ts.findIdx p:Nat):=by rw [idxV,if_pos hany]
  obtain⟨j0,hj0⟩:∃ j0,j0=ts.findIdx p:=⟨_,rfl⟩
  rw [hi,<- hj0]
  have hne:¬(j0:Int)=-1:=by omega
  have hjl:j0<ts.length:=by rw [hj0]; exact List.findIdx_lt_length_of_exists (by simpa using hany)
  have hpj:p ts[j0]=true:=by subst hj0; exact List.findIdx_getElem
  have hw0:=wrapN (i:=j0) (by omega)
  obtain⟨o,rfl⟩:=hd.1.sl (by rw [List.length_map]; omega)
  rw [List.length_map] at hd hp ⊢
  have hlo:H0.length<=o:=hd.2 o rfl
  obtain⟨n,hn0⟩:∃ n,n=ts.length:=⟨_,rfl⟩
  rw [<- hn0] at hd hp ⊢
  simp [hne,hw0]
  refine W_for (fun m t H'=>∃ (pre tl mid:List Int),ts=pre++tl/\tl.length=m/\(kep p pre).length+mid.length=pre.length/\0<mid.length/\t 0=.sl o 0 n/\t 1=.fn g caps/\t 5=.int .i64 ((kep p pre).length:Nat)/\t 6=.int .i64 (pre.length:Nat)/\Fr (fun y=>y=o) H H'/\OI H' o n (kep p pre++(mid++tl))) (n-(j0+1)) ?_ (tC_mono AC_mono) ?_
  ·have e1:kep p (ts.take (j0+1))=ts.take j0:=filter_take1 hjl hpj hj0
   have e2:ts.take j0++([ts[j0]]++ts.drop (j0+1))=ts:=by
    have:=List.drop_eq_getElem_cons hjl
    rw [List.singleton_append,<- this,List.take_append_drop]
   have l1:(ts.take j0).length=j0:=by rw [List.length_take]; omega
   have l2:(ts.take (j0+1)).length=j0+1:=by rw [List.length_take]; omega
   refine⟨ts.take (j0+1),ts.drop (j0+1),[ts[j0]],(List.take_append_drop _ _).symm,by rw [List.length_drop]; omega,?_⟩
   rw [e1,e2,l1,l2]
   simp
   exact⟨Fr.refl _ _,hd.1⟩
  rintro m t H' ⟨pre,tl,mid,hts,hm,hlen,hmid,h0,h1,h5,h6,hF,hO⟩
  have hnl:n=pre.length+tl.length:=by rw [hn0,hts,List.length_append]
  simp [h0,h1,h5,h6]
  refine c_split (fun hq=>?_) (fun hq=>?_)<;>simp at hq
  ·obtain⟨x,tl,rfl⟩:∃ x X',tl=x :: X':=List.exists_cons_of_length_pos (by omega)
   have hxm:x∈ts:=by rw [hts]; simp
   have hw:=wrapN (i:=pre.length) (by omega)
   have hw5:=wrapN (i:=(kep p pre).length) (by omega)
   obtain⟨y,mid,rfl⟩:∃ y X',mid=y :: X':=List.exists_cons_of_length_pos (by omega)
   have g1:(kep p pre++(y :: mid++x :: tl))[pre.length]?=some x:=by
    rw [show kep p pre++(y :: mid++x :: tl)=(kep p pre++y :: mid)++x :: tl by simp]
    exact get_mid _ _ _ (by rw [List.length_append]; omega)
   have g2:(kep p pre++(y :: mid++x :: tl))[(kep p pre).length]?=some y:=get_mid (kep p pre) y (mid++x :: tl) rfl
   obtain⟨ob,q1,q2,q3,q4,q5⟩:=hO.get g1
   obtain⟨ob2,r1,r2,r3,r4,r5⟩:=hO.get g2
   rw [q1] at r1
   cases r1
   obtain⟨kl,hkl⟩:∃ kl,kl=(kep p pre).length:=⟨_,rfl⟩
   obtain⟨pl,hpl⟩:∃ pl,pl=pre.length:=⟨_,rfl⟩
   rw [<- hkl] at hlen h5 hw5 r4 r5
   rw [<- hpl] at hlen h6 hw q4 q5 hq hnl
   have u1:=Hp.at_lt q1
   simp [h0,h1,h5,h6,q1,q3,q4,q5,hq]
   refine cg_use (hp x hxm H' (hF.mono (fun z hz=>.inl hz.symm))) ?_ (hg _)
   have hts2:ts=(pre++[x])++tl:=by rw [hts]; simp
   simp only [List.length_cons] at hm hlen
   cases hpx:p x with
   | true =>
    have hk2:kep p (pre++[x])=kep p pre:=by simp [kep,hpx]
    simp [h0,h1,h5,h6,hw]
    refine⟨m-1,by omega,pre++[x],tl,by simpa using hts2,by omega,y :: mid++[x],?_⟩
    rw [hk2,<- hkl]
    exact⟨by simp; omega,by simp,rfl,by simp; omega,hF,by simpa using hO⟩
   | false =>
    have hk2:kep p (pre++[x])=kep p pre++[x]:=by simp [kep,hpx]
    simp [h0,h1,h5,h6,hw,hw5,q1,q2,q3,r4,r5,u1]
    refine⟨m-1,by omega,pre++[x],tl,by simpa using hts2,by omega,mid++[x],?_⟩
    rw [hk2]
    have hs:=hO.set (H':=List.set H' o (some { ob with rows:=ob.rows.set kl [.int .i64 x] })) q1 kl x (Hp.at_set _ u1)
    rw [show kep p pre++(y :: mid++x :: tl)=kep p pre++y :: (mid++x :: tl) by simp,set_mid _ _ _ _ hkl,q3,q2] at hs
    exact⟨by simp; omega,by simp,by simp; omega,by simp; omega,hF.set (.inl rfl) _,by simpa using hs⟩
  ·have:tl=[]:=List.length_eq_zero_iff.1 (by omega)
   subst this
   obtain⟨e1,ob,q1,q2,q3,q4,q5,q6⟩:=Own.ob hO
   rw [List.length_map] at e1 q5
   simp only [List.append_nil,List.length_append,List.length_nil,Nat.add_zero] at e1 q5 hts hnl
   obtain⟨kl,hkl⟩:∃ kl,kl=(kep p pre).length:=⟨_,rfl⟩
   rw [<- hkl] at hlen h5 e1
   have u1:=Hp.at_lt q1
   simp [h0,h5]
   refine cutG_sl (l:=kl) q1 q3 (by omega) (by omega) ?_
   obtain⟨l',z1,z2,z3⟩:=OI.clr (n-kl) (H':=List.set H' o (some { ob with rows:=clrR ob.rows kl (n-kl) (.int .i64 0) })) (i:=kl) hO q1 (Hp.at_set _ u1)
   rw [List.append_nil] at z2 z3
   have z4:l'.take kl=kep p pre:=by rw [z3,hkl]; simp
   have z5:(l'.map intRow).take kl=(ts.filter fun x=>!p x).map intRow:=by
    rw [<- List.map_take,z4,hts]
    rfl
   have z6:(l'.map intRow).length=n:=by
    obtain⟨e,_⟩:=Own.ob z1
    exact e.symm
   have b1:kl+(n-kl)<=ob.rows.length:=by omega
   simp [h0,h5,q1,q2,q3,b1]
   rw [q2,q3] at z1
   refine cutG_upto (rows:=l'.map intRow) (Own.rows z1) kl rfl (by omega) (fun u g1 g2 g3=>?_)
   have g4:=g3 _ z1
   rw [z5] at g4
   simp
   exact⟨hF.set (.inl rfl) _ |>.mono (fun y hy=>.inl hy.symm),⟨g4,fun y hy=>by have:o=y:=g2 y hy; omega⟩,fun y hy=>g2 y hy⟩
 ·have hi:idxV p ts=-1:=by rw [idxV,if_neg hany]
  have hfil:ts.filter (fun x=>!p x)=ts:=by
   rw [List.filter_eq_self]
   intro x hx
   have:=List.any_eq_false.1 (Bool.eq_false_iff.2 hany) x hx
   simpa using this
  rw [hi,hfil]
  simp
  exact⟨Fr.refl _ _,hd⟩
end Go.Proofs.YtgoeenodllmdpaaGreat.B

namespace Go.Proofs.YtgoeenodllmdpaaGreat.B
open Go.RowKit
set_option linter.unusedVariables false
set_option linter.unusedSimpArgs false
structure Best (l:List Ent) (k:ByteArray) (t:Int) (e:Ent):Prop where
 mem:e∈l
 key:e.key=k
 le:e.time<=t
 max:∀ y∈l,y.key=k->y.time<=t->y.time<=e.time
theorem Best.congr {l l':List Ent} (h:∀ x,x∈l↔x∈l') {k:ByteArray} {t:Int} {e:Ent} (hb:Best l k t e):Best l' k t e:=⟨(h e).1 hb.mem,hb.key,hb.le,fun y hy=>hb.max y ((h y).2 hy)⟩
theorem best_of {l:List Ent} {k:ByteArray} {t:Int}:∀ {x:Ent},x∈l->x.key=k->x.time<=t->∃ e,Best l k t e/\x.time<=e.time:=by
 induction l with
 | nil=>intro x hx; cases hx
 | cons a l ih =>
  intro x hx hk ht
  by_cases ha:a.key=k/\a.time<=t
  ·by_cases hl:∃ z∈l,z.key=k/\z.time<=t
   ·obtain⟨z,hz,hzk,hzt⟩:=hl
    obtain⟨e,he,hze⟩:=ih hz hzk hzt
    by_cases hc:a.time<=e.time
    ·refine⟨e,⟨by simp [he.mem],he.key,he.le,fun y hy hyk hyt=>?_⟩,?_⟩
     ·rcases List.mem_cons.1 hy with rfl | hy
      ·exact hc
      ·exact he.max y hy hyk hyt
     ·rcases List.mem_cons.1 hx with rfl | hx
      ·exact hc
      ·exact he.max x hx hk ht
    ·refine⟨a,⟨by simp,ha.1,ha.2,fun y hy hyk hyt=>?_⟩,?_⟩
     ·rcases List.mem_cons.1 hy with rfl | hy
      ·exact Int.le_refl _
      ·have:=he.max y hy hyk hyt
       omega
     ·rcases List.mem_cons.1 hx with rfl | hx
      ·exact Int.le_refl _
      ·have:=he.max x hx hk ht
       omega
   ·have hno:∀ y∈l,y.key=k->y.time<=t->False:=fun y hy h1 h2=>hl ⟨y,hy,h1,h2⟩
    refine⟨a,⟨by simp,ha.1,ha.2,fun y hy hyk hyt=>?_⟩,?_⟩
    ·rcases List.mem_cons.1 hy with rfl | hy
     ·exact Int.le_refl _
     ·exact (hno y hy hyk hyt).elim
    ·rcases List.mem_cons.1 hx with rfl | hx
     ·exact Int.le_refl _
     ·exact (hno x hx hk ht).elim
  ·rcases List.mem_cons.1 hx with rfl | hx
   ·exact absurd ⟨hk,ht⟩ ha
   ·obtain⟨e,he,hxe⟩:=ih hx hk ht
    refine⟨e,⟨by simp [he.mem],he.key,he.le,fun y hy hyk hyt=>?_⟩,hxe⟩
    rcases List.mem_cons.1 hy with rfl | hy
    ·exact absurd ⟨hyk,hyt⟩ ha
    ·exact he.max y hy hyk hyt
def Same (t:Int) (l l':List Ent):Prop:=∀ k e,Best l k t e↔Best l' k t e
def Seen (t:Int) (l l':List Ent):Prop:=∀ k e,e.gone=false->(Best l k t e↔Best l' k t e)
theorem Same.seen {t:Int} {l l':List Ent} (h:Same t l l'):Seen t l l':=fun k e _=>h k e
theorem Same.refl (t:Int) (l:List Ent):Same t l l:=fun _ _=>Iff.rfl
theorem Same.trans {t:Int} {a b c:List Ent} (h:Same t a b) (k:Same t b c):Same t a c:=fun x e=>(h x e).trans (k x e)
theorem Seen.trans {t:Int} {a b c:List Ent} (h:Seen t a b) (k:Seen t b c):Seen t a c:=fun x e g=>(h x e g).trans (k x e g)
theorem same_mem {t:Int} {l l':List Ent} (h:∀ x,x∈l↔x∈l'):Same t l l':=fun k e=>⟨Best.congr h,Best.congr (fun x=>(h x).symm)⟩
theorem same_sub {t:Int} {l l':List Ent} (hs:∀ x∈l',x∈l) (hb:∀ k e,Best l k t e->e∈l'):Same t l l':=fun k e=>by
 constructor
 ·intro h
  exact⟨hb k e h,h.key,h.le,fun y hy=>h.max y (hs y hy)⟩
 ·intro h
  refine⟨hs e h.mem,h.key,h.le,fun y hy hyk hyt=>?_⟩
  obtain⟨g,hg,hyg⟩:=best_of hy hyk hyt
  have:=h.max g (hb k g hg) hg.key hg.le
  omega
def Newer (a b:List Ent):Prop:=∀ x∈a,∀ y∈b,x.key=y.key->y.time<x.time
theorem best_app {a b:List Ent} (h:Newer a b) {k:ByteArray} {t:Int} {e:Ent}:Best (a++b) k t e↔Best a k t e\/((∀ x∈a,x.key=k->¬x.time<=t)/\Best b k t e):=by
 constructor
 ·intro hb
  by_cases hx:∃ x∈a,x.key=k/\x.time<=t
  ·obtain⟨x,hxa,hxk,hxt⟩:=hx
   have hm:=hb.max x (by simp [hxa]) hxk hxt
   rcases List.mem_append.1 hb.mem with hea | heb
   ·exact .inl ⟨hea,hb.key,hb.le,fun y hy=>hb.max y (by simp [hy])⟩
   ·have:=h x hxa e heb (hxk.trans hb.key.symm)
    omega
  ·have hno:∀ x∈a,x.key=k->¬x.time<=t:=fun x h1 h2 h3=>hx ⟨x,h1,h2,h3⟩
   rcases List.mem_append.1 hb.mem with hea | heb
   ·exact absurd hb.le (hno e hea hb.key)
   ·exact .inr ⟨hno,heb,hb.key,hb.le,fun y hy=>hb.max y (by simp [hy])⟩
 ·rintro (hb | ⟨hno,hb⟩)
  ·refine⟨by simp [hb.mem],hb.key,hb.le,fun y hy hyk hyt=>?_⟩
   rcases List.mem_append.1 hy with hy | hy
   ·exact hb.max y hy hyk hyt
   ·have:=h e hb.mem y hy (hb.key.trans hyk.symm)
    omega
  ·refine⟨by simp [hb.mem],hb.key,hb.le,fun y hy hyk hyt=>?_⟩
   rcases List.mem_append.1 hy with hy | hy
   ·exact absurd hyt (hno y hy hyk)
   ·exact hb.max y hy hyk hyt
theorem Seen.left {t:Int} {a b b':List Ent} (h:Newer a b) (h':Newer a b') (hs:Seen t b b'):Seen t (a++b) (a++b'):=fun k e g=>by
 rw [best_app h,best_app h',hs k e g]
theorem Same.right {t:Int} {a a' b:List Ent} (h:Newer a b) (h':Newer a' b) (hs:Same t a a'):Same t (a++b) (a'++b):=fun k e=>by
 rw [best_app h,best_app h',hs k e]
 have:(∀ x∈a,x.key=k->¬x.time<=t)↔(∀ x∈a',x.key=k->¬x.time<=t):=by
  constructor
  ·intro hn x hx hk ht
   obtain⟨g,hg,_⟩:=best_of hx hk ht
   exact hn g ((hs k g).2 hg).mem hg.key hg.le
  ·intro hn x hx hk ht
   obtain⟨g,hg,_⟩:=best_of hx hk ht
   exact hn g ((hs k g).1 hg).mem hg.key hg.le
 rw [this]
def Look (ts:List Int) (r:List Ent) (t:Int):Prop:=t∈ts\/∀ x∈r,x.time<=t
theorem trim1_best {ts:List Int} {t:Int}:∀ {r:List Ent} {p:Option Ent},(∀ q,p=some q->∀ y∈r,ahead q y=true)->r.Pairwise (fun x y=>ahead x y=true)->(t∈ts\/((∀ x∈r,x.time<=t)/\∀ q,p=some q->q.time<=t)) ->
  ∀ k e,Best r k t e->(∀ q,p=some q->q.key=k->t<q.time)->e∈trim1 ts p r
 | [],p,_,_,_,k,e,hb,_=>by cases hb.mem
 | a :: r,p,hp,hs,hlook,k,e,hb,hpq=>by
  obtain⟨h1,h2⟩:=List.pairwise_cons.1 hs
  have hlook2:t∈ts\/((∀ x∈r,x.time<=t)/\∀ q,some a=some q->q.time<=t):=hlook.imp id (fun h=>⟨fun x hx=>h.1 x (by simp [hx]),fun q hq=>by injection hq with hq; rw [<- hq]; exact h.1 a (by simp)⟩)
  rw [trim1]
  have rec':e∈r->e∈trim1 ts (some a) r:=fun her=>by
   refine trim1_best (fun q hq y hy=>by injection hq with hq; rw [<- hq]; exact h1 y hy) h2 hlook2 k e ⟨her,hb.key,hb.le,fun y hy=>hb.max y (by simp [hy])⟩ (fun q hq hqk=>?_)
   injection hq with hq
   subst hq
   rcases Int.lt_or_le t a.time with hlt | hle
   ·exact hlt
   ·have:=hb.max a (by simp) hqk hle
    have h3:=h1 e her
    rw [ahead_iff,hqk,hb.key,sless_irrefl] at h3
    rcases h3 with h3 | h3
    ·cases h3
    ·omega
  rcases List.mem_cons.1 hb.mem with he | he
  ·subst he
   have hk:seenB ts p e=true:=by
    unfold seenB
    cases p with
    | none=>rfl
    | some q =>
     simp only [Bool.or_eq_true,Bool.not_eq_true',decide_eq_false_iff_not]
     by_cases hqk:q.key=e.key
     ·right
      have hqt:=hpq q rfl (hqk.trans hb.key)
      rcases hlook with hl | hl
      ·rw [List.any_eq_true]
       exact⟨t,hl,by simp only [Bool.and_eq_true,decide_eq_true_eq]; exact⟨hb.le,hqt⟩⟩
      ·have:=hl.2 q rfl
       omega
     ·exact .inl hqk
   rw [if_pos hk]
   simp
  ·split
   ·exact List.mem_cons_of_mem _ (rec' he)
   ·exact rec' he
theorem trim1_mem {ts:List Int} {p:Option Ent} {r:List Ent} {x:Ent} (h:x∈trim1 ts p r):x∈r:=(trim1_sub ts p r).subset h
theorem trim1_same {ts:List Int} {t:Int} {r:List Ent} (hr:r.Pairwise (fun x y=>ahead x y=true)) (hl:Look ts r t):Same t r (trim1 ts none r) :=
 same_sub (fun x hx=>trim1_mem hx) (fun k e hb=>trim1_best (fun q hq=>by cases hq) hr (hl.imp id (fun h=>⟨h,fun q hq=>by cases hq⟩)) k e hb (fun q hq=>by cases hq))
theorem drop1_mem:∀ {r:List Ent} {x:Ent},r.Pairwise (fun x y=>ahead x y=true)->x∈r->x∈drop1 r\/(x.gone=true/\∀ y∈r,y.key=x.key->x.time<=y.time)
 | [],x,_,h=>by cases h
 | a :: r,x,hs,h=>by
  obtain⟨h1,h2⟩:=List.pairwise_cons.1 hs
  rw [drop1]
  rcases List.mem_cons.1 h with rfl | hx
  ·by_cases hk:(!x.gone||!lastB x r)=true
   ·rw [if_pos hk]
    exact .inl (by simp)
   ·right
    simp only [Bool.or_eq_true,Bool.not_eq_true',not_or,Bool.not_eq_false] at hk
    refine⟨hk.1,fun y hy hyk=>?_⟩
    rcases List.mem_cons.1 hy with rfl | hy
    ·exact Int.le_refl _
    ·exfalso
     have hl:=hk.2
     cases r with
     | nil=>cases hy
     | cons f fs =>
      simp only [lastB,Bool.not_eq_true',decide_eq_false_iff_not] at hl
      have hxf:=h1 f (by simp)
      have hxy:=h1 y hy
      have hfx:f.key≠x.key:=hl
      rw [ahead_iff] at hxf
      rcases hxf with hxf | hxf
      ·rcases List.mem_cons.1 hy with rfl | hy
       ·exact hfx hyk
       ·have hfy:=(List.pairwise_cons.1 h2).1 y hy
        rw [ahead_iff,hyk] at hfy
        rcases hfy with hfy | hfy
        ·have:=sless_asymm hxf
         rw [hfy] at this
         cases this
        ·exact hfx hfy.1
      ·exact hfx hxf.1.symm
  ·rcases drop1_mem h2 hx with hd | ⟨hg,hm⟩
   ·left
    split
    ·exact List.mem_cons_of_mem _ hd
    ·exact hd
   ·right
    refine⟨hg,fun y hy hyk=>?_⟩
    rcases List.mem_cons.1 hy with rfl | hy
    ·have:=h1 x hx
     rw [ahead_iff,hyk,sless_irrefl] at this
     rcases this with h | h
     ·cases h
     ·omega
    ·exact hm y hy hyk
theorem drop1_seen {t:Int} {r:List Ent} (hr:r.Pairwise (fun x y=>ahead x y=true)):Seen t r (drop1 r):=fun k e g=>by
 have hsub:∀ x∈drop1 r,x∈r:=fun x hx=>(drop1_sub r).subset hx
 constructor
 ·intro h
  rcases drop1_mem hr h.mem with hd | ⟨hg,_⟩
  ·exact⟨hd,h.key,h.le,fun y hy=>h.max y (hsub y hy)⟩
  ·rw [hg] at g; cases g
 ·intro h
  refine⟨hsub e h.mem,h.key,h.le,fun y hy hyk hyt=>?_⟩
  rcases drop1_mem hr hy with hd | ⟨_,hm⟩
  ·exact h.max y hd hyk hyt
  ·exact hm e (hsub e h.mem) (h.key.trans hyk.symm)
theorem trimR_seen {ts:List Int} {t:Int} {r:List Ent} (b:Bool) (hr:r.Pairwise (fun x y=>ahead x y=true)) (hl:Look ts r t):Seen t r (trimR r ts b):=by
 unfold trimR
 split
 ·exact (trim1_same hr hl).seen.trans (drop1_seen (hr.sublist (trim1_sub ts none r)))
 ·exact (trim1_same hr hl).seen
theorem trimR_same {ts:List Int} {t:Int} {r:List Ent} (hr:r.Pairwise (fun x y=>ahead x y=true)) (hl:Look ts r t):Same t r (trimR r ts false):=by
 unfold trimR
 rw [if_neg (by decide)]
 exact trim1_same hr hl
end Go.Proofs.YtgoeenodllmdpaaGreat.B

namespace Go.Proofs.YtgoeenodllmdpaaGreat.B
open Go.RowKit
set_option linter.unusedVariables false
set_option linter.unusedSimpArgs false
structure LvOk (keep:Int) (i:Nat) (l:List Ent) (v:Sv):Prop where
 run:runOk l=true
 len:l.length<=sizeL i
 sv:sieveO (keysR l) keep=some v
theorem runOk_sub {r l:List Ent} (h:runOk r=true) (hs:l.Sublist r):runOk l=true:=by
 obtain⟨h1,h2,h3⟩:=runOk_pair h
 exact runOk_of (h1.sublist hs) (fun e he=>h2 e (hs.subset he)) (Nat.le_trans hs.length_le h3)
theorem setR_some {s x:Sr} {i:Nat} {r:List Ent} (h:setR s i r=some x):∃ v,x={ s with lev:=s.lev.set i r,sv:=s.sv.set i v }/\sieveO (keysR r) s.keep=some v/\r.length<=sizeL i:=by
 unfold setR at h
 split at h
 ·cases h
 ·rename_i v hv
  split at h
  ·rename_i hl
   injection h with h
   exact⟨v,h.symm,hv,hl⟩
  ·cases h
theorem Newer.sub {a b a' b':List Ent} (h:Newer a b) (ha:∀ x∈a',x∈a) (hb:∀ x∈b',x∈b):Newer a' b':=fun x hx y hy=>h x (ha x hx) y (hb y hy)
theorem Newer.app {a b c:List Ent} (h:Newer a b) (k:Newer a c):Newer a (b++c):=fun x hx y hy=>(List.mem_append.1 hy).elim (h x hx y) (k x hx y)
theorem Newer.app_left {a b c:List Ent} (h:Newer a c) (k:Newer b c):Newer (a++b) c:=fun x hx y hy=>(List.mem_append.1 hx).elim (fun h'=>h x h' y hy) (fun h'=>k x h' y hy)
theorem fine_of {a b:List Ent} (ha:runOk a=true) (hb:runOk b=true) (hn:Newer a b) (hl:a.length+b.length<=40):Fine a b:=⟨ha,hb,hn,hl⟩
theorem joinL_iff (a b:List Ent) (x:Ent):x∈joinL a b↔x∈a++b:=(joinL_perm b a).mem_iff
theorem join_trim {ts:List Int} {t:Int} {a b:List Ent} (bot:Bool) (h:Fine a b) (hl:Look ts (a++b) t):runOk (trimR (joinL a b) ts bot)=true/\(∀ x∈trimR (joinL a b) ts bot,x∈a++b)/\Seen t (a++b) (trimR (joinL a b) ts bot)/\(bot=false->Same t (a++b) (trimR (joinL a b) ts bot)):=by
 have hr:=h.run
 have hp:=(runOk_pair hr).1
 have hl':Look ts (joinL a b) t:=hl.imp id (fun g x hx=>g x ((joinL_iff a b x).1 hx))
 have hs:Same t (a++b) (joinL a b):=same_mem (fun x=>(joinL_iff a b x).symm)
 refine⟨runOk_sub hr (trimR_sub _ _ _),fun x hx=>(joinL_iff a b x).1 ((trimR_sub _ _ _).subset hx),hs.seen.trans (trimR_seen bot hp hl'),fun hb=>?_⟩
 subst hb
 exact hs.trans (trimR_same hp hl')
theorem Look.sub {ts:List Int} {t:Int} {r r':List Ent} (h:Look ts r t) (hs:∀ x∈r',x∈r):Look ts r' t:=h.imp id (fun g x hx=>g x (hs x hx))
section
variable {s x:Sr} {a b c r:List Ent} {u v w:Sv}
theorem into0 (hl:s.lev=[a,b,c]) (hs:s.sv=[u,v,w]) (hf:Fine r c) (hx:intoR 0 s r=some x) :
  ∃ c' w',x={ s with lev:=[a,b,c'],sv:=[u,v,w'] }/\LvOk s.keep 2 c' w'/\(∀ y∈c',y∈r++c)/\∀ t,Look s.tms (r++c) t->Seen t (r++c) c':=by
 rw [intoR,hl] at hx
 obtain⟨w',rfl,h2,h3⟩:=setR_some hx
 have hj:=fun t=>join_trim (ts:=s.tms) (t:=t) true hf
 refine⟨_,w',by rw [hl,hs]; rfl,⟨?_,h3,h2⟩,?_,fun t ht=>(hj t ht).2.2.1⟩
 ·exact runOk_sub hf.run (trimR_sub _ _ _)
 ·exact fun y hy=>(joinL_iff _ _ _).1 ((trimR_sub _ _ _).subset hy)
theorem into1 (hl:s.lev=[a,b,c]) (hs:s.sv=[u,v,w]) (hf:Fine r b) (hf2:Fine b c) (hrc:Newer r c) (hc:LvOk s.keep 2 c w) (hx:intoR 1 s r=some x) :
  ∃ b' c' v' w',x={ s with lev:=[a,b',c'],sv:=[u,v',w'] }/\LvOk s.keep 1 b' v'/\LvOk s.keep 2 c' w'/\Newer b' c'/\(∀ y∈b',y∈r++b)/\(∀ y∈b'++c',y∈r++(b++c))/\∀ t,Look s.tms (r++(b++c)) t->Seen t (r++(b++c)) (b'++c'):=by
 have hj:=fun t=>join_trim (ts:=s.tms) (t:=t) false hf
 have hsub:∀ y∈trimR (joinL r b) s.tms false,y∈r++b:=fun y hy=>(joinL_iff _ _ _).1 ((trimR_sub _ _ _).subset hy)
 have hrbc:Newer (r++b) c:=hrc.app_left hf2.new
 rw [intoR,hl] at hx
 simp only [List.getD_cons_succ,List.getD_cons_zero] at hx
 cases h1:setR s 1 (trimR (joinL r b) s.tms false) with
 | some z =>
  have hx:some z=some x:=by
   rw [<- hx,show (1-0:Nat)=1 from rfl]
   simp only [List.getD_cons_succ,List.getD_cons_zero,h1]
  injection hx with hx
  subst hx
  obtain⟨v',rfl,h2,h3⟩:=setR_some h1
  refine⟨trimR (joinL r b) s.tms false,c,v',w,by rw [hl,hs]; rfl,⟨runOk_sub hf.run (trimR_sub _ _ _),h3,h2⟩,hc,hrbc.sub hsub (fun _ h=>h),hsub,fun y hy=>?_,fun t ht=>?_⟩
  ·rcases List.mem_append.1 hy with h | h
   ·rw [<- List.append_assoc]
    exact List.mem_append_left _ (hsub y h)
   ·simp [h]
  ·have ht':Look s.tms (r++b) t:=ht.sub (fun y hy=>by rw [<- List.append_assoc]; exact List.mem_append_left _ hy)
   rw [<- List.append_assoc]
   exact (((hj t ht').2.2.2 rfl).right hrbc (hrbc.sub hsub (fun _ h=>h))).seen
 | none =>
  have hx:(match intoR 0 s b with | none=>none | some x=>setR x 1 (trimR r x.tms false))=some x:=by
   rw [<- hx,show (1-0:Nat)=1 from rfl]
   simp only [List.getD_cons_succ,List.getD_cons_zero,h1]
   rfl
  cases h0:intoR 0 s b with
  | none=>rw [h0] at hx; cases hx
  | some z =>
   rw [h0] at hx
   obtain⟨c',w',rfl,k1,k2,k3⟩:=into0 hl hs hf2 h0
   simp only at hx
   obtain⟨v',rfl,h2,h3⟩:=setR_some hx
   have hsubr:∀ y∈trimR r s.tms false,y∈r:=fun y hy=>(trimR_sub _ _ _).subset hy
   have hrn:Newer r (b++c):=Newer.app hf.new hrc
   have hn':Newer r c':=hrn.sub (fun _ h=>h) k2
   refine⟨trimR r s.tms false,c',v',w',by rfl,⟨runOk_sub hf.ra (trimR_sub _ _ _),h3,h2⟩,k1,hn'.sub hsubr (fun _ h=>h),fun y hy=>List.mem_append_left _ (hsubr y hy),fun y hy=>?_,fun t ht=>?_⟩
   ·rcases List.mem_append.1 hy with h | h
    ·exact List.mem_append_left _ (hsubr y h)
    ·exact List.mem_append_right _ (k2 y h)
   ·have t1:Look s.tms r t:=ht.sub (fun y hy=>List.mem_append_left _ hy)
    have t2:Look s.tms (b++c) t:=ht.sub (fun y hy=>List.mem_append_right _ hy)
    have e1:Seen t (r++(b++c)) (r++c'):=Seen.left hrn hn' (k3 t t2)
    have e2:Same t (r++c') (trimR r s.tms false++c'):=Same.right hn' (hn'.sub hsubr (fun _ h=>h)) (trimR_same (runOk_pair hf.ra).1 t1)
    exact e1.trans e2.seen
theorem into2 (hl:s.lev=[a,b,c]) (hs:s.sv=[u,v,w]) (hf:Fine r a) (hf1:Fine a b) (hf2:Fine b c) (hrb:Newer r b) (hrc:Newer r c) (hac:Newer a c) (hb:LvOk s.keep 1 b v) (hc:LvOk s.keep 2 c w) (hx:intoR 2 s r=some x) :
  ∃ a' b' c' u' v' w',x={ s with lev:=[a',b',c'],sv:=[u',v',w'] }/\LvOk s.keep 0 a' u'/\LvOk s.keep 1 b' v'/\LvOk s.keep 2 c' w'/\Newer a' (b'++c')/\Newer b' c'/\(∀ y∈a'++(b'++c'),y∈r++(a++(b++c)))/\∀ t,Look s.tms (r++(a++(b++c))) t->Seen t (r++(a++(b++c))) (a'++(b'++c')):=by
 have hj:=fun t=>join_trim (ts:=s.tms) (t:=t) false hf
 have hsub:∀ y∈trimR (joinL r a) s.tms false,y∈r++a:=fun y hy=>(joinL_iff _ _ _).1 ((trimR_sub _ _ _).subset hy)
 have hbc:Newer b c:=hf2.new
 have hra:Newer (r++a) (b++c):=(Newer.app hrb hrc).app_left (Newer.app hf1.new hac)
 rw [intoR,hl] at hx
 cases h1:setR s 0 (trimR (joinL r a) s.tms false) with
 | some z =>
  have hx:some z=some x:=by
   rw [<- hx,show (1-1:Nat)=0 from rfl]
   simp only [List.getD_cons_zero,h1]
  injection hx with hx
  subst hx
  obtain⟨u',rfl,h2,h3⟩:=setR_some h1
  refine⟨trimR (joinL r a) s.tms false,b,c,u',v,w,by rw [hl,hs]; rfl,⟨runOk_sub hf.run (trimR_sub _ _ _),h3,h2⟩,hb,hc,hra.sub hsub (fun _ h=>h),hbc,fun y hy=>?_,fun t ht=>?_⟩
  ·rcases List.mem_append.1 hy with h | h
   ·rw [<- List.append_assoc]
    exact List.mem_append_left _ (hsub y h)
   ·exact List.mem_append_right _ (List.mem_append_right _ h)
  ·have ht':Look s.tms (r++a) t:=ht.sub (fun y hy=>by rw [<- List.append_assoc]; exact List.mem_append_left _ hy)
   rw [<- List.append_assoc]
   exact (((hj t ht').2.2.2 rfl).right hra (hra.sub hsub (fun _ h=>h))).seen
 | none =>
  have hx:(match intoR 1 s a with | none=>none | some x=>setR x 0 (trimR r x.tms false))=some x:=by
   rw [<- hx,show (1-1:Nat)=0 from rfl]
   simp only [List.getD_cons_zero,h1]
   rfl
  cases h0:intoR 1 s a with
  | none=>rw [h0] at hx; cases hx
  | some z =>
   rw [h0] at hx
   obtain⟨b',c',v',w',rfl,k1,k2,k3,-,k4,k5⟩:=into1 hl hs hf1 hf2 hac hc h0
   simp only at hx
   obtain⟨u',rfl,h2,h3⟩:=setR_some hx
   have hsubr:∀ y∈trimR r s.tms false,y∈r:=fun y hy=>(trimR_sub _ _ _).subset hy
   have hrn:Newer r (a++(b++c)):=Newer.app hf.new (Newer.app hrb hrc)
   have hn':Newer r (b'++c'):=hrn.sub (fun _ h=>h) k4
   refine⟨trimR r s.tms false,b',c',u',v',w',by rfl,⟨runOk_sub hf.ra (trimR_sub _ _ _),h3,h2⟩,k1,k2,hn'.sub hsubr (fun _ h=>h),k3,fun y hy=>?_,fun t ht=>?_⟩
   ·rcases List.mem_append.1 hy with h | h
    ·exact List.mem_append_left _ (hsubr y h)
    ·exact List.mem_append_right _ (k4 y h)
   ·have t1:Look s.tms r t:=ht.sub (fun y hy=>List.mem_append_left _ hy)
    have t2:Look s.tms (a++(b++c)) t:=ht.sub (fun y hy=>List.mem_append_right _ hy)
    have e1:Seen t (r++(a++(b++c))) (r++(b'++c')):=Seen.left hrn hn' (k5 t t2)
    have e2:Same t (r++(b'++c')) (trimR r s.tms false++(b'++c')):=Same.right hn' (hn'.sub hsubr (fun _ h=>h)) (trimR_same (runOk_pair hf.ra).1 t1)
    exact e1.trans e2.seen
end
end Go.Proofs.YtgoeenodllmdpaaGreat.B

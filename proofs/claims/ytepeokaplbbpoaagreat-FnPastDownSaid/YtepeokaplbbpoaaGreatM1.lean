/- A part of the proof: The program logic: the set of words for simp. The program logic: slices and what they hold. The program logic: the arguments of a law, as objects that are read alone. The program logic: a law's row out of what is known of its code. The program logic: memory of one's own, append, and calls that are read off a table. Strings, entries and runs, in plain Lean. Written by codes.py: the compact codes of functions; each is what compF makes of the program's own. Written by codes.py: the compact codes of functions; each is what compF makes of the program's own. There is no condition. -/
import Derived.SizedLaws
import Derived.ChangeArms
import Derived.WideShapes
import Derived.WalkKit
import Derived.ProofKit
import Derived.OpenShut
import Derived.ChangeOld
import Derived.Carry
import Derived.Lib.ItoaNum
import Derived.Test.YtepeokaplbbpoaaGreatProg
import Derived.Test.YtepeokaplbbpoaaGreatM0
namespace Go.Proofs.YtepeokaplbbpoaaGreat.B
open Go.RowKit
set_option linter.unusedVariables false
set_option linter.unusedSimpArgs false
section
variable (C:CallP) (t:Tm) (H:Hp) (K:Tm->Hp->Prop) (Q:Ex->Tm->Hp->Prop)
@[simp] theorem W_seq (a b:CC):W C (.seq a b) Q t H=W C a (thenX (W C b Q) Q) t H:=rfl
@[simp] theorem W_skip:W C .skip Q t H=Q .normal t H:=rfl
@[simp] theorem W_plan (p:Plan):W C (.plan p) Q t H=RgP C p t H (Q .normal):=rfl
@[simp] theorem W_block_plan (id:Nat) (c:Plan):W C (.block id (.plan c)) Q t H=W C (.plan c) (inB id Q) t H:=rfl
@[simp] theorem W_block_seq (id:Nat) (a b:CC):W C (.block id (.seq a b)) Q t H=W C (.seq a b) (inB id Q) t H:=rfl
@[simp] theorem W_block_cond (id:Nat) (c:Od) (a b:CC):W C (.block id (.cond c a b)) Q t H=W C (.cond c a b) (inB id Q) t H:=rfl
@[simp] theorem W_block_block (id id2:Nat) (c:CC):W C (.block id (.block id2 c)) Q t H=W C (.block id2 c) (inB id Q) t H:=rfl
@[simp] theorem W_block_skip (id:Nat):W C (.block id .skip) Q t H=Q .normal t H:=rfl
@[simp] theorem W_exit (id:Nat):W C (.exit id) Q t H=Q (.exit id) t H:=rfl
@[simp] theorem W_ret:W C .ret Q t H=Q .ret t H:=rfl
@[simp] theorem RgP_fin:RgP C .fin t H K=K t H:=rfl
@[simp] theorem RgP_both (a b:Plan):RgP C (.both a b) t H K=(RgP C a t H K/\RgP C b t H K):=rfl
@[simp] theorem RgP_calv (d:Option Nat) (x:Od) (xs:List Od) (ag) (p:Plan):RgP C (.st d (.calv x xs) none ag p) t H K=calvG (x.ev t) C (xs.map (·.ev t)) d ag p t H K:=by
 simp only [RgP]
 show stepK C t H (.calv x xs) _=_
 simp only [stepK,calvG]
 generalize x.ev t=v
 cases v<;>rfl
@[simp] theorem calvG_fn (f:Nat) (cs args:List AV) (d:Option Nat) (ag) (p:Plan):calvG (.fn f cs) C args d ag p t H K=callG C f (args++cs) d ag p t H K:=rfl
variable (g:Nat) (d:Option Nat) (op:AOp) (p:Plan)
@[simp] theorem gG_tt:gG (.bool true) g true C d op p t H K=RgP C (.st d op none [] p) t H K:=by simp [gG]
@[simp] theorem gG_tf:gG (.bool true) g false C d op p t H K=RgP C p (updO t d .un) H K:=by simp [gG]
@[simp] theorem gG_ft:gG (.bool false) g true C d op p t H K=RgP C p (updO t d .un) H K:=by simp [gG]
@[simp] theorem gG_ff:gG (.bool false) g false C d op p t H K=RgP C (.st d op none [] p) t H K:=by simp [gG]
@[simp] theorem gG_un (b:Bool):gG .un g b C d op p t H K=RgP C p (updO t d .un) H K:=rfl
variable (a b:CC)
@[simp] theorem cG_t:cG (.bool true) C a b Q t H=W C a Q t H:=by simp [cG]
@[simp] theorem cG_f:cG (.bool false) C a b Q t H=W C b Q t H:=by simp [cG]
end
@[simp] theorem stepH_mv (t:Tm) (H:Hp) (x:Od):stepH t H (.mv x)=H:=rfl
@[simp] theorem stepH_pick (t:Tm) (H:Hp) (x y z:Od):stepH t H (.pick x y z)=H:=rfl
@[simp] theorem stepC_box (t:Tm) (H:Hp) (e n:Nat) (x:Od):stepC t H (.box e n x)=((stepA t H (.box e n x)).isSome=true):=rfl
@[simp] theorem stepV_box (t:Tm) (H:Hp) (e n:Nat) (x:Od):stepV t H (.box e n x)=oV (stepA t H (.box e n x)):=rfl
@[simp] theorem stepH_box (t:Tm) (H:Hp) (e n:Nat) (x:Od):stepH t H (.box e n x)=oH (stepA t H (.box e n x)) H:=rfl
@[simp] theorem stepC_build (t:Tm) (H:Hp) (zs:List AV) (ps:List (Nat × Nat × Od)):stepC t H (.build zs ps)=((stepA t H (.build zs ps)).isSome=true):=rfl
@[simp] theorem stepV_build (t:Tm) (H:Hp) (zs:List AV) (ps:List (Nat × Nat × Od)):stepV t H (.build zs ps)=oV (stepA t H (.build zs ps)):=rfl
@[simp] theorem stepH_build (t:Tm) (H:Hp) (zs:List AV) (ps:List (Nat × Nat × Od)):stepH t H (.build zs ps)=oH (stepA t H (.build zs ps)) H:=rfl
@[simp] theorem stepC_lit (t:Tm) (H:Hp) (e n m:Nat) (zs:List AV) (ps:List (Nat × Nat × Od)):stepC t H (.lit e n m zs ps)=((stepA t H (.lit e n m zs ps)).isSome=true):=rfl
@[simp] theorem stepV_lit (t:Tm) (H:Hp) (e n m:Nat) (zs:List AV) (ps:List (Nat × Nat × Od)):stepV t H (.lit e n m zs ps)=oV (stepA t H (.lit e n m zs ps)):=rfl
@[simp] theorem stepH_lit (t:Tm) (H:Hp) (e n m:Nat) (zs:List AV) (ps:List (Nat × Nat × Od)):stepH t H (.lit e n m zs ps)=oH (stepA t H (.lit e n m zs ps)) H:=rfl
@[simp] theorem stepC_ld (t:Tm) (H:Hp) (x:Od):stepC t H (.ld x)=((stepA t H (.ld x)).isSome=true):=rfl
@[simp] theorem stepV_ld (t:Tm) (H:Hp) (x:Od):stepV t H (.ld x)=oV (stepA t H (.ld x)):=rfl
@[simp] theorem stepH_ld (t:Tm) (H:Hp) (x:Od):stepH t H (.ld x)=oH (stepA t H (.ld x)) H:=rfl
@[simp] theorem stepC_lda (t:Tm) (H:Hp) (n:Nat) (x:Od):stepC t H (.lda n x)=((stepA t H (.lda n x)).isSome=true):=rfl
@[simp] theorem stepV_lda (t:Tm) (H:Hp) (n:Nat) (x:Od):stepV t H (.lda n x)=oV (stepA t H (.lda n x)):=rfl
@[simp] theorem stepH_lda (t:Tm) (H:Hp) (n:Nat) (x:Od):stepH t H (.lda n x)=oH (stepA t H (.lda n x)) H:=rfl
@[simp] theorem stepC_st (t:Tm) (H:Hp) (n:Nat) (x y:Od):stepC t H (.st n x y)=((stepA t H (.st n x y)).isSome=true):=rfl
@[simp] theorem stepV_st (t:Tm) (H:Hp) (n:Nat) (x y:Od):stepV t H (.st n x y)=oV (stepA t H (.st n x y)):=rfl
@[simp] theorem stepH_st (t:Tm) (H:Hp) (n:Nat) (x y:Od):stepH t H (.st n x y)=oH (stepA t H (.st n x y)) H:=rfl
@[simp] theorem stepC_nck (t:Tm) (H:Hp) (x:Od):stepC t H (.nck x)=((stepA t H (.nck x)).isSome=true):=rfl
@[simp] theorem stepV_nck (t:Tm) (H:Hp) (x:Od):stepV t H (.nck x)=oV (stepA t H (.nck x)):=rfl
@[simp] theorem stepH_nck (t:Tm) (H:Hp) (x:Od):stepH t H (.nck x)=oH (stepA t H (.nck x)) H:=rfl
@[simp] theorem stepH_bin (t:Tm) (H:Hp) (b:BinOp) (x y:Od):stepH t H (.bin b x y)=H:=rfl
@[simp] theorem stepC_eqb (t:Tm) (H:Hp) (b:Bool) (x y:Od):stepC t H (.eqb b x y)=((stepA t H (.eqb b x y)).isSome=true):=rfl
@[simp] theorem stepV_eqb (t:Tm) (H:Hp) (b:Bool) (x y:Od):stepV t H (.eqb b x y)=oV (stepA t H (.eqb b x y)):=rfl
@[simp] theorem stepH_eqb (t:Tm) (H:Hp) (b:Bool) (x y:Od):stepH t H (.eqb b x y)=oH (stepA t H (.eqb b x y)) H:=rfl
@[simp] theorem stepC_eqn (t:Tm) (H:Hp) (n:Nat) (b:Bool) (x y:Od):stepC t H (.eqn n b x y)=((stepA t H (.eqn n b x y)).isSome=true):=rfl
@[simp] theorem stepV_eqn (t:Tm) (H:Hp) (n:Nat) (b:Bool) (x y:Od):stepV t H (.eqn n b x y)=oV (stepA t H (.eqn n b x y)):=rfl
@[simp] theorem stepH_eqn (t:Tm) (H:Hp) (n:Nat) (b:Bool) (x y:Od):stepH t H (.eqn n b x y)=oH (stepA t H (.eqn n b x y)) H:=rfl
@[simp] theorem stepC_eqs (t:Tm) (H:Hp) (b:Bool) (ks:List Nat) (x y:Od):stepC t H (.eqs b ks x y)=((stepA t H (.eqs b ks x y)).isSome=true):=rfl
@[simp] theorem stepV_eqs (t:Tm) (H:Hp) (b:Bool) (ks:List Nat) (x y:Od):stepV t H (.eqs b ks x y)=oV (stepA t H (.eqs b ks x y)):=rfl
@[simp] theorem stepH_eqs (t:Tm) (H:Hp) (b:Bool) (ks:List Nat) (x y:Od):stepH t H (.eqs b ks x y)=oH (stepA t H (.eqs b ks x y)) H:=rfl
@[simp] theorem stepH_not (t:Tm) (H:Hp) (x:Od):stepH t H (.not x)=H:=rfl
@[simp] theorem stepC_neg (t:Tm) (H:Hp) (x:Od):stepC t H (.neg x)=((stepA t H (.neg x)).isSome=true):=rfl
@[simp] theorem stepV_neg (t:Tm) (H:Hp) (x:Od):stepV t H (.neg x)=oV (stepA t H (.neg x)):=rfl
@[simp] theorem stepH_neg (t:Tm) (H:Hp) (x:Od):stepH t H (.neg x)=oH (stepA t H (.neg x)) H:=rfl
@[simp] theorem stepC_cv (t:Tm) (H:Hp) (k:IntKind) (x:Od):stepC t H (.cv k x)=((stepA t H (.cv k x)).isSome=true):=rfl
@[simp] theorem stepV_cv (t:Tm) (H:Hp) (k:IntKind) (x:Od):stepV t H (.cv k x)=oV (stepA t H (.cv k x)):=rfl
@[simp] theorem stepH_cv (t:Tm) (H:Hp) (k:IntKind) (x:Od):stepH t H (.cv k x)=oH (stepA t H (.cv k x)) H:=rfl
@[simp] theorem stepC_mk (t:Tm) (H:Hp) (e n m:Nat) (zs:List AV) (x:Od):stepC t H (.mk e n m zs x)=((stepA t H (.mk e n m zs x)).isSome=true):=rfl
@[simp] theorem stepV_mk (t:Tm) (H:Hp) (e n m:Nat) (zs:List AV) (x:Od):stepV t H (.mk e n m zs x)=oV (stepA t H (.mk e n m zs x)):=rfl
@[simp] theorem stepH_mk (t:Tm) (H:Hp) (e n m:Nat) (zs:List AV) (x:Od):stepH t H (.mk e n m zs x)=oH (stepA t H (.mk e n m zs x)) H:=rfl
@[simp] theorem stepC_cut (t:Tm) (H:Hp) (n:Nat) (x:Od) (y z:Option Od):stepC t H (.cut n x y z)=((stepA t H (.cut n x y z)).isSome=true):=rfl
@[simp] theorem stepV_cut (t:Tm) (H:Hp) (n:Nat) (x:Od) (y z:Option Od):stepV t H (.cut n x y z)=oV (stepA t H (.cut n x y z)):=rfl
@[simp] theorem stepH_cut (t:Tm) (H:Hp) (n:Nat) (x:Od) (y z:Option Od):stepH t H (.cut n x y z)=oH (stepA t H (.cut n x y z)) H:=rfl
@[simp] theorem stepH_fa (t:Tm) (H:Hp) (n:Nat) (x:Od):stepH t H (.fa n x)=H:=rfl
@[simp] theorem stepC_fd (t:Tm) (H:Hp) (n m:Nat) (x:Od):stepC t H (.fd n m x)=((stepA t H (.fd n m x)).isSome=true):=rfl
@[simp] theorem stepV_fd (t:Tm) (H:Hp) (n m:Nat) (x:Od):stepV t H (.fd n m x)=oV (stepA t H (.fd n m x)):=rfl
@[simp] theorem stepH_fd (t:Tm) (H:Hp) (n m:Nat) (x:Od):stepH t H (.fd n m x)=oH (stepA t H (.fd n m x)) H:=rfl
@[simp] theorem stepH_ix (t:Tm) (H:Hp) (x y:Od):stepH t H (.ix x y)=H:=rfl
@[simp] theorem stepH_ext (t:Tm) (H:Hp) (n:Nat) (x:Od):stepH t H (.ext n x)=H:=rfl
@[simp] theorem stepH_len (t:Tm) (H:Hp) (x:Od):stepH t H (.len x)=H:=rfl
@[simp] theorem stepH_lns (t:Tm) (H:Hp) (x:Od):stepH t H (.lns x)=H:=rfl
@[simp] theorem stepC_mx (t:Tm) (H:Hp) (x y:Od):stepC t H (.mx x y)=((stepA t H (.mx x y)).isSome=true):=rfl
@[simp] theorem stepV_mx (t:Tm) (H:Hp) (x y:Od):stepV t H (.mx x y)=oV (stepA t H (.mx x y)):=rfl
@[simp] theorem stepH_mx (t:Tm) (H:Hp) (x y:Od):stepH t H (.mx x y)=oH (stepA t H (.mx x y)) H:=rfl
@[simp] theorem stepC_mn (t:Tm) (H:Hp) (x y:Od):stepC t H (.mn x y)=((stepA t H (.mn x y)).isSome=true):=rfl
@[simp] theorem stepV_mn (t:Tm) (H:Hp) (x y:Od):stepV t H (.mn x y)=oV (stepA t H (.mn x y)):=rfl
@[simp] theorem stepH_mn (t:Tm) (H:Hp) (x y:Od):stepH t H (.mn x y)=oH (stepA t H (.mn x y)) H:=rfl
@[simp] theorem stepH_fn (t:Tm) (H:Hp) (n:Nat) (xs:List Od):stepH t H (.fn n xs)=H:=rfl
@[simp] theorem stepC_app (t:Tm) (H:Hp) (e n m:Nat) (x y:Od):stepC t H (.app e n m x y)=((stepA t H (.app e n m x y)).isSome=true):=rfl
@[simp] theorem stepV_app (t:Tm) (H:Hp) (e n m:Nat) (x y:Od):stepV t H (.app e n m x y)=oV (stepA t H (.app e n m x y)):=rfl
@[simp] theorem stepH_app (t:Tm) (H:Hp) (e n m:Nat) (x y:Od):stepH t H (.app e n m x y)=oH (stepA t H (.app e n m x y)) H:=rfl
@[simp] theorem stepH_alloc (t:Tm) (H:Hp) (e:Nat) (zs:List AV):stepH t H (.alloc e zs)=H++[some ⟨[zs],zs.length,e,false⟩]:=rfl
@[simp] theorem stepV_mv (t:Tm) (H:Hp) (x:Od):stepV t H (.mv x)=x.ev t:=rfl
@[simp] theorem stepC_mv (t:Tm) (H:Hp) (x:Od):stepC t H (.mv x)=True:=rfl
@[simp] theorem stepV_alloc (t:Tm) (H:Hp) (e:Nat) (zs:List AV):stepV t H (.alloc e zs)=.pt H.length 0 0:=rfl
@[simp] theorem stepC_alloc (t:Tm) (H:Hp) (e:Nat) (zs:List AV):stepC t H (.alloc e zs)=True:=rfl
@[simp] theorem stepV_fn (t:Tm) (H:Hp) (n:Nat) (xs:List Od):stepV t H (.fn n xs)=.fn n (xs.map (·.ev t)):=rfl
@[simp] theorem stepC_fn (t:Tm) (H:Hp) (n:Nat) (xs:List Od):stepC t H (.fn n xs)=True:=rfl
@[simp] theorem stepV_bin (t:Tm) (H:Hp) (b:BinOp) (x y:Od):stepV t H (.bin b x y)=binV b (x.ev t) (y.ev t):=rfl
@[simp] theorem stepC_bin (t:Tm) (H:Hp) (b:BinOp) (x y:Od):stepC t H (.bin b x y)=binC b (x.ev t) (y.ev t):=rfl
@[simp] theorem R_mv (C:CallP) (t:Tm) (H:Hp) (K:Tm->Hp->Prop) (d:Option Nat) (pl:Plan) (x:Od):RgP C (.st d (.mv x) none [] pl) t H K=(stepC t H (.mv x)/\RgP C pl (updO t d (stepV t H (.mv x))) (stepH t H (.mv x)) K):=RgP_op C t H K rfl d pl
@[simp] theorem R_pick (C:CallP) (t:Tm) (H:Hp) (K:Tm->Hp->Prop) (d:Option Nat) (pl:Plan) (x y z:Od):RgP C (.st d (.pick x y z) none [] pl) t H K=(stepC t H (.pick x y z)/\RgP C pl (updO t d (stepV t H (.pick x y z))) (stepH t H (.pick x y z)) K):=RgP_op C t H K rfl d pl
@[simp] theorem R_alloc (C:CallP) (t:Tm) (H:Hp) (K:Tm->Hp->Prop) (d:Option Nat) (pl:Plan) (e:Nat) (zs:List AV):RgP C (.st d (.alloc e zs) none [] pl) t H K=(stepC t H (.alloc e zs)/\RgP C pl (updO t d (stepV t H (.alloc e zs))) (stepH t H (.alloc e zs)) K):=RgP_op C t H K rfl d pl
@[simp] theorem RA_alloc (C:CallP) (t:Tm) (H:Hp) (K:Tm->Hp->Prop) (d:Option Nat) (pl:Plan) (q) (ag) (e:Nat) (zs:List AV):RgP C (.st d (.alloc e zs) none (q :: ag) pl) t H K=(stepC t H (.alloc e zs)/\againG (q :: ag) (updO t d (stepV t H (.alloc e zs))) (stepH t H (.alloc e zs))/\RgP C pl (updO t d (stepV t H (.alloc e zs))) (stepH t H (.alloc e zs)) K):=RgP_ag C t H K rfl d q ag pl
@[simp] theorem R_box (C:CallP) (t:Tm) (H:Hp) (K:Tm->Hp->Prop) (d:Option Nat) (pl:Plan) (e n:Nat) (x:Od):RgP C (.st d (.box e n x) none [] pl) t H K=(stepC t H (.box e n x)/\RgP C pl (updO t d (stepV t H (.box e n x))) (stepH t H (.box e n x)) K):=RgP_op C t H K rfl d pl
@[simp] theorem R_build (C:CallP) (t:Tm) (H:Hp) (K:Tm->Hp->Prop) (d:Option Nat) (pl:Plan) (zs:List AV) (ps:List (Nat × Nat × Od)):RgP C (.st d (.build zs ps) none [] pl) t H K=(stepC t H (.build zs ps)/\RgP C pl (updO t d (stepV t H (.build zs ps))) (stepH t H (.build zs ps)) K):=RgP_op C t H K rfl d pl
@[simp] theorem R_lit (C:CallP) (t:Tm) (H:Hp) (K:Tm->Hp->Prop) (d:Option Nat) (pl:Plan) (e n m:Nat) (zs:List AV) (ps:List (Nat × Nat × Od)):RgP C (.st d (.lit e n m zs ps) none [] pl) t H K=(stepC t H (.lit e n m zs ps)/\RgP C pl (updO t d (stepV t H (.lit e n m zs ps))) (stepH t H (.lit e n m zs ps)) K):=RgP_op C t H K rfl d pl
@[simp] theorem RA_lit (C:CallP) (t:Tm) (H:Hp) (K:Tm->Hp->Prop) (d:Option Nat) (pl:Plan) (q) (ag) (e n m:Nat) (zs:List AV) (ps:List (Nat × Nat × Od)):RgP C (.st d (.lit e n m zs ps) none (q :: ag) pl) t H K=(stepC t H (.lit e n m zs ps)/\againG (q :: ag) (updO t d (stepV t H (.lit e n m zs ps))) (stepH t H (.lit e n m zs ps))/\RgP C pl (updO t d (stepV t H (.lit e n m zs ps))) (stepH t H (.lit e n m zs ps)) K):=RgP_ag C t H K rfl d q ag pl
@[simp] theorem R_ld (C:CallP) (t:Tm) (H:Hp) (K:Tm->Hp->Prop) (d:Option Nat) (pl:Plan) (x:Od):RgP C (.st d (.ld x) none [] pl) t H K=(stepC t H (.ld x)/\RgP C pl (updO t d (stepV t H (.ld x))) (stepH t H (.ld x)) K):=RgP_op C t H K rfl d pl
@[simp] theorem R_lda (C:CallP) (t:Tm) (H:Hp) (K:Tm->Hp->Prop) (d:Option Nat) (pl:Plan) (n:Nat) (x:Od):RgP C (.st d (.lda n x) none [] pl) t H K=(stepC t H (.lda n x)/\RgP C pl (updO t d (stepV t H (.lda n x))) (stepH t H (.lda n x)) K):=RgP_op C t H K rfl d pl
@[simp] theorem R_st (C:CallP) (t:Tm) (H:Hp) (K:Tm->Hp->Prop) (d:Option Nat) (pl:Plan) (n:Nat) (x y:Od):RgP C (.st d (.st n x y) none [] pl) t H K=(stepC t H (.st n x y)/\RgP C pl (updO t d (stepV t H (.st n x y))) (stepH t H (.st n x y)) K):=RgP_op C t H K rfl d pl
@[simp] theorem RA_st (C:CallP) (t:Tm) (H:Hp) (K:Tm->Hp->Prop) (d:Option Nat) (pl:Plan) (q) (ag) (n:Nat) (x y:Od):RgP C (.st d (.st n x y) none (q :: ag) pl) t H K=(stepC t H (.st n x y)/\againG (q :: ag) (updO t d (stepV t H (.st n x y))) (stepH t H (.st n x y))/\RgP C pl (updO t d (stepV t H (.st n x y))) (stepH t H (.st n x y)) K):=RgP_ag C t H K rfl d q ag pl
@[simp] theorem R_nck (C:CallP) (t:Tm) (H:Hp) (K:Tm->Hp->Prop) (d:Option Nat) (pl:Plan) (x:Od):RgP C (.st d (.nck x) none [] pl) t H K=(stepC t H (.nck x)/\RgP C pl (updO t d (stepV t H (.nck x))) (stepH t H (.nck x)) K):=RgP_op C t H K rfl d pl
@[simp] theorem R_bin (C:CallP) (t:Tm) (H:Hp) (K:Tm->Hp->Prop) (d:Option Nat) (pl:Plan) (b:BinOp) (x y:Od):RgP C (.st d (.bin b x y) none [] pl) t H K=(stepC t H (.bin b x y)/\RgP C pl (updO t d (stepV t H (.bin b x y))) (stepH t H (.bin b x y)) K):=RgP_op C t H K rfl d pl
@[simp] theorem R_eqs (C:CallP) (t:Tm) (H:Hp) (K:Tm->Hp->Prop) (d:Option Nat) (pl:Plan) (b:Bool) (ks:List Nat) (x y:Od):RgP C (.st d (.eqs b ks x y) none [] pl) t H K=(stepC t H (.eqs b ks x y)/\RgP C pl (updO t d (stepV t H (.eqs b ks x y))) (stepH t H (.eqs b ks x y)) K):=RgP_op C t H K rfl d pl
@[simp] theorem R_not (C:CallP) (t:Tm) (H:Hp) (K:Tm->Hp->Prop) (d:Option Nat) (pl:Plan) (x:Od):RgP C (.st d (.not x) none [] pl) t H K=(stepC t H (.not x)/\RgP C pl (updO t d (stepV t H (.not x))) (stepH t H (.not x)) K):=RgP_op C t H K rfl d pl
@[simp] theorem R_cv (C:CallP) (t:Tm) (H:Hp) (K:Tm->Hp->Prop) (d:Option Nat) (pl:Plan) (k:IntKind) (x:Od):RgP C (.st d (.cv k x) none [] pl) t H K=(stepC t H (.cv k x)/\RgP C pl (updO t d (stepV t H (.cv k x))) (stepH t H (.cv k x)) K):=RgP_op C t H K rfl d pl
@[simp] theorem R_cuts (C:CallP) (t:Tm) (H:Hp) (K:Tm->Hp->Prop) (d:Option Nat) (pl:Plan) (x:Od) (y z:Option Od):RgP C (.st d (.cuts x y z) none [] pl) t H K=(stepC t H (.cuts x y z)/\RgP C pl (updO t d (stepV t H (.cuts x y z))) (stepH t H (.cuts x y z)) K):=RgP_op C t H K rfl d pl
@[simp] theorem R_fa (C:CallP) (t:Tm) (H:Hp) (K:Tm->Hp->Prop) (d:Option Nat) (pl:Plan) (n:Nat) (x:Od):RgP C (.st d (.fa n x) none [] pl) t H K=(stepC t H (.fa n x)/\RgP C pl (updO t d (stepV t H (.fa n x))) (stepH t H (.fa n x)) K):=RgP_op C t H K rfl d pl
@[simp] theorem R_ia (C:CallP) (t:Tm) (H:Hp) (K:Tm->Hp->Prop) (d:Option Nat) (pl:Plan) (n:Nat) (x y:Od):RgP C (.st d (.ia n x y) none [] pl) t H K=(stepC t H (.ia n x y)/\RgP C pl (updO t d (stepV t H (.ia n x y))) (stepH t H (.ia n x y)) K):=RgP_op C t H K rfl d pl
@[simp] theorem R_ix (C:CallP) (t:Tm) (H:Hp) (K:Tm->Hp->Prop) (d:Option Nat) (pl:Plan) (x y:Od):RgP C (.st d (.ix x y) none [] pl) t H K=(stepC t H (.ix x y)/\RgP C pl (updO t d (stepV t H (.ix x y))) (stepH t H (.ix x y)) K):=RgP_op C t H K rfl d pl
@[simp] theorem R_ext (C:CallP) (t:Tm) (H:Hp) (K:Tm->Hp->Prop) (d:Option Nat) (pl:Plan) (n:Nat) (x:Od):RgP C (.st d (.ext n x) none [] pl) t H K=(stepC t H (.ext n x)/\RgP C pl (updO t d (stepV t H (.ext n x))) (stepH t H (.ext n x)) K):=RgP_op C t H K rfl d pl
@[simp] theorem R_len (C:CallP) (t:Tm) (H:Hp) (K:Tm->Hp->Prop) (d:Option Nat) (pl:Plan) (x:Od):RgP C (.st d (.len x) none [] pl) t H K=(stepC t H (.len x)/\RgP C pl (updO t d (stepV t H (.len x))) (stepH t H (.len x)) K):=RgP_op C t H K rfl d pl
@[simp] theorem R_lns (C:CallP) (t:Tm) (H:Hp) (K:Tm->Hp->Prop) (d:Option Nat) (pl:Plan) (x:Od):RgP C (.st d (.lns x) none [] pl) t H K=(stepC t H (.lns x)/\RgP C pl (updO t d (stepV t H (.lns x))) (stepH t H (.lns x)) K):=RgP_op C t H K rfl d pl
@[simp] theorem R_mn (C:CallP) (t:Tm) (H:Hp) (K:Tm->Hp->Prop) (d:Option Nat) (pl:Plan) (x y:Od):RgP C (.st d (.mn x y) none [] pl) t H K=(stepC t H (.mn x y)/\RgP C pl (updO t d (stepV t H (.mn x y))) (stepH t H (.mn x y)) K):=RgP_op C t H K rfl d pl
@[simp] theorem R_fn (C:CallP) (t:Tm) (H:Hp) (K:Tm->Hp->Prop) (d:Option Nat) (pl:Plan) (n:Nat) (xs:List Od):RgP C (.st d (.fn n xs) none [] pl) t H K=(stepC t H (.fn n xs)/\RgP C pl (updO t d (stepV t H (.fn n xs))) (stepH t H (.fn n xs)) K):=RgP_op C t H K rfl d pl
@[simp] theorem stepC_cap (t:Tm) (H:Hp) (x:Od):stepC t H (.cap x)=((stepA t H (.cap x)).isSome=true):=rfl
@[simp] theorem stepV_cap (t:Tm) (H:Hp) (x:Od):stepV t H (.cap x)=oV (stepA t H (.cap x)):=rfl
@[simp] theorem stepH_cap (t:Tm) (H:Hp) (x:Od):stepH t H (.cap x)=oH (stepA t H (.cap x)) H:=rfl
@[simp] theorem R_cap (C:CallP) (t:Tm) (H:Hp) (K:Tm->Hp->Prop) (d:Option Nat) (pl:Plan) (x:Od):RgP C (.st d (.cap x) none [] pl) t H K=(stepC t H (.cap x)/\RgP C pl (updO t d (stepV t H (.cap x))) (stepH t H (.cap x)) K):=RgP_op C t H K rfl d pl
@[simp] theorem stepC_clr (t:Tm) (H:Hp) (z:AV) (x:Od):stepC t H (.clr z x)=((stepA t H (.clr z x)).isSome=true):=rfl
@[simp] theorem stepV_clr (t:Tm) (H:Hp) (z:AV) (x:Od):stepV t H (.clr z x)=oV (stepA t H (.clr z x)):=rfl
@[simp] theorem stepH_clr (t:Tm) (H:Hp) (z:AV) (x:Od):stepH t H (.clr z x)=oH (stepA t H (.clr z x)) H:=rfl
@[simp] theorem R_clr (C:CallP) (t:Tm) (H:Hp) (K:Tm->Hp->Prop) (d:Option Nat) (pl:Plan) (z:AV) (x:Od):RgP C (.st d (.clr z x) none [] pl) t H K=(stepC t H (.clr z x)/\RgP C pl (updO t d (stepV t H (.clr z x))) (stepH t H (.clr z x)) K):=RgP_op C t H K rfl d pl
@[simp] theorem stepC_appz (t:Tm) (H:Hp) (e n m:Nat) (zs:List AV) (x y:Od):stepC t H (.appz e n m zs x y)=((stepA t H (.appz e n m zs x y)).isSome=true):=rfl
@[simp] theorem stepV_appz (t:Tm) (H:Hp) (e n m:Nat) (zs:List AV) (x y:Od):stepV t H (.appz e n m zs x y)=oV (stepA t H (.appz e n m zs x y)):=rfl
@[simp] theorem stepH_appz (t:Tm) (H:Hp) (e n m:Nat) (zs:List AV) (x y:Od):stepH t H (.appz e n m zs x y)=oH (stepA t H (.appz e n m zs x y)) H:=rfl
@[simp] theorem R_appz (C:CallP) (t:Tm) (H:Hp) (K:Tm->Hp->Prop) (d:Option Nat) (pl:Plan) (e n m:Nat) (zs:List AV) (x y:Od):RgP C (.st d (.appz e n m zs x y) none [] pl) t H K=(stepC t H (.appz e n m zs x y)/\RgP C pl (updO t d (stepV t H (.appz e n m zs x y))) (stepH t H (.appz e n m zs x y)) K):=RgP_op C t H K rfl d pl
@[simp] theorem stepC_bad (t:Tm) (H:Hp):stepC t H (.bad)=((stepA t H (.bad)).isSome=true):=rfl
@[simp] theorem stepV_bad (t:Tm) (H:Hp):stepV t H (.bad)=oV (stepA t H (.bad)):=rfl
@[simp] theorem stepH_bad (t:Tm) (H:Hp):stepH t H (.bad)=oH (stepA t H (.bad)) H:=rfl
@[simp] theorem stepA_bad (t:Tm) (H:Hp):stepA t H .bad=none:=rfl
@[simp] theorem stepA_cap (t:Tm) (H:Hp) (x:Od):stepA t H (.cap x)=(match x.ev t with
  | .nils=>some (.int .i64 0,H)
  | _=>none):=rfl
@[simp] theorem stepA_clr (t:Tm) (H:Hp) (z:AV) (x:Od):stepA t H (.clr z x)=(match x.ev t with
  | .nils=>some (.tu [],H)
  | .sz=>some (.tu [],H)
  | .sl o i n=>(H.at o).bind fun ob=>if ob.ro=false/\ob.esz=1/\i+n<=ob.rows.length/\one z=true then some (.tu [],H.set o (some { ob with rows:=clrR ob.rows i n z })) else none
  | _=>none):=rfl
@[simp] theorem stepA_appz (t:Tm) (H:Hp) (ety esz bytes:Nat) (zs:List AV) (x y:Od):stepA t H (.appz ety esz bytes zs x y)=(match x.ev t,y.ev t with
  | .nils,.int .i64 n=>if 0<n/\n * bytes<=140737488355328 then some (.sl H.length 0 n.toNat,H++[some ⟨List.replicate n.toNat zs,esz,ety,false⟩]) else none
  | _,_=>none):=rfl
@[simp] theorem stepA_box (t:Tm) (H:Hp) (ety:Nat) (esz:Nat) (x:Od):stepA t H (.box ety esz x)=(if (x.ev t).cells.length=esz/\cells1 (x.ev t)=true then some (.pt H.length 0 0,H++[some ⟨[(x.ev t).cells],esz,ety,false⟩]) else none):=rfl
@[simp] theorem stepA_build (t:Tm) (H:Hp) (zs:List AV) (ps:List (Nat × Nat × Od)):stepA t H (.build zs ps)=((fillA t zs ps).map fun cs=>(.ag cs,H)):=rfl
@[simp] theorem stepA_lit (t:Tm) (H:Hp) (ety:Nat) (esz:Nat) (n:Nat) (zs:List AV) (ps:List (Nat × Nat × Od)):stepA t H (.lit ety esz n zs ps)=((fillA t zs ps).map fun cs=>(.sl H.length 0 n,H++[some ⟨chunk esz n cs,esz,ety,false⟩])):=rfl
@[simp] theorem stepA_ld (t:Tm) (H:Hp) (x:Od):stepA t H (.ld x)=(match x.ev t with
   | .pt o i f=>(H.at o).bind fun ob=>(ob.rows[i]?).bind fun r=>(r[f]?).map fun v=>(v,H)
   | _=>none):=rfl
@[simp] theorem stepA_lda (t:Tm) (H:Hp) (n:Nat) (x:Od):stepA t H (.lda n x)=(match x.ev t with
   | .pt o i f=>(H.at o).bind fun ob=>(ob.rows[i]?).bind fun r=>if f+n<=r.length then some (.ag ((r.drop f).take n),H) else none
   | _=>none):=rfl
@[simp] theorem stepA_st (t:Tm) (H:Hp) (n:Nat) (x:Od) (y:Od):stepA t H (.st n x y)=(match x.ev t with
   | .pt o i f=>(H.at o).bind fun ob=>(ob.rows[i]?).bind fun r =>
     if ob.ro=false/\(y.ev t).cells.length=n/\f+n<=r.length/\cells1 (y.ev t)=true then some (.un,H.set o (some { ob with rows:=ob.rows.set i (putAt r f (y.ev t).cells) })) else none
   | _=>none):=rfl
@[simp] theorem stepA_nck (t:Tm) (H:Hp) (x:Od):stepA t H (.nck x)=(match x.ev t with
   | .pt o i f=>some (.pt o i f,H)
   | .fn f cs=>some (.fn f cs,H)
   | _=>none):=rfl
@[simp] theorem stepA_eqb (t:Tm) (H:Hp) (ne:Bool) (x:Od) (y:Od):stepA t H (.eqb ne x y)=(match x.ev t,y.ev t with
   | .bool p,.bool q=>some (.bool ((p==q) != ne),H)
   | _,_=>none):=rfl
@[simp] theorem stepA_eqn (t:Tm) (H:Hp) (k:Nat) (ne:Bool) (x:Od) (y:Od):stepA t H (.eqn k ne x y)=((eqnA k (x.ev t) (y.ev t)).map fun r=>(.bool (r != ne),H)):=rfl
@[simp] theorem stepA_eqs (t:Tm) (H:Hp) (ne:Bool) (ks:List Nat) (x:Od) (y:Od):stepA t H (.eqs ne ks x y)=(match x.ev t,y.ev t with
   | .ag p,.ag q=>(eqcs ks p q).map fun r=>(.bool (r != ne),H)
   | _,_=>none):=rfl
@[simp] theorem stepA_neg (t:Tm) (H:Hp) (x:Od):stepA t H (.neg x)=(match x.ev t with
   | .int k n=>some (.int k (k.wrap (0-n)),H)
   | _=>none):=rfl
@[simp] theorem stepA_cv (t:Tm) (H:Hp) (k:IntKind) (x:Od):stepA t H (.cv k x)=(match x.ev t with
   | .int _ n=>some (.int k (k.wrap n),H)
   | _=>none):=rfl
@[simp] theorem stepA_mk (t:Tm) (H:Hp) (ety:Nat) (esz:Nat) (bytes:Nat) (zs:List AV) (x:Od):stepA t H (.mk ety esz bytes zs x)=(match x.ev t with
   | .int .i64 n=>if 0<=n/\n * bytes<=140737488355328 then some (.sl H.length 0 n.toNat,H++[some ⟨List.replicate n.toNat zs,esz,ety,false⟩]) else none
   | _=>none):=rfl
@[simp] theorem stepA_cut (t:Tm) (H:Hp) (esz:Nat) (x:Od) (lo:Option Od) (hi:Option Od):stepA t H (.cut esz x lo hi)=(match x.ev t with
   | .sl o i n=>(H.at o).bind fun ob=>if ob.esz=esz then (optI t 0 lo).bind fun l=>(optI t n hi).bind fun h =>
     if 0<=l/\l<=h/\h<=n then some (.sl o (i+l.toNat) (h.toNat-l.toNat),H) else none else none
   | .nils=>(optI t 0 lo).bind fun l=>(optI t 0 hi).bind fun h=>if l=0/\h=0 then some (.nils,H) else none
   | .sz=>(optI t 0 lo).bind fun l=>(optI t 0 hi).bind fun h=>if l=0/\h=0 then some (.sz,H) else none
   | _=>none):=rfl
@[simp] theorem stepA_cuts (t:Tm) (H:Hp) (x:Od) (lo:Option Od) (hi:Option Od):stepA t H (.cuts x lo hi)=(match x.ev t with
   | .str s=>(optI t 0 lo).bind fun l=>(optI t s.size hi).bind fun h=>if 0<=l/\l<=h/\h<=s.size then some (.str (s.extract l.toNat h.toNat),H) else none
   | _=>none):=rfl
@[simp] theorem stepA_fd (t:Tm) (H:Hp) (off:Nat) (n:Nat) (x:Od):stepA t H (.fd off n x)=(match x.ev t with
   | .ag cs=>if n=0 then (cs[off]?).map (·,H) else some (.ag ((cs.drop off).take n),H)
   | _=>none):=rfl
@[simp] theorem stepA_ia (t:Tm) (H:Hp) (esz:Nat) (x:Od) (y:Od):stepA t H (.ia esz x y)=(match x.ev t,y.ev t with
   | .sl o i n,.int _ j=>(H.at o).bind fun ob=>if ob.esz=esz/\0<=j/\j<n then some (.pt o (i+j.toNat) 0,H) else none
   | _,_=>none):=rfl
@[simp] theorem stepA_mx (t:Tm) (H:Hp) (x:Od) (y:Od):stepA t H (.mx x y)=(match x.ev t,y.ev t with
   | .int k a,.int _ b=>some (.int k (if b > a then b else a),H)
   | _,_=>none):=rfl
@[simp] theorem stepA_mn (t:Tm) (H:Hp) (x:Od) (y:Od):stepA t H (.mn x y)=(match x.ev t,y.ev t with
   | .int k a,.int _ b=>some (.int k (if b<a then b else a),H)
   | _,_=>none):=rfl
@[simp] theorem stepA_app (t:Tm) (H:Hp) (ety:Nat) (esz:Nat) (bytes:Nat) (x:Od) (y:Od):stepA t H (.app ety esz bytes x y)=(match y.ev t with
   | .nils=>match x.ev t with
    | .nils=>some (.nils,H)
    | .sz=>some (.sz,H)
    | .sl o i n=>some (.sl o i n,H)
    | _=>none
   | .sz=>match x.ev t with
    | .nils=>some (.nils,H)
    | .sz=>some (.sz,H)
    | .sl o i n=>some (.sl o i n,H)
    | _=>none
   | .sl o2 i2 m=>(H.at o2).bind fun ob2=>if ob2.esz=esz/\m * bytes<=140737488355328/\i2+m<=ob2.rows.length then match x.ev t with
    | .nils=>some (if m=0 then (.nils,H) else (.sl H.length 0 m,H++[some ⟨(ob2.rows.drop i2).take m,esz,ety,false⟩]))
    | .sz=>some (if m=0 then (.sz,H) else (.sl H.length 0 m,H++[some ⟨(ob2.rows.drop i2).take m,esz,ety,false⟩]))
    | .sl o 0 n=>(H.at o).bind fun ob =>
     if ob.ro=false/\ob.esz=esz/\ob.ety=ety/\(n+m) * bytes<=140737488355328/\n<=ob.rows.length then
      some (.sl H.length 0 (n+m),(H.set o none)++[some ⟨ob.rows.take n++(ob2.rows.drop i2).take m,esz,ety,false⟩]) else none
    | _=>none else none
   | _=>none):=rfl
@[simp] theorem stepA_cvs (t:Tm) (H:Hp) (x:Od):stepA t H (.cvs x)=(match x.ev t with
   | .sl o i n=>(H.at o).bind fun ob=>if ob.esz=1/\i+n<=ob.rows.length then (u8s ((ob.rows.drop i).take n)).map fun ns=>(.str (strOf ns),H) else none
   | _=>none):=rfl
@[simp] theorem stepC_cvs (t:Tm) (H:Hp) (x:Od):stepC t H (.cvs x)=((stepA t H (.cvs x)).isSome=true):=rfl
@[simp] theorem stepV_cvs (t:Tm) (H:Hp) (x:Od):stepV t H (.cvs x)=oV (stepA t H (.cvs x)):=rfl
@[simp] theorem stepH_cvs (t:Tm) (H:Hp) (x:Od):stepH t H (.cvs x)=oH (stepA t H (.cvs x)) H:=rfl
attribute [simp] u8s
attribute [simp] againG_nil againG_cons pend1_n optI intA RgP_g RgP_call W_cond
attribute [simp] Od.ev updO resA rvA rvsA endX AV.plain AV.plains eqcs eqc eqnA fillA putAt chunk oV oH
@[simp] theorem cells_int (k:IntKind) (n:Int):AV.cells (.int k n)=[.int k n]:=rfl
@[simp] theorem cells1_int (k:IntKind) (n:Int):cells1 (.int k n)=true:=rfl
@[simp] theorem one_int (k:IntKind) (n:Int):one (.int k n)=true:=rfl
@[simp] theorem cells_bool (b:Bool):AV.cells (.bool b)=[.bool b]:=rfl
@[simp] theorem cells1_bool (b:Bool):cells1 (.bool b)=true:=rfl
@[simp] theorem one_bool (b:Bool):one (.bool b)=true:=rfl
@[simp] theorem cells_str (s:ByteArray):AV.cells (.str s)=[.str s]:=rfl
@[simp] theorem cells1_str (s:ByteArray):cells1 (.str s)=true:=rfl
@[simp] theorem one_str (s:ByteArray):one (.str s)=true:=rfl
@[simp] theorem cells_nilp:AV.cells (.nilp)=[.nilp]:=rfl
@[simp] theorem cells1_nilp:cells1 (.nilp)=true:=rfl
@[simp] theorem one_nilp:one (.nilp)=true:=rfl
@[simp] theorem cells_nils:AV.cells (.nils)=[.nils]:=rfl
@[simp] theorem cells1_nils:cells1 (.nils)=true:=rfl
@[simp] theorem one_nils:one (.nils)=true:=rfl
@[simp] theorem cells_sz:AV.cells (.sz)=[.sz]:=rfl
@[simp] theorem cells1_sz:cells1 (.sz)=true:=rfl
@[simp] theorem one_sz:one (.sz)=true:=rfl
@[simp] theorem cells_nilf:AV.cells (.nilf)=[.nilf]:=rfl
@[simp] theorem cells1_nilf:cells1 (.nilf)=true:=rfl
@[simp] theorem one_nilf:one (.nilf)=true:=rfl
@[simp] theorem cells_nili:AV.cells (.nili)=[.nili]:=rfl
@[simp] theorem cells1_nili:cells1 (.nili)=true:=rfl
@[simp] theorem one_nili:one (.nili)=true:=rfl
@[simp] theorem cells_un:AV.cells (.un)=[.un]:=rfl
@[simp] theorem cells1_un:cells1 (.un)=false:=rfl
@[simp] theorem one_un:one (.un)=false:=rfl
@[simp] theorem cells_any:AV.cells (.any)=[.any]:=rfl
@[simp] theorem cells1_any:cells1 (.any)=false:=rfl
@[simp] theorem one_any:one (.any)=false:=rfl
@[simp] theorem cells_sl (o i n:Nat):AV.cells (.sl o i n)=[.sl o i n]:=rfl
@[simp] theorem cells1_sl (o i n:Nat):cells1 (.sl o i n)=true:=rfl
@[simp] theorem one_sl (o i n:Nat):one (.sl o i n)=true:=rfl
@[simp] theorem cells_pt (o i f:Nat):AV.cells (.pt o i f)=[.pt o i f]:=rfl
@[simp] theorem cells1_pt (o i f:Nat):cells1 (.pt o i f)=true:=rfl
@[simp] theorem one_pt (o i f:Nat):one (.pt o i f)=true:=rfl
@[simp] theorem cells_tu (vs:List AV):AV.cells (.tu vs)=[.tu vs]:=rfl
@[simp] theorem cells1_tu (vs:List AV):cells1 (.tu vs)=false:=rfl
@[simp] theorem one_tu (vs:List AV):one (.tu vs)=false:=rfl
@[simp] theorem cells_fn (f:Nat) (vs:List AV):AV.cells (.fn f vs)=[.fn f vs]:=rfl
@[simp] theorem cells1_fn (f:Nat) (vs:List AV):cells1 (.fn f vs)=true:=rfl
@[simp] theorem one_fn (f:Nat) (vs:List AV):one (.fn f vs)=true:=rfl
@[simp] theorem cells_er (c:Nat):AV.cells (.er c)=[.er c]:=rfl
@[simp] theorem cells1_er (c:Nat):cells1 (.er c)=true:=rfl
@[simp] theorem one_er (c:Nat):one (.er c)=true:=rfl
@[simp] theorem cells_ag (cs:List AV):AV.cells (.ag cs)=cs:=rfl
@[simp] theorem cells1_ag (cs:List AV):cells1 (.ag cs)=cs.all one:=rfl
@[simp] theorem one_ag (cs:List AV):one (.ag cs)=false:=rfl
@[simp] theorem thenX_n (K:Tm->Hp->Prop) (Q:Ex->Tm->Hp->Prop) (t:Tm) (H:Hp):thenX K Q .normal t H=K t H:=rfl
@[simp] theorem thenX_e (K:Tm->Hp->Prop) (Q:Ex->Tm->Hp->Prop) (id:Nat) (t:Tm) (H:Hp):thenX K Q (.exit id) t H=Q (.exit id) t H:=rfl
@[simp] theorem thenX_r (K:Tm->Hp->Prop) (Q:Ex->Tm->Hp->Prop) (t:Tm) (H:Hp):thenX K Q .ret t H=Q .ret t H:=rfl
@[simp] theorem inB_n (id:Nat) (Q:Ex->Tm->Hp->Prop) (t:Tm) (H:Hp):inB id Q .normal t H=Q .normal t H:=rfl
@[simp] theorem inB_e (id id':Nat) (Q:Ex->Tm->Hp->Prop) (t:Tm) (H:Hp):inB id Q (.exit id') t H=if id'=id then Q .normal t H else Q (.exit id') t H:=rfl
@[simp] theorem inB_r (id:Nat) (Q:Ex->Tm->Hp->Prop) (t:Tm) (H:Hp):inB id Q .ret t H=Q .ret t H:=rfl
@[simp] theorem upd_app (t:Tm) (d:Nat) (v:AV) (x:Nat):upd t d v x=if x=d then v else t x:=rfl
@[simp] theorem initT_app (args:List AV) (x:Nat):initT args x=args.getD x .un:=rfl
attribute [simp] Hp.at_app_0 Hp.at_app_ge Hp.at_0 Hp.at_s Hp.set_app Hp.set_app_0 HLe.refl HLe.self List.append_assoc List.getD_cons_zero List.getD_cons_succ
section
variable {t:Tm} {H:Hp} {x y z:Od}
@[simp] theorem stepC_ix (t:Tm) (H:Hp) (x y:Od):stepC t H (.ix x y)=ixC (x.ev t) (y.ev t):=rfl
@[simp] theorem stepV_ix (t:Tm) (H:Hp) (x y:Od):stepV t H (.ix x y)=ixV (x.ev t) (y.ev t):=rfl
@[simp] theorem stepC_pick (t:Tm) (H:Hp) (x y z:Od):stepC t H (.pick x y z)=boolC (x.ev t):=rfl
@[simp] theorem stepV_pick (t:Tm) (H:Hp) (x y z:Od):stepV t H (.pick x y z)=pickV (x.ev t) (y.ev t) (z.ev t):=rfl
@[simp] theorem stepC_lns (t:Tm) (H:Hp) (x:Od):stepC t H (.lns x)=strC (x.ev t):=rfl
@[simp] theorem stepV_lns (t:Tm) (H:Hp) (x:Od):stepV t H (.lns x)=lnsV (x.ev t):=rfl
@[simp] theorem stepC_len (t:Tm) (H:Hp) (x:Od):stepC t H (.len x)=slC (x.ev t):=rfl
@[simp] theorem stepV_len (t:Tm) (H:Hp) (x:Od):stepV t H (.len x)=lenV (x.ev t):=rfl
@[simp] theorem stepC_not (t:Tm) (H:Hp) (x:Od):stepC t H (.not x)=boolC (x.ev t):=rfl
@[simp] theorem stepV_not (t:Tm) (H:Hp) (x:Od):stepV t H (.not x)=notV (x.ev t):=rfl
@[simp] theorem stepC_ext (t:Tm) (H:Hp) (i:Nat) (x:Od):stepC t H (.ext i x)=extC i (x.ev t):=rfl
@[simp] theorem stepV_ext (t:Tm) (H:Hp) (i:Nat) (x:Od):stepV t H (.ext i x)=extV i (x.ev t):=rfl
@[simp] theorem stepC_fa (t:Tm) (H:Hp) (n:Nat) (x:Od):stepC t H (.fa n x)=ptC (x.ev t):=rfl
@[simp] theorem stepV_fa (t:Tm) (H:Hp) (n:Nat) (x:Od):stepV t H (.fa n x)=faV n (x.ev t):=rfl
end
@[simp] theorem ixC_c (s:ByteArray) (k:IntKind) (j:Int):ixC (.str s) (.int k j)=(0<=j/\j<s.size):=rfl
@[simp] theorem ixV_c (s:ByteArray) (k:IntKind) (j:Int):ixV (.str s) (.int k j)=.int .u8 (bt s j):=rfl
@[simp] theorem boolC_c (q:Bool):boolC (.bool q)=True:=rfl
@[simp] theorem pickV_c (q:Bool) (a b:AV):pickV (.bool q) a b=if q=true then a else b:=rfl
@[simp] theorem strC_c (s:ByteArray):strC (.str s)=True:=rfl
@[simp] theorem lnsV_c (s:ByteArray):lnsV (.str s)=.int .i64 s.size:=rfl
@[simp] theorem slC_1 (o i n:Nat):slC (.sl o i n)=True:=rfl
@[simp] theorem slC_2:slC .nils=True:=rfl
@[simp] theorem slC_3:slC .sz=True:=rfl
@[simp] theorem lenV_1 (o i n:Nat):lenV (.sl o i n)=.int .i64 n:=rfl
@[simp] theorem lenV_2:lenV .nils=.int .i64 0:=rfl
@[simp] theorem lenV_3:lenV .sz=.int .i64 0:=rfl
@[simp] theorem notV_c (q:Bool):notV (.bool q)=.bool (!q):=rfl
@[simp] theorem extC_c (i:Nat) (vs:List AV):extC i (.tu vs)=(i<vs.length):=rfl
@[simp] theorem extV_c (i:Nat) (vs:List AV):extV i (.tu vs)=vs.getD i .un:=rfl
@[simp] theorem ptC_c (o i f:Nat):ptC (.pt o i f)=True:=rfl
@[simp] theorem faV_c (n o i f:Nat):faV n (.pt o i f)=.pt o i (f+n):=rfl
@[simp] theorem binC_iadd (k k':IntKind) (x y:Int):binC .add (.int k x) (.int k' y)=(k=k'):=by simp [binC]
@[simp] theorem binC_isub (k k':IntKind) (x y:Int):binC .sub (.int k x) (.int k' y)=(k=k'):=by simp [binC]
@[simp] theorem binC_imul (k k':IntKind) (x y:Int):binC .mul (.int k x) (.int k' y)=(k=k'):=by simp [binC]
@[simp] theorem binC_ixor (k k':IntKind) (x y:Int):binC .xor (.int k x) (.int k' y)=(k=k'):=by simp [binC]
@[simp] theorem binC_ieql (k k':IntKind) (x y:Int):binC .eql (.int k x) (.int k' y)=(k=k'):=by simp [binC]
@[simp] theorem binC_ineq (k k':IntKind) (x y:Int):binC .neq (.int k x) (.int k' y)=(k=k'):=by simp [binC]
@[simp] theorem binC_ilss (k k':IntKind) (x y:Int):binC .lss (.int k x) (.int k' y)=(k=k'):=by simp [binC]
@[simp] theorem binC_ileq (k k':IntKind) (x y:Int):binC .leq (.int k x) (.int k' y)=(k=k'):=by simp [binC]
@[simp] theorem binC_igtr (k k':IntKind) (x y:Int):binC .gtr (.int k x) (.int k' y)=(k=k'):=by simp [binC]
@[simp] theorem binC_igeq (k k':IntKind) (x y:Int):binC .geq (.int k x) (.int k' y)=(k=k'):=by simp [binC]
@[simp] theorem binC_iquo (k k':IntKind) (x y:Int):binC .quo (.int k x) (.int k' y)=(k=k'/\y≠0):=by simp [binC]
@[simp] theorem binC_irem (k k':IntKind) (x y:Int):binC .rem (.int k x) (.int k' y)=(k=k'/\y≠0):=by simp [binC]
@[simp] theorem binC_ishr (k k':IntKind) (x y:Int):binC .shr (.int k x) (.int k' y)=(k=k'/\y=1):=by simp [binC]
@[simp] theorem binC_seql (x y:ByteArray):binC .eql (.str x) (.str y)=True:=rfl
@[simp] theorem binC_sneq (x y:ByteArray):binC .neq (.str x) (.str y)=True:=rfl
@[simp] theorem binC_slss (x y:ByteArray):binC .lss (.str x) (.str y)=True:=rfl
@[simp] theorem binC_sleq (x y:ByteArray):binC .leq (.str x) (.str y)=True:=rfl
@[simp] theorem binC_sgtr (x y:ByteArray):binC .gtr (.str x) (.str y)=True:=rfl
@[simp] theorem binC_sgeq (x y:ByteArray):binC .geq (.str x) (.str y)=True:=rfl
@[simp] theorem binC_sadd (x y:ByteArray):binC .add (.str x) (.str y)=(x.size+y.size<=9223372036854775807):=rfl
@[simp] theorem binV_iadd (k k':IntKind) (x y:Int):binV .add (.int k x) (.int k' y)=.int k (k.wrap (x+y)):=rfl
@[simp] theorem binV_isub (k k':IntKind) (x y:Int):binV .sub (.int k x) (.int k' y)=.int k (k.wrap (x-y)):=rfl
@[simp] theorem binV_imul (k k':IntKind) (x y:Int):binV .mul (.int k x) (.int k' y)=.int k (k.wrap (x * y)):=rfl
@[simp] theorem binV_iquo (k k':IntKind) (x y:Int):binV .quo (.int k x) (.int k' y)=.int k (k.wrap (x.tdiv y)):=rfl
@[simp] theorem binV_irem (k k':IntKind) (x y:Int):binV .rem (.int k x) (.int k' y)=.int k (x.tmod y):=rfl
@[simp] theorem binV_ishr (k k':IntKind) (x y:Int):binV .shr (.int k x) (.int k' y)=.int k (x.fdiv 2):=rfl
@[simp] theorem binV_ixor (k k':IntKind) (x y:Int):binV .xor (.int k x) (.int k' y)=.int k (k.wrap ((BitVec.ofInt k.bits x ^^^ BitVec.ofInt k.bits y).toNat)):=rfl
@[simp] theorem binV_ieql (k k':IntKind) (x y:Int):binV .eql (.int k x) (.int k' y)=.bool (decide (x=y)):=rfl
@[simp] theorem binV_ineq (k k':IntKind) (x y:Int):binV .neq (.int k x) (.int k' y)=.bool (!decide (x=y)):=rfl
@[simp] theorem binV_ilss (k k':IntKind) (x y:Int):binV .lss (.int k x) (.int k' y)=.bool (decide (x<y)):=rfl
@[simp] theorem binV_ileq (k k':IntKind) (x y:Int):binV .leq (.int k x) (.int k' y)=.bool (decide (x<=y)):=rfl
@[simp] theorem binV_igtr (k k':IntKind) (x y:Int):binV .gtr (.int k x) (.int k' y)=.bool (decide (y<x)):=rfl
@[simp] theorem binV_igeq (k k':IntKind) (x y:Int):binV .geq (.int k x) (.int k' y)=.bool (decide (y<=x)):=rfl
@[simp] theorem binV_sadd (x y:ByteArray):binV .add (.str x) (.str y)=.str (x++y):=rfl
@[simp] theorem binV_seql (x y:ByteArray):binV .eql (.str x) (.str y)=.bool (decide (x=y)):=rfl
@[simp] theorem binV_sneq (x y:ByteArray):binV .neq (.str x) (.str y)=.bool (!decide (x=y)):=rfl
@[simp] theorem binV_slss (x y:ByteArray):binV .lss (.str x) (.str y)=.bool (sless x y):=rfl
@[simp] theorem binV_sleq (x y:ByteArray):binV .leq (.str x) (.str y)=.bool (!sless y x):=congrArg AV.bool (sless_le x y)
@[simp] theorem binV_sgtr (x y:ByteArray):binV .gtr (.str x) (.str y)=.bool (sless y x):=congrArg AV.bool (sless_gt x y)
@[simp] theorem binV_sgeq (x y:ByteArray):binV .geq (.str x) (.str y)=.bool (!sless x y):=rfl
@[simp] theorem stepC_ia (t:Tm) (H:Hp) (n:Nat) (x y:Od):stepC t H (.ia n x y)=iaC H n (x.ev t) (y.ev t):=rfl
@[simp] theorem stepV_ia (t:Tm) (H:Hp) (n:Nat) (x y:Od):stepV t H (.ia n x y)=iaV (x.ev t) (y.ev t):=rfl
@[simp] theorem stepH_ia (t:Tm) (H:Hp) (n:Nat) (x y:Od):stepH t H (.ia n x y)=H:=rfl
@[simp] theorem iaC_c (H:Hp) (esz o i n:Nat) (k:IntKind) (j:Int):iaC H esz (.sl o i n) (.int k j)=((∃ ob,H.at o=some ob/\ob.esz=esz)/\0<=j/\j<n):=rfl
@[simp] theorem iaV_c (o i n:Nat) (k:IntKind) (j:Int):iaV (.sl o i n) (.int k j)=.pt o (i+j.toNat) 0:=rfl
@[simp] theorem stepC_cuts (t:Tm) (H:Hp) (x:Od) (l h:Option Od):stepC t H (.cuts x l h)=cutsC (fun d=>optI t d l) (fun d=>optI t d h) (x.ev t):=rfl
@[simp] theorem stepV_cuts (t:Tm) (H:Hp) (x:Od) (l h:Option Od):stepV t H (.cuts x l h)=cutsV (fun d=>optI t d l) (fun d=>optI t d h) (x.ev t):=rfl
@[simp] theorem stepH_cuts (t:Tm) (H:Hp) (x:Od) (l h:Option Od):stepH t H (.cuts x l h)=H:=rfl
@[simp] theorem cutsC_c (d e:Int->Option Int) (s:ByteArray):cutsC d e (.str s)=∃ l h,d 0=some l/\e s.size=some h/\0<=l/\l<=h/\h<=s.size:=rfl
@[simp] theorem cutsV_c (d e:Int->Option Int) (s:ByteArray):cutsV d e (.str s)=.str (s.extract ((d 0).getD 0).toNat ((e s.size).getD 0).toNat):=rfl
theorem g_split {q:Bool} {g:Nat} {b:Bool} {C:CallP} {d:Option Nat} {op:AOp} {p:Plan} {t:Tm} {H:Hp} {K:Tm->Hp->Prop}
  (h1:q=true->gG (.bool true) g b C d op p (upd t g (.bool true)) H K) (h2:q=false->gG (.bool false) g b C d op p (upd t g (.bool false)) H K) (ht:t g=.bool q):gG (.bool q) g b C d op p t H K:=by
 have e:upd t g (.bool q)=t:=by
  funext x
  simp only [upd]
  split
  ·rename_i e
   rw [e,ht]
  ·rfl
 cases q
 ·have:=h2 rfl
  rwa [e] at this
 ·have:=h1 rfl
  rwa [e] at this
theorem c_split {q:Bool} {C:CallP} {a b:CC} {Q:Ex->Tm->Hp->Prop} {t:Tm} {H:Hp} (h1:q=true->W C a Q t H) (h2:q=false->W C b Q t H):cG (.bool q) C a b Q t H:=⟨h1,h2⟩
theorem wrap64 {n:Int} (h1:-9223372036854775808<=n) (h2:n<9223372036854775808):IntKind.i64.wrap n=n:=by rw [IntKind.wrap_i64]; omega
end Go.Proofs.YtepeokaplbbpoaaGreat.B

namespace Go.Proofs.YtepeokaplbbpoaaGreat.B
open Go.RowKit
set_option linter.unusedVariables false
set_option linter.unusedSimpArgs false
def Rows (esz:Nat) (H:Hp) (v:AV) (rows:List (List AV)):Prop :=
 (v=.nils/\rows=[])\/(v=.sz/\rows=[]) \/
  ∃ o i ob,v=.sl o i rows.length/\H.at o=some ob/\ob.esz=esz/\i+rows.length<=ob.rows.length/\(ob.rows.drop i).take rows.length=rows
theorem Rows.le {esz:Nat} {H H':Hp} {v:AV} {rows:List (List AV)} (h:Rows esz H v rows) (hle:HLe H H'):Rows esz H' v rows:=by
 rcases h with h | h | ⟨o,i,ob,h1,h2,h3⟩
 ·exact .inl h
 ·exact .inr (.inl h)
 ·exact .inr (.inr ⟨o,i,ob,h1,hle.2 _ _ h2,h3⟩)
theorem Rows.len {esz:Nat} {H:Hp} {v:AV} {rows:List (List AV)} (h:Rows esz H v rows):lenV v=.int .i64 rows.length:=by
 rcases h with ⟨rfl,rfl⟩ | ⟨rfl,rfl⟩ | ⟨o,i,ob,rfl,_⟩<;>rfl
theorem Rows.slc {esz:Nat} {H:Hp} {v:AV} {rows:List (List AV)} (h:Rows esz H v rows):slC v:=by
 rcases h with ⟨rfl,rfl⟩ | ⟨rfl,rfl⟩ | ⟨o,i,ob,rfl,_⟩<;>trivial
theorem Rows.cells {esz:Nat} {H:Hp} {v:AV} {rows:List (List AV)} (h:Rows esz H v rows):v.cells=[v]:=by
 rcases h with ⟨rfl,rfl⟩ | ⟨rfl,rfl⟩ | ⟨o,i,ob,rfl,_⟩<;>rfl
theorem Rows.cells1 {esz:Nat} {H:Hp} {v:AV} {rows:List (List AV)} (h:Rows esz H v rows):cells1 v=true:=by
 rcases h with ⟨rfl,rfl⟩ | ⟨rfl,rfl⟩ | ⟨o,i,ob,rfl,_⟩<;>rfl
theorem Rows.one {esz:Nat} {H:Hp} {v:AV} {rows:List (List AV)} (h:Rows esz H v rows):one v=true:=by
 rcases h with ⟨rfl,rfl⟩ | ⟨rfl,rfl⟩ | ⟨o,i,ob,rfl,_⟩<;>rfl
theorem Rows.get {esz:Nat} {H:Hp} {v:AV} {rows:List (List AV)} (h:Rows esz H v rows) {j:Nat} (hj:j<rows.length) :
  ∃ o i ob,v=.sl o i rows.length/\H.at o=some ob/\ob.esz=esz/\ob.rows[i+j]?=some rows[j]:=by
 rcases h with ⟨rfl,rfl⟩ | ⟨rfl,rfl⟩ | ⟨o,i,ob,rfl,h2,h3,h4,h5⟩
 ·simp at hj
 ·simp at hj
 ·refine⟨o,i,ob,rfl,h2,h3,?_⟩
  have:((ob.rows.drop i).take rows.length)[j]?=rows[j]?:=by rw [h5]
  rw [List.getElem?_take,if_pos hj,List.getElem?_drop,List.getElem?_eq_getElem hj] at this
  exact this
theorem Rows.whole {H:Hp} {o:Nat} {ob:Ob} (h:H.at o=some ob):Rows ob.esz H (.sl o 0 ob.rows.length) ob.rows :=
 .inr (.inr ⟨o,0,ob,rfl,h,rfl,by omega,by simp⟩)
def Strs (H:Hp) (v:AV) (xs:List ByteArray):Prop:=Rows 1 H v (xs.map fun s=>[.str s])
theorem Strs.le {H H':Hp} {v:AV} {xs:List ByteArray} (h:Strs H v xs) (hle:HLe H H'):Strs H' v xs:=Rows.le h hle
theorem Strs.len {H:Hp} {v:AV} {xs:List ByteArray} (h:Strs H v xs):lenV v=.int .i64 xs.length:=by simpa using Rows.len h
theorem Strs.slc {H:Hp} {v:AV} {xs:List ByteArray} (h:Strs H v xs):slC v:=Rows.slc h
theorem Strs.get {H:Hp} {v:AV} {xs:List ByteArray} (h:Strs H v xs) {j:Nat} (hj:j<xs.length) :
  ∃ o i ob,v=.sl o i xs.length/\H.at o=some ob/\ob.esz=1/\ob.rows[i+j]?=some [.str xs[j]]:=by
 obtain⟨o,i,ob,h1,h2,h3,h4⟩:=Rows.get h (j:=j) (by simpa using hj)
 exact⟨o,i,ob,by simpa using h1,h2,h3,by simpa using h4⟩
def strRow (s:ByteArray):List AV:=[.str s]
theorem Hp.at_set {H:Hp} {o:Nat} (x:Option Ob) (h:o<H.length):Hp.at (List.set H o x) o=x:=by simp [Hp.at,h]
theorem Hp.set_self {H:Hp} {o:Nat} {ob:Ob} (h:H.at o=some ob):List.set H o (some ob)=H:=by
 apply List.ext_getElem?
 intro j
 rw [List.getElem?_set]
 split
 ·rename_i e
  subst e
  rw [if_pos (Hp.at_lt h),Hp.at_some h]
 ·rfl
theorem Rows.nil {esz:Nat} {H:Hp}:Rows esz H .nils []:=.inl ⟨rfl,rfl⟩
def AV.of:AV->Nat->Prop
 | .sl o _ _,o'=>o=o'
 | _,_=>False
end Go.Proofs.YtepeokaplbbpoaaGreat.B

namespace Go.Proofs.YtepeokaplbbpoaaGreat.B
open Go.RowKit
set_option linter.unusedVariables false
set_option linter.unusedSimpArgs false
inductive Sh where
 | ki (k:IntKind)
 | kb
 | ks
 | kl (e:List Sh)
mutual
def Ty (H:Hp):Sh->AV->Prop
 | .ki k,v=>∃ n,v=.int k n/\(Lit.int k n).wf=true
 | .kb,v=>∃ q,v=.bool q
 | .ks,v=>∃ s,v=.str s/\s.size<=reachBytes
 | .kl e,v=>∃ rows,Rows e.length H v rows/\rows.length<=reachBytes/\∀ r∈rows,Tys H e r
def Tys (H:Hp):List Sh->List AV->Prop
 | [],vs=>vs=[]
 | s :: ss,vs=>∃ v us,vs=v :: us/\Ty H s v/\Tys H ss us
end
mutual
theorem Ty.le {H H':Hp} (hle:HLe H H'):∀ (s:Sh) (v:AV),Ty H s v->Ty H' s v
 | .ki k,v,h=>h
 | .kb,v,h=>h
 | .ks,v,h=>h
 | .kl e,v,h=>by
  obtain⟨rows,h1,h2,h3⟩:=h
  exact⟨rows,h1.le hle,h2,fun r hr=>Tys.le hle e r (h3 r hr)⟩
theorem Tys.le {H H':Hp} (hle:HLe H H'):∀ (s:List Sh) (v:List AV),Tys H s v->Tys H' s v
 | [],v,h=>h
 | s :: ss,v,h=>by
  obtain⟨v,us,h1,h2,h3⟩:=h
  exact⟨v,us,h1,Ty.le hle s v h2,Tys.le hle ss us h3⟩
end
theorem Tys.length {H:Hp}:∀ {s:List Sh} {v:List AV},Tys H s v->v.length=s.length
 | [],_,h=>by rw [show _=_ from h]; rfl
 | _ :: _,_,⟨_,_,h1,_,h3⟩=>by rw [h1,List.length_cons,Tys.length h3,List.length_cons]
theorem Tys.append {H:Hp}:∀ {s s2:List Sh} {v v2:List AV},Tys H s v->Tys H s2 v2->Tys H (s++s2) (v++v2)
 | [],_,_,_,h,k=>by rw [show _=([]:List AV) from h]; exact k
 | _ :: _,_,_,_,⟨v,vs,h1,h2,h3⟩,k=>by
  subst h1
  exact⟨v,vs++_,rfl,h2,Tys.append h3 k⟩
theorem Ty.one {H:Hp}:∀ {s:Sh} {v:AV},Ty H s v->one v=true
 | .ki _,_,⟨_,h,_⟩=>by rw [h]; rfl
 | .kb,_,⟨_,h⟩=>by rw [h]; rfl
 | .ks,_,⟨_,h,_⟩=>by rw [h]; rfl
 | .kl _,_,⟨_,h,_⟩=>by rcases h with ⟨h,_⟩ | ⟨h,_⟩ | ⟨_,_,_,h,_⟩<;>rw [h]<;>rfl
theorem Tys.ones {H:Hp}:∀ {s:List Sh} {v:List AV},Tys H s v->∀ a∈v,B.one a=true
 | [],_,h,a,ha=>by rw [show _=_ from h] at ha; simp at ha
 | _ :: _,_,⟨v,us,h1,h2,h3⟩,a,ha=>by
  subst h1
  rcases List.mem_cons.1 ha with rfl | ha
  ·exact Ty.one h2
  ·exact Tys.ones h3 a ha
def shF (P:Program) (g:TypeId->Option (List Sh)):List Field->Nat->Option (List Sh)
 | [],_=>some []
 | f :: fs,off=>if f.offset=off then (g f.type).bind fun l=>if P.cellsOf f.type=l.length then (shF P g fs (off+l.length)).map (l++·) else none else none
def shT (P:Program):Nat->TypeId->Option (List Sh)
 | 0,_=>none
 | n+1,t=>match P.underlying t with
  | some .bool=>some [.kb]
  | some (.int k)=>some [.ki k]
  | some .string=>some [.ks]
  | some (.slice e)=>(shT P n e).bind fun l=>if P.cellsOf e=l.length/\0<l.length/\0<P.bytesOf e then some [.kl l] else none
  | some (.struct fs)=>(shF P (shT P n) fs.toList 0).bind fun l=>if P.cellsOf t=l.length then some l else none
  | _=>none
section
variable {HH:Type} {enc:TypeId × Value->HH} {P:Program} {w:World} {E:Env}
def AllRo (H:Hp):Prop:=∀ (o:Nat) (ob:Ob),H[o]?=some (some ob)->ob.ro=true
theorem AllRo.app {H:Hp} (h:AllRo H) {ob:Ob} (hr:ob.ro=true):AllRo (H++[some ob]):=by
 intro o ob' ho
 rcases Nat.lt_or_ge o H.length with hl | hl
 ·rw [List.getElem?_append_left hl] at ho
  exact h o ob' ho
 ·rw [List.getElem?_append_right hl] at ho
  cases hk:o-H.length with
  | zero =>
   rw [hk] at ho
   have:ob=ob':=by simpa using ho
   rw [<- this]
   exact hr
  | succ k=>rw [hk] at ho; simp at ho
def Got (P:Program) (E:Env) (w:World) (φ:Phi) (H:Hp) (sh:List Sh) (cs:List Value):Prop :=
 ∃ φ' K avs,PLe φ φ'/\HR E φ' (H++K) w/\AllRo (H++K)/\VRs φ' avs cs/\Tys (H++K) sh avs
theorem mapM_get {α β:Type} {f:α->Option β}:∀ {l:List α} {r:List β},l.mapM f=some r->r.length=l.length/\∀ (i:Nat) (a:α),l[i]?=some a->f a=r[i]?
 | [],r,h=>by
  simp at h
  subst h
  simp
 | a :: l,r,h=>by
  simp only [List.mapM_cons,Option.bind_eq_bind,Option.pure_def,Option.bind_eq_some_iff,Option.some.injEq] at h
  obtain⟨b,hb,rs,hrs,rfl⟩:=h
  obtain⟨h1,h2⟩:=mapM_get hrs
  refine⟨by simp [h1],fun i x hx=>?_⟩
  cases i with
  | zero =>
   have:a=x:=by simpa using hx
   subst this
   simpa using hb
  | succ i=>simpa using h2 i x (by simpa using hx)
theorem cells_get {a:Addr} {n:Nat} {cs:List Value} {base:Nat} (h:w.cells? base a n=some cs):cs.length=n/\∀ i,i<n->w.cell? (a.add i)=cs[i]?:=by
 unfold World.cells? at h
 split at h
 ·obtain⟨h1,h2⟩:=mapM_get h
  exact⟨by simpa using h1,fun i hi=>h2 i i (by simp [hi])⟩
 ·cases h
theorem got_rows {c:Nat} {sh:List Sh} {cs:Nat->List Value} {m:Nat} (each:∀ i,i<m->∀ φ H,HR E φ H w->AllRo H->Got P E w φ H sh (cs i)) :
  ∀ φ H,HR E φ H w->AllRo H->∃ φ' K,∃ rows:List (List AV),PLe φ φ'/\HR E φ' (H++K) w/\AllRo (H++K)/\rows.length=m/\∀ (i:Nat) (r:List AV),rows[i]?=some r->VRs φ' r (cs i)/\Tys (H++K) sh r:=by
 induction m with
 | zero =>
  intro φ H hH hro
  exact⟨φ,[],[],PLe.refl _,by simpa using hH,by simpa using hro,rfl,by simp⟩
 | succ m ih =>
  intro φ H hH hro
  obtain⟨φ1,K1,rows,p1,h1,r1,l1,g1⟩:=ih (fun i hi=>each i (by omega)) φ H hH hro
  obtain⟨φ2,K2,avs,p2,h2,r2,v2,t2⟩:=each m (by omega) φ1 (H++K1) h1 r1
  refine⟨φ2,K1++K2,rows++[avs],p1.trans p2,by rw [<- List.append_assoc]; exact h2,by rw [<- List.append_assoc]; exact r2,by simp [l1],fun i r hr=>?_⟩
  rw [<- List.append_assoc]
  rcases Nat.lt_or_ge i rows.length with hl | hl
  ·rw [List.getElem?_append_left hl] at hr
   obtain⟨a1,a2⟩:=g1 i r hr
   exact⟨VRs.mono p2 _ _ a1,Tys.le (HLe.self _ _) _ _ a2⟩
  ·rw [List.getElem?_append_right hl] at hr
   cases hk:i-rows.length with
   | zero =>
    rw [hk] at hr
    have:avs=r:=by simpa using hr
    subst this
    have:i=m:=by omega
    subst this
    exact⟨v2,t2⟩
   | succ k=>rw [hk] at hr; simp at hr
theorem add_spot {a:Addr} {k:Nat} {v:Value} (h:w.cell? (a.add k)=some v) (h0:k=0->True):∃ cells e fr,w.heap[a.block]?=some (.cells cells e fr)/\cells[a.off+k]?=some v/\(k=0->a.spot=none):=by
 unfold World.cell? at h
 have hb:(a.add k).block=a.block:=by unfold Addr.add; split<;>rfl
 have ho:(a.add k).off=a.off+k:=by unfold Addr.add; split<;>simp_all
 rw [hb] at h
 split at h
 ·rename_i c e fr hc
  split at h
  ·cases h
  ·rename_i hs
   rw [ho] at h
   refine⟨c,e,fr,hc,h,fun hk=>?_⟩
   subst hk
   simpa [Addr.add] using hs
 ·cases h
theorem got_fields {n:Nat} {g:TypeId->Option (List Sh)} {W:TypeId->DataW HH->Prop} {cs:List Value}
  (each:∀ t sh,g t=some sh->∀ cs x,DataW.trod enc P w 0 (fun _=>true) true n t cs=some x->W t x.1->∀ φ H,HR E φ H w->AllRo H->Got P E w φ H sh cs) :
  ∀ (fs:List Field) (off:Nat) (sh:List Sh) (xs:List (DataW HH × List MemPlace)),shF P g fs off=some sh->xs.length=fs.length->cs.length=off+sh.length ->
   (∀ (i:Nat) (f:Field),fs[i]?=some f->DataW.trod enc P w 0 (fun _=>true) true n f.type ((cs.drop f.offset).take (P.cellsOf f.type))=xs[i]?) ->
   (∀ (i:Nat) (f:Field) x,fs[i]?=some f->xs[i]?=some x->W f.type x.1)->∀ φ H,HR E φ H w->AllRo H->Got P E w φ H sh (cs.drop off)
 | [],off,sh,xs,hs,hl,hc,hx,hw,φ,H,hH,hro=>by
  simp only [shF,Option.some.injEq] at hs
  subst hs
  simp at hc
  refine⟨φ,[],[],PLe.refl _,by simpa using hH,by simpa using hro,?_,rfl⟩
  rw [List.drop_of_length_le (by omega)]
  rfl
 | f :: fs,off,sh,xs,hs,hl,hc,hx,hw,φ,H,hH,hro=>by
  simp only [shF] at hs
  split at hs
  ·rename_i ho
   simp only [Option.bind_eq_some_iff] at hs
   obtain⟨l,hl1,hs⟩:=hs
   split at hs
   ·rename_i hcl
    simp only [Option.map_eq_some_iff] at hs
    obtain⟨l2,hl2,rfl⟩:=hs
    cases xs with
    | nil=>simp at hl
    | cons x xs =>
     have h0:=hx 0 f rfl
     simp only [List.getElem?_cons_zero] at h0
     rw [ho,hcl] at h0
     obtain⟨φ1,K1,avs,p1,h1,r1,v1,t1⟩:=each f.type l hl1 _ _ h0 (hw 0 f x rfl rfl) φ H hH hro
     simp only [List.length_append] at hc
     obtain⟨φ2,K2,bs,p2,h2,r2,v2,t2⟩:=got_fields each fs (off+l.length) l2 xs hl2 (by simpa using hl) (by rw [hc,Nat.add_assoc]) (fun i f' hf=>by simpa using hx (i+1) f' (by simpa using hf)) (fun i f' x' hf hx'=>hw (i+1) f' x' (by simpa using hf) (by simpa using hx')) φ1 (H++K1) h1 r1
     refine⟨φ2,K1++K2,avs++bs,p1.trans p2,by rw [<- List.append_assoc]; exact h2,by rw [<- List.append_assoc]; exact r2,?_,?_⟩
     ·have e:cs.drop off=(cs.drop off).take l.length++cs.drop (off+l.length):=by
       rw [<- List.drop_drop,List.take_append_drop]
      rw [e]
      exact (VRs.mono p2 _ _ v1).append v2
     ·rw [<- List.append_assoc]
      exact (Tys.le (HLe.self _ _) _ _ t1).append t2
   ·cases hs
  ·cases hs
theorem weights_all_mem {e:TypeId}:∀ {ds:List (DataW HH)} {d:DataW HH},d∈ds->∀ n∈d.weights P e,n∈DataW.weightsAll P e ds
 | d0 :: ds,d,hd,n,hn=>by
  simp only [DataW.weightsAll,List.mem_append]
  rcases List.mem_cons.1 hd with rfl | hd
  ·exact .inl hn
  ·exact .inr (weights_all_mem hd n hn)
 | [],_,hd,_,_=>by simp at hd
theorem got:∀ (k:Nat) (t:TypeId) (sh:List Sh),shT P k t=some sh->∀ (n:Nat) (cs:List Value) (x:DataW HH × List MemPlace),DataW.trod enc P w 0 (fun _=>true) true n t cs=some x ->
  (∀ m∈x.1.weights P t,m<=reachBytes)->∀ φ H,HR E φ H w->AllRo H->Got P E w φ H sh cs
 | 0,t,sh,hs,n,cs,x,hx,hw,φ,H,hH,hro=>by cases hs
 | k+1,t,sh,hs,n,cs,x,hx,hw,φ,H,hH,hro=>by
  simp only [shT] at hs
  split at hs
  ·rename_i hu
   cases hs
   obtain⟨b,rfl,_⟩:=DataW.trod_bool hu hx
   exact⟨φ,[],[.bool b],PLe.refl _,by simpa using hH,by simpa using hro,⟨_,_,rfl,rfl,rfl⟩,⟨_,_,rfl,⟨b,rfl⟩,rfl⟩⟩
  ·rename_i q hu
   cases hs
   obtain⟨m,rfl,_,hwf⟩:=DataW.trod_int hu hx
   exact⟨φ,[],[.int q m],PLe.refl _,by simpa using hH,by simpa using hro,⟨_,_,rfl,rfl,rfl⟩,⟨_,_,rfl,⟨m,rfl,hwf⟩,rfl⟩⟩
  ·rename_i hu
   cases hs
   obtain⟨s,rfl,rfl,hsz⟩:=DataW.trod_string hu hx
   have:s.size<=reachBytes:=hw s.size (by simp [DataW.weights])
   exact⟨φ,[],[.str s],PLe.refl _,by simpa using hH,by simpa using hro,⟨_,_,rfl,rfl,rfl⟩,⟨_,_,rfl,⟨s,rfl,this⟩,rfl⟩⟩
  ·rename_i e hu
   simp only [Option.bind_eq_some_iff] at hs
   obtain⟨l,hl,hs⟩:=hs
   split at hs
   ·rename_i hc
    obtain⟨hc1,hc2,hc3⟩:=hc
    cases hs
    rcases DataW.trod_slice hu hx with ⟨rfl,rfl⟩ | ⟨a,len,cap,elems,rest,n',rfl,rfl,rfl,hb,hlc,hm,hlen,hel,hsp,_⟩
    ·exact⟨φ,[],[.nils],PLe.refl _,by simpa using hH,by simpa using hro,⟨_,_,rfl,rfl,rfl⟩,⟨_,_,rfl,⟨[],Rows.nil,by simp,by simp⟩,rfl⟩⟩
    ·obtain⟨hrl,hre⟩:=hsp rfl
     have hwt:(elems.length+rest.length) * P.bytesOf e<=reachBytes:=hw _ (by simp [DataW.weights,hu])
     have hlenr:len<=reachBytes:=by
      have:elems.length+rest.length<=(elems.length+rest.length) * P.bytesOf e:=Nat.le_mul_of_pos_right _ hc3
      omega
     have all:∀ i,i<cap->∃ cs' y,w.cells? 0 (a.add (i * P.cellsOf e)) (P.cellsOf e)=some cs'/\DataW.trod enc P w 0 (fun _=>true) true n' e cs'=some y/\(∀ m∈y.1.weights P e,m<=reachBytes):=by
      intro i hi
      have key:∀ y,y∈elems\/y∈rest->∀ m∈y.1.weights P e,m<=reachBytes:=by
       intro y hy m hm
       refine hw m ?_
       simp only [DataW.weights,hu,List.mem_cons,List.mem_append]
       rcases hy with hy | hy
       ·exact .inr (.inl (weights_all_mem (List.mem_map_of_mem hy) m hm))
       ·exact .inr (.inr (weights_all_mem (List.mem_map_of_mem hy) m hm))
      rcases Nat.lt_or_ge i len with hil | hil
      ·have h1:=hel i hil
       rw [List.getElem?_eq_getElem (by omega)] at h1
       simp only [Option.bind_eq_some_iff] at h1
       obtain⟨cs',h1,h2⟩:=h1
       exact⟨cs',_,h1,h2,key _ (.inl (List.getElem_mem _))⟩
      ·have h1:=hre (i-len) (by omega)
       rw [List.getElem?_eq_getElem (by omega),show len+(i-len)=i by omega] at h1
       simp only [Option.bind_eq_some_iff] at h1
       obtain⟨cs',h1,h2⟩:=h1
       exact⟨cs',_,h1,h2,key _ (.inr (List.getElem_mem _))⟩
     rcases Nat.eq_zero_or_pos cap with hc0 | hcp
     ·subst hc0
      obtain rfl:len=0:=by omega
      exact⟨φ,[],[.sz],PLe.refl _,by simpa using hH,by simpa using hro,⟨_,_,rfl,⟨a,rfl⟩,rfl⟩,⟨_,_,rfl,⟨[],.inr (.inl ⟨rfl,rfl⟩),by simp,by simp⟩,rfl⟩⟩
     ·have hch:∃ cs':Nat->List Value,∀ i,i<cap->∃ y,w.cells? 0 (a.add (i * P.cellsOf e)) (P.cellsOf e)=some (cs' i)/\DataW.trod enc P w 0 (fun _=>true) true n' e (cs' i)=some y/\(∀ m∈y.1.weights P e,m<=reachBytes):=by
       classical
       refine⟨fun i=>if h:i<cap then (all i h).choose else [],fun i hi=>?_⟩
       simp only [dif_pos hi]
       exact (all i hi).choose_spec
      obtain⟨cs',hcs⟩:=hch
      obtain⟨φ1,K,rows,p1,h1,r1,l1,g1⟩:=got_rows (c:=l.length) (sh:=l) (cs:=cs') (m:=cap) (fun i hi φ H hH hro=>by
       obtain⟨y,_,h2,h3⟩:=hcs i hi
       exact got k e l hl n' (cs' i) y h2 h3 φ H hH hro) φ H hH hro
      have hcell:∀ i f,i<cap->f<l.length->∃ cells ee fr,w.heap[a.block]?=some (.cells cells ee fr)/\cells[a.off+i * l.length+f]?=(cs' i)[f]?:=by
       intro i f hi hf
       obtain⟨y,h2,_,_⟩:=hcs i hi
       obtain⟨e1,e2⟩:=cells_get h2
       have h3:=e2 f (by omega)
       rw [List.getElem?_eq_getElem (by omega)] at h3
       have hadd:((a.add (i * P.cellsOf e)).add f)=(a.add (i * P.cellsOf e)).add f:=rfl
       obtain⟨cells,ee,fr,b1,b2,_⟩:=add_spot h3 (fun _=>trivial)
       have hb':(a.add (i * P.cellsOf e)).block=a.block:=by unfold Addr.add; split<;>rfl
       have ho':(a.add (i * P.cellsOf e)).off=a.off+i * P.cellsOf e:=by unfold Addr.add; split<;>simp_all
       rw [hb'] at b1
       rw [ho',hc1] at b2
       exact⟨cells,ee,fr,b1,by rw [b2,List.getElem?_eq_getElem (by omega)]⟩
      obtain⟨c0,e0,fr0,hblk,_⟩:=hcell 0 0 hcp hc2
      have hspot:a.spot=none:=by
       obtain⟨y,h2,_,_⟩:=hcs 0 hcp
       obtain⟨e1,e2⟩:=cells_get h2
       have h3:=e2 0 (by omega)
       rw [List.getElem?_eq_getElem (by omega)] at h3
       obtain⟨_,_,_,_,_,b3⟩:=add_spot h3 (fun _=>trivial)
       have:=b3 rfl
       simpa [Addr.add] using this
      have hcell2:∀ i f,i<cap->f<l.length->c0[a.off+i * l.length+f]?=(cs' i)[f]?:=by
       intro i f hi hf
       obtain⟨c1,e1,fr1,hb1,hc⟩:=hcell i f hi hf
       rw [hblk] at hb1
       cases hb1
       exact hc
      have hlt:a.block<w.heap.size:=(Array.getElem?_eq_some_iff.1 hblk).1
      let p:Pl:=⟨a.block,a.off,l.length,0,true⟩
      let ob:Ob:=⟨rows,l.length,0,true⟩
      have hlen2:rows.length=cap:=l1
      have hnone:φ1 (H++K).length=none:=h1.none_at
      have hadd:=HR.add h1 ob p rfl (fun h=>by cases h) (fun o' ob' p' ho' _ hro'=>by
        have:=r1 o' ob' ho'
        rw [hro'] at this
        cases this) ⟨rfl,rfl,c0,e0,fr0,hblk,(fun h=>by cases h),fun i row hr=>by
         obtain⟨g2,g3⟩:=g1 i row hr
         have hi:i<cap:=by
          have h9:i<rows.length:=(List.getElem?_eq_some_iff.1 hr).1
          omega
         refine⟨g3.length,fun f v hv=>⟨Tys.ones g3 v (List.mem_of_getElem? hv),?_⟩⟩
         have hf:f<l.length:=by have:=(List.getElem?_eq_some_iff.1 hv).1; rw [g3.length] at this; exact this
         obtain⟨u,hu1,hu2⟩:=g2.get f v hv
         exact⟨u,by show c0[a.off+i * l.length+f]?=_; rw [hcell2 i f hi hf]; exact hu1,VR.mono (Phi.put_le hnone) _ _ hu2⟩⟩ hlt
      refine⟨φ1.put (H++K).length p,K++[some ob],[.sl (H++K).length 0 len],p1.trans (Phi.put_le hnone),by rw [<- List.append_assoc]; exact hadd,by rw [<- List.append_assoc]; exact r1.app rfl,⟨_,_,rfl,?_,rfl⟩,⟨_,_,rfl,⟨rows.take len,.inr (.inr ⟨(H++K).length,0,ob,?_,?_,rfl,?_,?_⟩),?_,?_⟩,rfl⟩⟩
      ·refine⟨p,a,cap,by simp [Phi.put],rfl,hlc,.inr ⟨?_,.inl rfl⟩⟩
       obtain⟨b,o,sp⟩:=a
       simp only at hspot
       subst hspot
       simp [p]
      ·simp [hlen2,Nat.min_eq_left hlc]
      ·rw [<- List.append_assoc,Hp.at_app_0]
       rfl
      ·simp [ob,hlen2,Nat.min_eq_left hlc]
       omega
      ·simp [ob,hlen2,Nat.min_eq_left hlc]
      ·simp [hlen2,Nat.min_eq_left hlc]
       omega
      ·intro r hr
       obtain⟨i,hi⟩:=List.getElem?_of_mem (List.mem_of_mem_take hr)
       rw [<- List.append_assoc]
       exact Tys.le (HLe.self _ _) _ _ (g1 i r hi).2
   ·cases hs
  ·rename_i fs hu
   simp only [Option.bind_eq_some_iff] at hs
   obtain⟨l,hl,hs⟩:=hs
   split at hs
   ·rename_i hc
    cases hs
    obtain⟨xs,n',rfl,rfl,hcl,hxl,hxs⟩:=DataW.trod_struct hu hx
    have:=got_fields (enc:=enc) (P:=P) (w:=w) (E:=E) (n:=n') (g:=shT P k) (W:=fun t d=>∀ m∈d.weights P t,m<=reachBytes) (cs:=cs)
     (fun t sh hs cs x hx hw φ H hH hro=>got k t sh hs n' cs x hx hw φ H hH hro) fs.toList 0 sh xs hl (by simpa using hxl) (by rw [hcl,hc,Nat.zero_add]) (fun i f hf=>hxs i f (by simpa using hf))
     (fun i f x hf hx m hm=>hw m (by
      simp only [DataW.weights,hu]
      exact DataW.weights_mem_each (j:=i) (by simp [hf]) (by simp [hx]) m hm)) φ H hH hro
    simpa using this
   ·cases hs
  ·cases hs
def ArgOf (H:Hp) (sh:List Sh) (agg:Bool) (v:AV):Prop :=
 match agg with
 | true=>∃ avs,v=.ag avs/\Tys H sh avs
 | false=>∃ s,sh=[s]/\Ty H s v
def isAgg (P:Program) (t:TypeId):Bool:=match P.underlying t with | some (.struct _)=>true | _=>false
def ArgsOf (P:Program) (H:Hp):List TypeId->List AV->Prop
 | [],vs=>vs=[]
 | t :: ts,vs=>∃ v us sh,vs=v :: us/\shT P 6 t=some sh/\ArgOf H sh (isAgg P t) v/\ArgsOf P H ts us
theorem got_args {base:Nat}:∀ (ts:List TypeId) (vs:List Value) (ds:List (DataW HH)) (ps:List MemPlace),(ts.all fun t=>(shT P 6 t).isSome)=true ->
  DataW.TrodAll enc P w 0 (fun _=>true) true ts vs ds ps->(∀ (j:Nat) t v,ts[j]?=some t->vs[j]?=some v->Value.okWide P w .any base t v) ->
  (DataW.weightsEach P ts ds).all (·<=reachBytes)=true->∀ φ H,HR E φ H w->AllRo H ->
  ∃ φ' K avs,PLe φ φ'/\HR E φ' (H++K) w/\AllRo (H++K)/\VRs φ' avs vs/\ArgsOf P (H++K) ts avs/\ds.length=ts.length
 | [],[],[],ps,_,_,_,_,φ,H,hH,hro=>⟨φ,[],[],PLe.refl _,by simpa using hH,by simpa using hro,rfl,rfl,rfl⟩
 | t :: ts,v :: vs,d :: ds,ps,hts,⟨p,q,h0,hr,_⟩,hok,hw,φ,H,hH,hro=>by
  simp only [List.all_cons,Bool.and_eq_true] at hts
  obtain⟨hs,hts⟩:=hts
  obtain⟨sh,hs⟩:=Option.isSome_iff_exists.1 hs
  obtain⟨n,h0⟩:=h0
  simp only [DataW.weightsEach,List.all_append,Bool.and_eq_true] at hw
  obtain⟨φ1,K1,avs,p1,h1,r1,v1,t1⟩:=got 6 t sh hs n _ _ h0 (fun m hm=>by simpa using List.all_eq_true.1 hw.1 m hm) φ H hH hro
  obtain⟨φ2,K2,bs,p2,h2,r2,v2,t2,l2⟩:=got_args ts vs ds q hts hr (fun j t v ht hv=>hok (j+1) t v (by simpa using ht) (by simpa using hv)) hw.2 φ1 (H++K1) h1 r1
  have hv:=hok 0 t v rfl rfl
  have arg:∃ a,ArgOf (H++K1) sh (isAgg P t) a/\VR φ1 a v:=by
   have hs':=hs
   simp only [shT] at hs'
   have sing:∀ s,sh=[s]->v.cells.toList=[v]->isAgg P t=false->∃ a,ArgOf (H++K1) sh (isAgg P t) a/\VR φ1 a v:=by
    intro s hsh hvc hag
    rw [hag]
    subst hsh
    obtain⟨a,us,rfl,ta,tu⟩:=t1
    rw [hvc] at v1
    obtain⟨v',vs',hvv,hR,_⟩:=v1
    cases hvv
    exact⟨a,⟨s,rfl,ta⟩,hR⟩
   split at hs'
   ·rename_i hu
    cases hs'
    obtain⟨b,rfl⟩:=Go.WideShapes.okWide_bool hu hv
    exact sing .kb rfl rfl (by simp [isAgg,hu])
   ·rename_i k hu
    cases hs'
    obtain⟨b,rfl⟩:=Go.WideShapes.okWide_int hu hv
    exact sing (.ki k) rfl rfl (by simp [isAgg,hu])
   ·rename_i hu
    cases hs'
    obtain⟨b,rfl⟩:=Go.WideShapes.okWide_string hu hv
    exact sing .ks rfl rfl (by simp [isAgg,hu])
   ·rename_i e hu
    simp only [Option.bind_eq_some_iff] at hs'
    obtain⟨l,hl,hs'⟩:=hs'
    split at hs'
    ·cases hs'
     obtain⟨a,b,c,rfl⟩:=Go.WideShapes.okWide_slice hu hv
     exact sing (.kl l) rfl rfl (by simp [isAgg,hu])
    ·cases hs'
   ·rename_i fs hu
    obtain⟨cs,rfl,_⟩:=Go.WideShapes.okWide_struct hu hv
    refine⟨.ag avs,?_,cs.toList,by simp,v1⟩
    have:isAgg P t=true:=by simp [isAgg,hu]
    rw [this]
    exact⟨avs,rfl,t1⟩
   ·cases hs'
  obtain⟨a,ha,hR⟩:=arg
  refine⟨φ2,K1++K2,a :: bs,p1.trans p2,by rw [<- List.append_assoc]; exact h2,by rw [<- List.append_assoc]; exact r2,⟨v,vs,rfl,VR.mono p2 _ _ hR,v2⟩,?_,by simp [l2]⟩
  rw [<- List.append_assoc]
  have ha':ArgOf (H++K1++K2) sh (isAgg P t) a:=by
   unfold ArgOf at ha ⊢
   split at ha
   ·obtain⟨avs,a1,a2⟩:=ha
    exact⟨avs,a1,a2.le (HLe.self _ _)⟩
   ·obtain⟨s,a1,a2⟩:=ha
    exact⟨s,a1,a2.le (HLe.self _ _)⟩
  exact⟨a,bs,sh,rfl,hs,ha',t2⟩
end
end Go.Proofs.YtepeokaplbbpoaaGreat.B

namespace Go.Proofs.YtepeokaplbbpoaaGreat.B
open Go.RowKit Go.ChangeShapes
set_option linter.unusedVariables false
set_option linter.unusedSimpArgs false
section
variable {HH:Type} {enc:TypeId × Value->HH} {P:Program}
def topE (W:World):Env:=⟨W.heap.size,fun _=>True,fun _ _ _ _=>trivial⟩
theorem args_again (hl:laidOutB P=true) {W W':World} (hb:Below W.heap.size W W'):∀ (ts:List TypeId) (vs:List Value) (ds:List (DataW HH)) (ps:List MemPlace),
  (ts.all fun t=>P.readableRec t&&decide (t<P.types.size))=true->DataW.TrodAll enc P W 0 (fun _=>true) true ts vs ds ps->(∀ x∈ps,x.block<W.heap.size) ->
  DataW.TrodAll enc P W' 0 (fun b=>decide (b<W.heap.size)) true ts vs ds ps
 | [],[],[],_,_,h,_=>h
 | t :: ts,v :: vs,d :: ds,ps,hr,⟨p,q,h0,h1,e⟩,hlt=>by
  simp only [List.all_cons,Bool.and_eq_true] at hr
  obtain⟨⟨r1,r2⟩,hr⟩:=hr
  subst e
  exact⟨p,q,Below.trod hl r1 (of_decide_eq_true r2) h0 hb (fun x hx=>hlt x (List.mem_append_left _ hx)),args_again hl hb ts vs ds q hr h1 (fun x hx=>hlt x (List.mem_append_right _ hx)),rfl⟩
theorem row_of_AC (hl:laidOutB P=true) {f:Nat} {fn:Func} {s:ChangeSpec} {W:World} {base:Nat} {args:Array Value} {ds gs:List (DataW HH)} {before:List MemPlace} {tb:TypeId}
  (hts:(fn.params.toList.all fun t=>(shT P 6 t).isSome&&(P.readableRec t&&decide (t<P.types.size)))=true) (hres:fn.resultTypes=#[tb]) (htb:P.underlying tb=some .bool)
  (hval:∀ (j:Nat) t v,fn.params[j]?=some t->args[j]?=some v->Value.okWide P W .any base t v) (hv:s.vars=[])
  (hW:DataW.Whole enc P fn.params.toList s.vars false W args.toList ds gs before)
  (hsz:(DataW.weightsEach P (fn.params.toList++s.plain.varTypes P) (ds++gs)).all (·<=reachBytes)=true)
  (hspec:ds.length=fn.params.size->s.fn HH (ds++[])={ results:=[.lit (.bool true)],args:=ds })
  (hac:∀ avs H,ArgsOf P H fn.params.toList avs->AC P (topE W) f avs H (fun v _=>v=.bool true)) :
  Calls P f args W fun e W'=>∃ v,e=.returned v/\s.post enc P fn false true false false W args v W':=by
 have hlt:=hW.lt
 have hW0:=hW
 obtain⟨p,q,hA,hV,rfl,hfz,hnd⟩:=hW
 rw [hv] at hV
 cases gs with
 | cons g gs=>exact hV.elim
 | nil =>
  have hq:q=[]:=hV
  have hts1:(fn.params.toList.all fun t=>(shT P 6 t).isSome)=true:=by
   rw [List.all_eq_true] at hts ⊢
   intro t ht
   have:=hts t ht
   simp only [Bool.and_eq_true] at this
   exact this.1
  have hts2:(fn.params.toList.all fun t=>P.readableRec t&&decide (t<P.types.size))=true:=by
   rw [List.all_eq_true] at hts ⊢
   intro t ht
   have:=hts t ht
   simp only [Bool.and_eq_true] at this ⊢
   exact this.2
  have hvt:s.plain.varTypes P=[]:=by simp [hv,ChangeSpec.plain,DataSpec.varTypes]
  rw [hvt] at hsz
  simp only [List.append_nil] at hsz
  have hE:HR (topE W) (fun _=>none) [] W:=⟨by simp,by simp,by simp,by simp,Nat.le_refl _,trivial⟩
  obtain⟨φ,K,avs,p1,h1,r1,v1,t1,l1⟩:=got_args (enc:=enc) (P:=P) (w:=W) (E:=topE W) (base:=base) fn.params.toList args.toList ds p hts1 hA (fun j t v ht hv=>hval j t v (by simpa using ht) (by simpa using hv)) hsz _ _ hE (by intro o ob ho; simp at ho)
  have hsp:=hspec (by simpa using l1)
  have hcall:=(hac avs ([]++K) t1).2 φ W args.toList v1 h1
  rw [Array.toArray_toList] at hcall
  refine hcall.mono (fun e W' he=>?_)
  cases e with
  | panicked c=>exact he.elim
  | outgrown=>exact he.elim
  | returned u =>
   obtain⟨φ',H',v,_,_,bel,hvu,hvv⟩:=he
   have hu:u=.bool true:=by
    rw [hvv] at hvu
    exact hvu
   subst hu
   have bel':Below W.heap.size W W':=bel
   refine⟨_,rfl,ds,[],_,[],p,[],hW0,?_,?_,?_,bel'.frame _,fun h=>by cases h⟩
   ·rw [hsp,hres]
    exact trodAll_mk1 (shut_bool htb true)
   ·rw [hsp]
    exact args_again hl bel' _ _ _ _ hts2 hA (fun x hx=>hlt x (List.mem_append_left _ hx))
   ·rw [hsp,hv]
    rfl
end
theorem ArgsOf.cons {P:Program} {H:Hp} {t:TypeId} {ts:List TypeId} {vs:List AV} (h:ArgsOf P H (t :: ts) vs) {sh:List Sh} {b:Bool} (hs:shT P 6 t=some sh) (hb:isAgg P t=b) :
  ∃ v us,vs=v :: us/\ArgOf H sh b v/\ArgsOf P H ts us:=by
 obtain⟨v,us,sh',h1,h2,h3,h4⟩:=h
 rw [hs] at h2
 cases h2
 rw [hb] at h3
 exact⟨v,us,h1,h3,h4⟩
theorem rows_map {α:Type} {f:α->List AV} {Q:α->Prop}:∀ {rows:List (List AV)},(∀ r∈rows,∃ x,r=f x/\Q x)->∃ xs:List α,rows=xs.map f/\∀ x∈xs,Q x
 | [],_=>⟨[],rfl,by simp⟩
 | r :: rows,h=>by
  obtain⟨x,hx,hq⟩:=h r (by simp)
  obtain⟨xs,h1,h2⟩:=rows_map (fun r hr=>h r (List.mem_cons_of_mem _ hr))
  refine⟨x :: xs,by rw [h1,hx]; rfl,fun y hy=>?_⟩
  rcases List.mem_cons.1 hy with rfl | hy
  ·exact hq
  ·exact h2 y hy
theorem Ty.u8 {H:Hp} {v:AV} (h:Ty H (.ki .u8) v):∃ n:Int,v=.int .u8 n/\0<=n/\n<256:=by
 obtain⟨n,h1,h2⟩:=h
 refine⟨n,h1,?_⟩
 have h3:IntKind.u8.min<=n/\n<=IntKind.u8.max:=by simpa [Lit.wf] using h2
 have e1:IntKind.u8.min=0:=rfl
 have e2:IntKind.u8.max=255:=rfl
 omega
theorem Tys.cons {H:Hp} {s:Sh} {ss:List Sh} {vs:List AV} (h:Tys H (s :: ss) vs):∃ v us,vs=v :: us/\Ty H s v/\Tys H ss us:=h
theorem Tys.nil {H:Hp} {vs:List AV} (h:Tys H [] vs):vs=[]:=h
theorem Ty.sl {H:Hp} {e:List Sh} {v:AV} (h:Ty H (.kl e) v):∃ rows,Rows e.length H v rows/\rows.length<=140737488351232/\∀ r∈rows,Tys H e r:=h
theorem ArgOf.one {H:Hp} {s:Sh} {v:AV} (h:ArgOf H [s] false v):Ty H s v:=by
 obtain⟨s',h1,h2⟩:=h
 cases h1
 exact h2
theorem ArgsOf.nil {P:Program} {H:Hp} {vs:List AV} (h:ArgsOf P H [] vs):vs=[]:=h
end Go.Proofs.YtepeokaplbbpoaaGreat.B

namespace Go.Proofs.YtepeokaplbbpoaaGreat.B
open Go.RowKit
set_option linter.unusedVariables false
set_option linter.unusedSimpArgs false
def Fr (S:Nat->Prop) (H H':Hp):Prop:=H.length<=H'.length/\∀ o ob,¬S o->H.at o=some ob->H'.at o=some ob
theorem Fr.refl (S:Nat->Prop) (H:Hp):Fr S H H:=⟨Nat.le_refl _,fun _ _ _ h=>h⟩
theorem Fr.len {S:Nat->Prop} {H H':Hp} (h:Fr S H H'):H.length<=H'.length:=h.1
theorem Fr.trans {S S':Nat->Prop} {a b c:Hp} (h:Fr S a b) (k:Fr S' b c) (hs:∀ o,S' o->S o\/a.length<=o):Fr S a c :=
 ⟨Nat.le_trans h.1 k.1,fun o ob hn ho=>k.2 o ob (fun hk=>(hs o hk).elim hn (fun hl=>by have:=Hp.at_lt ho; omega)) (h.2 o ob hn ho)⟩
theorem Fr.same {S:Nat->Prop} {a b c:Hp} (h:Fr S a b) (k:Fr S b c):Fr S a c:=h.trans k (fun o h=>.inl h)
theorem Fr.mono {S S':Nat->Prop} {a b:Hp} (h:Fr S a b) (hs:∀ o,S o->S' o\/a.length<=o):Fr S' a b :=
 ⟨h.1,fun o ob hn ho=>h.2 o ob (fun hk=>(hs o hk).elim hn (fun hl=>by have:=Hp.at_lt ho; omega)) ho⟩
theorem HLe.fr {S:Nat->Prop} {a b:Hp} (h:HLe a b):Fr S a b:=⟨h.1,fun o ob _ ho=>h.2 o ob ho⟩
theorem Fr.le {S:Nat->Prop} {a b:Hp} (h:Fr S a b) (hs:∀ o,S o->a.length<=o):HLe a b :=
 ⟨h.1,fun o ob ho=>h.2 o ob (fun hk=>by have:=Hp.at_lt ho; have:=hs o hk; omega) ho⟩
theorem HLe.fr_le {S:Nat->Prop} {a b c:Hp} (h:HLe a b) (k:Fr S b c) (hs:∀ o,S o->a.length<=o):HLe a c :=
 ⟨Nat.le_trans h.1 k.1,fun o ob ho=>k.2 o ob (fun hk=>by have:=Hp.at_lt ho; have:=hs o hk; omega) (h.2 o ob ho)⟩
theorem Fr.le_fr {S:Nat->Prop} {a b c:Hp} (h:Fr S a b) (k:HLe b c):Fr S a c:=⟨Nat.le_trans h.1 k.1,fun o ob hn ho=>k.2 o ob (h.2 o ob hn ho)⟩
theorem Fr.set {S:Nat->Prop} {a b:Hp} (h:Fr S a b) {o:Nat} (ho:S o\/a.length<=o) (x:Option Ob):Fr S a (List.set b o x) :=
 ⟨by rw [List.length_set]; exact h.1,fun o' ob hn h'=>by
  rw [Hp.at_set_ne (fun e=>by subst e; exact ho.elim hn (fun hl=>by have:=Hp.at_lt h'; omega))]
  exact h.2 o' ob hn h'⟩
theorem Fr.app {S:Nat->Prop} {a b:Hp} (h:Fr S a b) (l:Hp):Fr S a (b++l):=h.le_fr (HLe.self _ _)
theorem Rows.fr {S:Nat->Prop} {esz:Nat} {H H':Hp} {v:AV} {rows:List (List AV)} (h:Rows esz H v rows) (hf:Fr S H H') (hs:∀ o,v.of o->¬S o):Rows esz H' v rows:=by
 rcases h with h | h | ⟨o,i,ob,h1,h2,h3⟩
 ·exact .inl h
 ·exact .inr (.inl h)
 ·subst h1
  exact .inr (.inr ⟨o,i,ob,rfl,hf.2 o ob (hs o rfl) h2,h3⟩)
def Own (esz ety:Nat) (H:Hp) (v:AV) (R:List (List AV)):Prop :=
 (v=.nils/\R=[])\/(v=.sz/\R=[])\/∃ o ob,v=.sl o 0 R.length/\H.at o=some ob/\ob.ro=false/\ob.esz=esz/\ob.ety=ety/\R.length<=ob.rows.length/\ob.rows.take R.length=R
theorem Own.rows {esz ety:Nat} {H:Hp} {v:AV} {R:List (List AV)} (h:Own esz ety H v R):Rows esz H v R:=by
 rcases h with h | h | ⟨o,ob,rfl,h2,h3,h4,h5,h6,h7⟩
 ·exact .inl h
 ·exact .inr (.inl h)
 ·exact .inr (.inr ⟨o,0,ob,rfl,h2,h4,by omega,by simpa using h7⟩)
theorem Own.fr {S:Nat->Prop} {esz ety:Nat} {H H':Hp} {v:AV} {R:List (List AV)} (h:Own esz ety H v R) (hf:Fr S H H') (hs:∀ o,v.of o->¬S o):Own esz ety H' v R:=by
 rcases h with h | h | ⟨o,ob,h1,h2,h3⟩
 ·exact .inl h
 ·exact .inr (.inl h)
 ·subst h1
  exact .inr (.inr ⟨o,ob,rfl,hf.2 o ob (hs o rfl) h2,h3⟩)
theorem Own.le {esz ety:Nat} {H H':Hp} {v:AV} {R:List (List AV)} (h:Own esz ety H v R) (hf:HLe H H'):Own esz ety H' v R:=h.fr (hf.fr (S:=fun _=>False)) (fun _ _ h=>h)
theorem Own.nils {esz ety:Nat} {H:Hp}:Own esz ety H .nils []:=.inl ⟨rfl,rfl⟩
theorem Own.obj {esz ety:Nat} {H:Hp} {o n:Nat} {R:List (List AV)} (h:H.at o=some ⟨R,esz,ety,false⟩) (hn:n=R.length):Own esz ety H (.sl o 0 n) R :=
 .inr (.inr ⟨o,_,by rw [hn],h,rfl,rfl,rfl,Nat.le_refl _,by simp⟩)
theorem Own.lt {esz ety:Nat} {H:Hp} {v:AV} {R:List (List AV)} (h:Own esz ety H v R) {o:Nat} (ho:v.of o):o<H.length:=by
 rcases h with ⟨rfl,_⟩ | ⟨rfl,_⟩ | ⟨o',ob,rfl,h2,_⟩
 ·exact ho.elim
 ·exact ho.elim
 ·have:o'=o:=ho
  subst this
  exact Hp.at_lt h2
theorem Rows.lt {esz:Nat} {H:Hp} {v:AV} {R:List (List AV)} (h:Rows esz H v R) {o:Nat} (ho:v.of o):o<H.length:=by
 rcases h with ⟨rfl,_⟩ | ⟨rfl,_⟩ | ⟨o',i,ob,rfl,h2,_⟩
 ·exact ho.elim
 ·exact ho.elim
 ·have:o'=o:=ho
  subst this
  exact Hp.at_lt h2
@[simp] theorem AV.of_sl (o i n o':Nat):AV.of (.sl o i n) o'=(o=o'):=rfl
@[simp] theorem AV.of_nils (o':Nat):AV.of .nils o'=False:=rfl
@[simp] theorem AV.of_sz (o':Nat):AV.of .sz o'=False:=rfl
def appA (ety esz bytes:Nat) (x y:AV) (H:Hp):Option (AV × Hp):=stepA (fun _=>.un) H (.app ety esz bytes (.c x) (.c y))
theorem appA_own {ety esz bytes:Nat} {x y:AV} {H:Hp} {R R2:List (List AV)} (hx:Own esz ety H x R) (hy:Rows esz H y R2) (hb:(R.length+R2.length) * bytes<=140737488355328) :
  ∃ v H',appA ety esz bytes x y H=some (v,H')/\Own esz ety H' v (R++R2)/\Fr x.of H H'/\(∀ o,v.of o->x.of o\/H.length<=o):=by
 have hb2:R2.length * bytes<=140737488355328:=Nat.le_trans (Nat.mul_le_mul_right _ (by omega)) hb
 rcases hy with ⟨rfl,rfl⟩ | ⟨rfl,rfl⟩ | ⟨o2,i2,ob2,rfl,h2,h3,h4,h5⟩
 ·refine⟨x,H,?_,by simpa using hx,Fr.refl _ _,fun o h=>.inl h⟩
  rcases hx with ⟨rfl,rfl⟩ | ⟨rfl,rfl⟩ | ⟨o,ob,rfl,_⟩<;>simp [appA]
 ·refine⟨x,H,?_,by simpa using hx,Fr.refl _ _,fun o h=>.inl h⟩
  rcases hx with ⟨rfl,rfl⟩ | ⟨rfl,rfl⟩ | ⟨o,ob,rfl,_⟩<;>simp [appA]
 ·rcases hx with ⟨rfl,rfl⟩ | ⟨rfl,rfl⟩ | ⟨o,ob,rfl,k1,k2,k3,k4,k5,k6⟩
  ·by_cases hz:R2.length=0
   ·obtain rfl:=List.length_eq_zero_iff.1 hz
    exact⟨.nils,H,by simp [appA,h2,h3] at h4 ⊢; exact h4,Own.nils,Fr.refl _ _,fun o h=>.inl h⟩
   ·refine⟨.sl H.length 0 R2.length,H++[some ⟨R2,esz,ety,false⟩],by simp [appA,h2,h3,hz,h4,h5,hb2],Own.obj (by simp) rfl,(HLe.self _ _).fr,fun o h=>.inr (Nat.le_of_eq h)⟩
  ·by_cases hz:R2.length=0
   ·obtain rfl:=List.length_eq_zero_iff.1 hz
    exact⟨.sz,H,by simp [appA,h2,h3] at h4 ⊢; exact h4,.inr (.inl ⟨rfl,rfl⟩),Fr.refl _ _,fun o h=>.inl h⟩
   ·refine⟨.sl H.length 0 R2.length,H++[some ⟨R2,esz,ety,false⟩],by simp [appA,h2,h3,hz,h4,h5,hb2],Own.obj (by simp) rfl,(HLe.self _ _).fr,fun o h=>.inr (Nat.le_of_eq h)⟩
  ·refine⟨.sl H.length 0 (R++R2).length,(List.set H o none)++[some ⟨R++R2,esz,ety,false⟩],?_,Own.obj ?_ rfl,?_,fun o h=>.inr (Nat.le_of_eq h)⟩
   ·simp [appA,h2,h3,h4,h5,hb2,k1,k2,k3,k4,k5,k6,hb]
   ·have:(List.set H o none).length=H.length:=by simp
    rw [<- this,Hp.at_app_0]
    rfl
   ·refine ((Fr.refl _ H).set (.inl rfl) none).app _
def appG (x y:AV) (ety esz bytes:Nat) (C:CallP) (d:Option Nat) (ag:List (Option Nat × AOp × Option (Nat × Bool))) (p:Plan) (t:Tm) (H:Hp) (K:Tm->Hp->Prop):Prop :=
 optK (appA ety esz bytes x y H) (fun v H'=>againG ag (updO t d v) H'/\RgP C p (updO t d v) H' K)
@[simp] theorem R_appG (C:CallP) (t:Tm) (H:Hp) (K:Tm->Hp->Prop) (d:Option Nat) (pl:Plan) (ag) (e n m:Nat) (x y:Od) :
  RgP C (.st d (.app e n m x y) none ag pl) t H K=appG (x.ev t) (y.ev t) e n m C d ag pl t H K:=rfl
theorem appG_own {ety esz bytes:Nat} {x y:AV} {H:Hp} {R R2:List (List AV)} {C:CallP} {d:Option Nat} {ag:List (Option Nat × AOp × Option (Nat × Bool))} {p:Plan} {t:Tm} {K:Tm->Hp->Prop}
  (hx:Own esz ety H x R) (hy:Rows esz H y R2) (hb:(R.length+R2.length) * bytes<=140737488355328)
  (hk:∀ v H',Own esz ety H' v (R++R2)->Fr x.of H H'->(∀ o,v.of o->x.of o\/H.length<=o)->againG ag (updO t d v) H'/\RgP C p (updO t d v) H' K):appG x y ety esz bytes C d ag p t H K:=by
 obtain⟨v,H',h1,h2,h3,h4⟩:=appA_own hx hy hb
 unfold appG
 rw [h1]
 exact hk v H' h2 h3 h4
theorem appG_one {ety esz bytes:Nat} {x:AV} {row:List AV} {H:Hp} {R:List (List AV)} {C:CallP} {d:Option Nat} {ag:List (Option Nat × AOp × Option (Nat × Bool))} {p:Plan} {t:Tm} {K:Tm->Hp->Prop}
  (hx:Own esz ety H x R) (hb:(R.length+1) * bytes<=140737488355328)
  (hk:∀ v H',Own esz ety H' v (R++[row])->Fr x.of H H'->(∀ o,v.of o->x.of o\/H.length<=o)->againG ag (updO t d v) H'/\RgP C p (updO t d v) H' K) :
  appG x (.sl H.length 0 1) ety esz bytes C d ag p t (H++[some ⟨[row],esz,ety,false⟩]) K:=by
 refine appG_own (R2:=[row]) (hx.le (HLe.self _ _)) (Own.rows (ety:=ety) (Own.obj (by simp) rfl)) hb (fun v H' h1 h2 h3=>hk v H' h1 ?_ ?_)
 ·exact⟨Nat.le_trans (by simp) h2.1,fun o ob hn ho=>h2.2 o ob hn ((HLe.self _ _).2 o ob ho)⟩
 ·intro o ho
  rcases h3 o ho with h | h
  ·exact .inl h
  ·simp at h
   exact .inr (by omega)
def OwnM {α:Type} (esz ety:Nat) (row:α->List AV) (H0 H:Hp) (v:AV) (xs:List α):Prop:=Own esz ety H v (xs.map row)/\∀ o,v.of o->H0.length<=o
section
variable {α:Type} {esz ety bytes:Nat} {row:α->List AV} {H0 H H':Hp} {v x:AV} {xs:List α} {C:CallP} {d:Option Nat} {ag:List (Option Nat × AOp × Option (Nat × Bool))} {p:Plan} {t:Tm} {K:Tm->Hp->Prop}
theorem OwnM.rows (h:OwnM esz ety row H0 H v xs):Rows esz H v (xs.map row):=h.1.rows
theorem OwnM.len (h:OwnM esz ety row H0 H v xs):lenV v=.int .i64 xs.length:=by simpa using h.rows.len
theorem OwnM.slc (h:OwnM esz ety row H0 H v xs):slC v:=h.rows.slc
theorem OwnM.le (h:OwnM esz ety row H0 H v xs) (hle:HLe H H'):OwnM esz ety row H0 H' v xs:=⟨h.1.le hle,h.2⟩
theorem OwnM.fr {S:Nat->Prop} (h:OwnM esz ety row H0 H v xs) (hf:Fr S H H') (hs:∀ o,v.of o->¬S o):OwnM esz ety row H0 H' v xs:=⟨h.1.fr hf hs,h.2⟩
theorem OwnM.nils:OwnM esz ety row H0 H .nils []:=⟨Own.nils,by simp⟩
theorem OwnM.base {H1:Hp} (h:OwnM esz ety row H0 H v xs) (hl:H1.length<=H0.length):OwnM esz ety row H1 H v xs:=⟨h.1,fun o ho=>Nat.le_trans hl (h.2 o ho)⟩
theorem OwnM.lit0 (hle:HLe H0 H):OwnM esz ety row H0 (H++[some ⟨[],esz,ety,false⟩]) (.sl H.length 0 0) []:=⟨Own.obj (by simp) rfl,fun o ho=>by have:=hle.1; simp at ho; omega⟩
theorem appG_add {r:List AV} {y:α} (hx:OwnM esz ety row H0 H x xs) (hle:HLe H0 H) (hb:(xs.length+1) * bytes<=140737488355328) (hr:r=row y)
  (hk:∀ v H',HLe H0 H'->OwnM esz ety row H0 H' v (xs++[y])->Fr x.of H H'->(∀ o,v.of o->x.of o\/H.length<=o)->againG ag (updO t d v) H'/\RgP C p (updO t d v) H' K) :
  appG x (.sl H.length 0 1) ety esz bytes C d ag p t (H++[some ⟨[r],esz,ety,false⟩]) K:=by
 subst hr
 exact appG_one hx.1 (by simpa using hb) (fun v H' g1 g2 g3=>hk v H' (hle.fr_le g2 hx.2) ⟨by simpa using g1,fun o ho=>(g3 o ho).elim (hx.2 o) (fun h=>Nat.le_trans hle.1 h)⟩ g2 g3)
theorem appG_cat {y:AV} {ys:List α} (hx:OwnM esz ety row H0 H x xs) (hy:Rows esz H y (ys.map row)) (hle:HLe H0 H) (hb:(xs.length+ys.length) * bytes<=140737488355328)
  (hk:∀ v H',HLe H0 H'->OwnM esz ety row H0 H' v (xs++ys)->Fr x.of H H'->(∀ o,v.of o->x.of o\/H.length<=o)->againG ag (updO t d v) H'/\RgP C p (updO t d v) H' K) :
  appG x y ety esz bytes C d ag p t H K :=
 appG_own hx.1 hy (by simpa using hb) (fun v H' g1 g2 g3=>hk v H' (hle.fr_le g2 hx.2) ⟨by simpa using g1,fun o ho=>(g3 o ho).elim (hx.2 o) (fun h=>Nat.le_trans hle.1 h)⟩ g2 g3)
end
def cutG (v:AV) (lo hi:Option AV) (esz:Nat) (C:CallP) (d:Option Nat) (p:Plan) (t:Tm) (H:Hp) (K:Tm->Hp->Prop):Prop :=
 optK (stepA (fun _=>.un) H (.cut esz (.c v) (lo.map .c) (hi.map .c))) (fun u H'=>RgP C p (updO t d u) H' K)
@[simp] theorem R_cutG (C:CallP) (t:Tm) (H:Hp) (K:Tm->Hp->Prop) (d:Option Nat) (pl:Plan) (esz:Nat) (x:Od) (lo hi:Option Od) :
  RgP C (.st d (.cut esz x lo hi) none [] pl) t H K=cutG (x.ev t) (lo.map (·.ev t)) (hi.map (·.ev t)) esz C d pl t H K:=by
 have e:stepA t H (.cut esz x lo hi)=stepA (fun _=>.un) H (.cut esz (.c (x.ev t)) ((lo.map (·.ev t)).map .c) ((hi.map (·.ev t)).map .c)):=by
  cases lo<;>cases hi<;>rfl
 simp only [RgP,cutG,<- e]
 show stepK C t H (.cut esz x lo hi) _=_
 rw [stepK_opt rfl]
 simp
section
variable {esz ety:Nat} {H:Hp} {v:AV} {rows:List (List AV)} {C:CallP} {d:Option Nat} {p:Plan} {t:Tm} {K:Tm->Hp->Prop}
theorem cut_rows (h:Rows esz H v rows) (lo hi:Option AV) (l k:Nat) (hlo:lo=none/\l=0\/∃ q,lo=some (.int q l)) (hhi:hi=none/\k=rows.length\/∃ q,hi=some (.int q k)) (h1:l<=k) (h2:k<=rows.length) :
  ∃ u,stepA (fun _=>.un) H (.cut esz (.c v) (lo.map .c) (hi.map .c))=some (u,H)/\Rows esz H u ((rows.drop l).take (k-l))/\(∀ o,u.of o->v.of o)/\(l=0->∀ ety,Own esz ety H v rows->Own esz ety H u (rows.take k)):=by
 have el:∀ z,optI (fun _=>AV.un) z (lo.map .c)=some (if lo=none then z else l):=by
  intro z
  rcases hlo with ⟨rfl,_⟩ | ⟨q,rfl⟩<;>simp
 have eh:optI (fun _=>AV.un) rows.length (hi.map .c)=some (k:Int):=by
  rcases hhi with ⟨rfl,rfl⟩ | ⟨q,rfl⟩<;>simp
 have el0:optI (fun _=>AV.un) 0 (lo.map .c)=some (l:Int):=by
  rcases hlo with ⟨rfl,rfl⟩ | ⟨q,rfl⟩<;>simp
 rcases h with ⟨rfl,rfl⟩ | ⟨rfl,rfl⟩ | ⟨o,i,ob,rfl,a2,a3,a4,a5⟩
 ·have hk:k=0:=by simpa using h2
  subst hk
  have hl:l=0:=by omega
  subst hl
  refine⟨.nils,?_,by simpa using Rows.nil,fun o ho=>ho,fun _ ety h=>by simpa using h⟩
  have eh':optI (fun _=>AV.un) 0 (hi.map .c)=some 0:=by simpa using eh
  simp only [stepA,Od.ev,el0,eh',Option.bind_some]
  simp
 ·have hk:k=0:=by simpa using h2
  subst hk
  have hl:l=0:=by omega
  subst hl
  refine⟨.sz,?_,.inr (.inl ⟨rfl,by simp⟩),fun o ho=>ho,fun _ ety h=>by simpa using h⟩
  have eh':optI (fun _=>AV.un) 0 (hi.map .c)=some 0:=by simpa using eh
  simp only [stepA,Od.ev,el0,eh',Option.bind_some]
  simp
 ·refine⟨.sl o (i+l) (k-l),?_,.inr (.inr ⟨o,i+l,ob,?_,a2,a3,?_,?_⟩),fun o ho=>ho,?_⟩
  ·simp only [stepA,Od.ev,el0,eh,Option.bind_some,a2,a3,if_true]
   rw [if_pos ⟨by omega,by omega,by omega⟩]
   simp
  ·congr 1
   simp
   omega
  ·simp
   omega
  ·have e5:(ob.rows.drop i).take rows.length=rows:=a5
   have:((ob.rows.drop i).take rows.length).drop l=rows.drop l:=by rw [e5]
   rw [List.drop_take,List.drop_drop] at this
   have hlen:((rows.drop l).take (k-l)).length=k-l:=by simp; omega
   rw [hlen,<- this,List.take_take,Nat.min_eq_left (by omega)]
  ·intro hl0 ety ho
   subst hl0
   rcases ho with ⟨ho,_⟩ | ⟨ho,_⟩ | ⟨o',ob',ho,b2,b3,b4,b5,b6,b7⟩
   ·cases ho
   ·cases ho
   ·cases ho
    refine .inr (.inr ⟨o,ob',?_,b2,b3,b4,b5,?_,?_⟩)
    ·simp
     omega
    ·simp
     omega
    ·have:(ob'.rows.take rows.length).take k=rows.take k:=by rw [b7]
     rw [List.take_take,Nat.min_eq_left h2] at this
     rw [List.length_take,Nat.min_eq_left h2,this]
theorem cutG_rows (h:Rows esz H v rows) {lo hi:Option AV} (l k:Nat) (hlo:lo=none/\l=0\/∃ q,lo=some (.int q l)) (hhi:hi=none/\k=rows.length\/∃ q,hi=some (.int q k)) (h1:l<=k) (h2:k<=rows.length)
  (hk:∀ u,Rows esz H u ((rows.drop l).take (k-l))->(∀ o,u.of o->v.of o)->(l=0->∀ ety,Own esz ety H v rows->Own esz ety H u (rows.take k))->RgP C p (updO t d u) H K):cutG v lo hi esz C d p t H K:=by
 obtain⟨u,e1,e2,e3,e4⟩:=cut_rows h lo hi l k hlo hhi h1 h2
 unfold cutG
 rw [e1]
 exact hk u e2 e3 e4
theorem cutG_from (h:Rows esz H v rows) {z:Int} (l:Nat) (hz:z=l) (h2:l<=rows.length) (hk:∀ u,Rows esz H u (rows.drop l)->(∀ o,u.of o->v.of o)->RgP C p (updO t d u) H K):cutG v (some (.int .i64 z)) none esz C d p t H K :=
 cutG_rows h l rows.length (.inr ⟨_,by rw [hz]⟩) (.inl ⟨rfl,rfl⟩) h2 (Nat.le_refl _) (fun u h1 h2 _=>hk u (by
  rw [List.take_of_length_le (by simp)] at h1
  exact h1) h2)
theorem cutG_upto (h:Rows esz H v rows) {z:Int} (k:Nat) (hz:z=k) (h2:k<=rows.length) (hk:∀ u,Rows esz H u (rows.take k)->(∀ o,u.of o->v.of o)->(∀ ety,Own esz ety H v rows->Own esz ety H u (rows.take k))->RgP C p (updO t d u) H K):cutG v none (some (.int .i64 z)) esz C d p t H K :=
 cutG_rows h 0 k (.inl ⟨rfl,rfl⟩) (.inr ⟨_,by rw [hz]⟩) (Nat.zero_le _) h2 (fun u h1 h2 h3=>hk u (by simpa using h1) h2 (h3 rfl))
end
end Go.Proofs.YtepeokaplbbpoaaGreat.B

namespace Go.Proofs.YtepeokaplbbpoaaGreat.B
open Go.RowKit
set_option linter.unusedVariables false
set_option linter.unusedSimpArgs false
def keyOk (k:ByteArray):Bool:=decide ((∀ i:Nat,i<k.size->97<=bt k i/\bt k i<=100)/\k.size<=5)
def keysOk (ks:List ByteArray):Bool:=decide ((∀ i:Nat,∀ h:i<ks.length,keyOk ks[i]=true/\∀ h0:0<i,sless ks[i-1] ks[i]=true)/\ks.length<=24)
structure Ent where
 key:ByteArray
 val:Int
 gone:Bool
 time:Int
deriving DecidableEq,Inhabited
def entRow (e:Ent):List AV:=[.str e.key,.int .i64 e.val,.bool e.gone,.int .i64 e.time]
def entOk (e:Ent):Bool:=keyOk e.key&&decide (0<=e.val/\e.val<=99)&&(!e.gone||decide (e.val=0))&&decide (1<=e.time/\e.time<=999)
def ahead (a b:Ent):Bool:=sless a.key b.key||decide (a.key=b.key)&&decide (b.time<a.time)
def runOk (r:List Ent):Bool:=decide ((∀ i:Nat,∀ h:i<r.length,entOk r[i]=true/\∀ h0:0<i,ahead r[i-1] r[i]=true)/\r.length<=40)
def Ents (H:Hp) (v:AV) (es:List Ent):Prop:=Rows 4 H v (es.map entRow)
theorem Ents.len {H:Hp} {v:AV} {es:List Ent} (h:Ents H v es):lenV v=.int .i64 es.length:=by simpa using Rows.len h
theorem Ents.slc {H:Hp} {v:AV} {es:List Ent} (h:Ents H v es):slC v:=Rows.slc h
theorem Ents.le {H H':Hp} {v:AV} {es:List Ent} (h:Ents H v es) (hle:HLe H H'):Ents H' v es:=Rows.le h hle
theorem Ents.get {H:Hp} {v:AV} {es:List Ent} (h:Ents H v es) {j:Nat} (hj:j<es.length) :
  ∃ o i ob,v=.sl o i es.length/\H.at o=some ob/\ob.esz=4/\ob.rows[i+j]?=some [.str es[j].key,.int .i64 es[j].val,.bool es[j].gone,.int .i64 es[j].time]:=by
 obtain⟨o,i,ob,h1,h2,h3,h4⟩:=Rows.get h (j:=j) (by simpa using hj)
 exact⟨o,i,ob,by simpa using h1,h2,h3,by simpa [entRow] using h4⟩
def Short (es:List Ent):Prop:=∀ e∈es,e.key.size<4611686018427387904
theorem Short.get {es:List Ent} (h:Short es) {j:Nat} (hj:j<es.length):es[j].key.size<4611686018427387904:=h _ (List.getElem_mem hj)
def putD (k:ByteArray) (ks:List ByteArray):Bool:=ks.any (fun x=>sless k x)
def putP (k:ByteArray) (ks:List ByteArray):List ByteArray:=ks.takeWhile (fun x=>!sless k x)++(if putD k ks=true then k :: ks.dropWhile (fun x=>!sless k x) else [])
def putK (k:ByteArray) (ks:List ByteArray):List ByteArray:=if ks.any (fun x=>decide (x=k))=true then ks else putP k ks++(if putD k ks=true then [] else [k])
theorem putD_app (k x:ByteArray) (ks:List ByteArray):putD k (ks++[x])=(putD k ks||sless k x):=by simp [putD]
theorem putP_none {k:ByteArray} {ks:List ByteArray} (h:putD k ks=false):putP k ks=ks:=by
 have hl:∀ ys:List ByteArray,(∀ x∈ys,sless k x=false)->ys.takeWhile (fun x=>!sless k x)=ys:=by
  intro ys hy
  induction ys with
  | nil=>rfl
  | cons y ys ih=>rw [List.takeWhile_cons,hy y (by simp),ih (fun x hx=>hy x (List.mem_cons_of_mem _ hx))]; rfl
 have h2:∀ x∈ks,sless k x=false:=by
  intro x hx
  simp only [putD,List.any_eq_false] at h
  simpa using h x hx
 simp [putP,h,hl ks h2]
theorem tw_app {p:ByteArray->Bool} {ks:List ByteArray} (x:ByteArray) (h:∃ y∈ks,p y=false):(ks++[x]).takeWhile p=ks.takeWhile p/\(ks++[x]).dropWhile p=ks.dropWhile p++[x]:=by
 induction ks with
 | nil=>simp at h
 | cons y ys ih =>
  simp only [List.cons_append,List.takeWhile_cons,List.dropWhile_cons]
  cases hy:p y with
  | false=>simp
  | true =>
   have:∃ y∈ys,p y=false:=by
    obtain⟨z,hz,hp⟩:=h
    rcases List.mem_cons.1 hz with rfl | hz
    ·rw [hy] at hp; cases hp
    ·exact⟨z,hz,hp⟩
   simp [ih this]
theorem putP_app (k x:ByteArray) (ks:List ByteArray):putP k (ks++[x])=putP k ks++(if (!putD k ks&&sless k x)=true then [k,x] else [x]):=by
 cases hd:putD k ks with
 | true =>
  have hex:∃ y∈ks,(fun x=>!sless k x) y=false:=by
   simp only [putD,List.any_eq_true] at hd
   obtain⟨y,hy,hp⟩:=hd
   exact⟨y,hy,by simp [hp]⟩
  obtain⟨h1,h2⟩:=tw_app (p:=fun x=>!sless k x) x hex
  simp only [putP,h1,h2,putD_app,hd]
  simp
 | false =>
  cases hx:sless k x with
  | false =>
   have:putD k (ks++[x])=false:=by rw [putD_app,hd,hx]; rfl
   rw [putP_none this,putP_none hd]
   simp
  | true =>
   have h2:putD k (ks++[x])=true:=by rw [putD_app,hx,Bool.or_true]
   have h3:=putP_none hd
   have e:∀ ys:List ByteArray,(∀ z∈ys,sless k z=false)->(ys++[x]).takeWhile (fun x=>!sless k x)=ys/\(ys++[x]).dropWhile (fun x=>!sless k x)=[x]:=by
    intro ys hy
    induction ys with
    | nil=>simp [hx]
    | cons y ys ih =>
     obtain⟨i1,i2⟩:=ih (fun z hz=>hy z (List.mem_cons_of_mem _ hz))
     simp [hy y (by simp),i1,i2]
   obtain⟨e1,e2⟩:=e ks (by
    intro z hz
    simp only [putD,List.any_eq_false] at hd
    simpa using hd z hz)
   rw [h3]
   simp only [putP,h2,e1,e2]
   simp
theorem putP_len (k:ByteArray) (ks:List ByteArray):(putP k ks).length<=ks.length+1:=by
 have:ks.takeWhile (fun x=>!sless k x)++ks.dropWhile (fun x=>!sless k x)=ks:=List.takeWhile_append_dropWhile
 have:=congrArg List.length this
 simp only [List.length_append] at this
 unfold putP
 split<;>simp<;>omega
theorem putK_in {k:ByteArray} {ks:List ByteArray} (h:k∈ks):putK k ks=ks:=if_pos (List.any_eq_true.2 ⟨k,h,by simp⟩)
theorem putK_out {k:ByteArray} {ks:List ByteArray} (h:k ∉ ks):putK k ks=putP k ks++(if putD k ks=true then [] else [k]):=if_neg (fun hh=>by
 obtain⟨x,hx,he⟩:=List.any_eq_true.1 hh
 simp at he
 exact h (he ▸ hx))
theorem putK_len (k:ByteArray) (ks:List ByteArray):(putK k ks).length<=ks.length+1:=by
 unfold putK
 split
 ·omega
 ·cases h:putD k ks
  ·rw [putP_none h]; simp
  ·have:=putP_len k ks; simpa using this
def joinL:List Ent->List Ent->List Ent
 | avs,[]=>avs
 | avs,b :: bs=>avs.takeWhile (fun a=>ahead a b)++b :: joinL (avs.dropWhile (fun a=>ahead a b)) bs
def lit1 (c:UInt8):ByteArray:=⟨#[c]⟩
end Go.Proofs.YtepeokaplbbpoaaGreat.B

namespace Go.Proofs.YtepeokaplbbpoaaGreat.B
open Go.Proofs
theorem fol:Tryz.prog.follows .mixedOrders=true:=by kernel_rfl
def Z1 (d:Nat) (o:AOp) (p:Plan):Plan:=.st (some d) o none [] p
@[simp] theorem Z1_def (d:Nat) (o:AOp) (p:Plan):Z1 d o p=.st (some d) o none [] p:=rfl
def c_spec_l6Open:CF:=⟨11,(.seq (.plan (Z1 2 (.mv (.c .nilp)) .fin)) (.seq (.seq (.plan (Z1 3 (.mv (.t 0)) (Z1 4 (.len (.t 3)) (Z1 5 (.bin .gtr (.t 4) (.c (.int .i64 2000))) .fin)))) (.cond (.t 5) (.plan (Z1 6 (.mv (.t 0)) (Z1 7 (.cut 1 (.t 6) none (some (.c (.int .i64 2000)))) (Z1 0 (.mv (.t 7)) .fin)))) .skip)) (.seq (.plan (Z1 8 (.mv (.t 0)) (Z1 9 (.build [.nils,(.int .i64 0)] [(0,(1,(.t 8)))]) (Z1 10 (.box 111 2 (.t 9)) (Z1 2 (.mv (.t 10)) .fin))))) .ret))),[(.t 2)]⟩
theorem h_spec_l6Open:compF Tryz.prog 46=some c_spec_l6Open:=by kernel_rfl
def c_spec_l6Rd_pick:CF:=⟨99,(.seq (.plan (Z1 4 (.mv (.c (.int .i64 0))) .fin)) (.seq (.plan (Z1 7 (.mv (.t 0)) (Z1 8 (.mv (.t 0)) (Z1 9 (.nck (.t 8)) (Z1 10 (.fa 1 (.t 9)) (Z1 11 (.ld (.t 10)) (Z1 12 (.bin .add (.t 11) (.c (.int .i64 1))) (Z1 13 (.nck (.t 7)) (Z1 14 (.fa 1 (.t 13)) (.st none (.st 1 (.t 14) (.t 12)) none [] .fin)))))))))) (.seq (.seq (.plan (Z1 15 (.mv (.t 1)) (Z1 16 (.bin .lss (.t 15) (.c (.int .i64 1))) (Z1 17 (.mv (.t 16)) (.st (some 18) (.mv (.t 0)) (some (17,false)) [] (.st (some 19) (.nck (.t 18)) (some (17,false)) [] (.st (some 20) (.fa 0 (.t 19)) (some (17,false)) [] (.st (some 21) (.ld (.t 20)) (some (17,false)) [] (.st (some 22) (.len (.t 21)) (some (17,false)) [] (.st (some 23) (.bin .eql (.t 22) (.c (.int .i64 0))) (some (17,false)) [] (Z1 24 (.pick (.t 17) (.c (.bool true)) (.t 23)) .fin))))))))))) (.cond (.t 24) (.seq (.plan (Z1 4 (.mv (.c (.int .i64 0))) .fin)) .ret) .skip)) (.seq (.plan (Z1 25 (.mv (.t 0)) (Z1 26 (.nck (.t 25)) (Z1 27 (.fa 1 (.t 26)) (Z1 28 (.ld (.t 27)) (Z1 29 (.bin .sub (.t 28) (.c (.int .i64 1))) (Z1 5 (.mv (.t 29)) .fin))))))) (.seq (.seq (.plan (Z1 30 (.mv (.t 5)) (Z1 31 (.mv (.t 0)) (Z1 32 (.nck (.t 31)) (Z1 33 (.fa 0 (.t 32)) (Z1 34 (.ld (.t 33)) (Z1 35 (.len (.t 34)) (Z1 36 (.bin .lss (.t 30) (.t 35)) .fin)))))))) (.cond (.t 36) (.seq (.plan (Z1 37 (.mv (.t 0)) (Z1 38 (.nck (.t 37)) (Z1 39 (.fa 0 (.t 38)) (Z1 40 (.ld (.t 39)) (Z1 41 (.mv (.t 5)) (Z1 42 (.ia 1 (.t 40) (.t 41)) (Z1 43 (.ld (.t 42)) (Z1 44 (.cv .i64 (.t 43)) (Z1 45 (.mv (.t 1)) (Z1 46 (.bin .rem (.t 44) (.t 45)) (Z1 4 (.mv (.t 46)) .fin)))))))))))) .ret) .skip)) (.seq (.plan (Z1 47 (.mv (.t 0)) (Z1 48 (.nck (.t 47)) (Z1 49 (.fa 0 (.t 48)) (Z1 50 (.ld (.t 49)) (Z1 51 (.mv (.t 5)) (Z1 52 (.mv (.t 0)) (Z1 53 (.nck (.t 52)) (Z1 54 (.fa 0 (.t 53)) (Z1 55 (.ld (.t 54)) (Z1 56 (.len (.t 55)) (Z1 57 (.bin .rem (.t 51) (.t 56)) (Z1 58 (.ia 1 (.t 50) (.t 57)) (Z1 59 (.ld (.t 58)) (Z1 60 (.cv .i64 (.t 59)) (Z1 61 (.bin .mul (.t 60) (.c (.int .i64 131))) (Z1 62 (.mv (.t 0)) (Z1 63 (.nck (.t 62)) (Z1 64 (.fa 0 (.t 63)) (Z1 65 (.ld (.t 64)) (Z1 66 (.mv (.t 5)) (Z1 67 (.bin .mul (.t 66) (.c (.int .i64 7))) (Z1 68 (.bin .add (.t 67) (.c (.int .i64 3))) (Z1 69 (.mv (.t 0)) (Z1 70 (.nck (.t 69)) (Z1 71 (.fa 0 (.t 70)) (Z1 72 (.ld (.t 71)) (Z1 73 (.len (.t 72)) (Z1 74 (.bin .rem (.t 68) (.t 73)) (Z1 75 (.ia 1 (.t 65) (.t 74)) (Z1 76 (.ld (.t 75)) (Z1 77 (.cv .i64 (.t 76)) (Z1 78 (.bin .mul (.t 77) (.c (.int .i64 1117))) (Z1 79 (.bin .add (.t 61) (.t 78)) (Z1 80 (.mv (.t 5)) (Z1 81 (.bin .mul (.t 80) (.c (.int .i64 29))) (Z1 82 (.bin .add (.t 79) (.t 81)) (Z1 83 (.mv (.t 5)) (Z1 84 (.mv (.t 0)) (Z1 85 (.nck (.t 84)) (Z1 86 (.fa 0 (.t 85)) (Z1 87 (.ld (.t 86)) (Z1 88 (.len (.t 87)) (Z1 89 (.bin .quo (.t 83) (.t 88)) (Z1 90 (.bin .mul (.t 89) (.c (.int .i64 53))) (Z1 91 (.bin .add (.t 82) (.t 90)) (Z1 6 (.mv (.t 91)) .fin))))))))))))))))))))))))))))))))))))))))))))))) (.seq (.plan (Z1 92 (.mv (.t 6)) (Z1 93 (.mv (.t 6)) (Z1 94 (.bin .quo (.t 93) (.c (.int .i64 64))) (Z1 95 (.bin .xor (.t 92) (.t 94)) (Z1 6 (.mv (.t 95)) .fin)))))) (.seq (.plan (Z1 96 (.mv (.t 6)) (Z1 97 (.mv (.t 1)) (Z1 98 (.bin .rem (.t 96) (.t 97)) (Z1 4 (.mv (.t 98)) .fin))))) .ret)))))))),[(.t 4)]⟩
theorem h_spec_l6Rd_pick:compF Tryz.prog 59=some c_spec_l6Rd_pick:=by kernel_rfl
def c_spec_l6In:CF:=⟨15,(.seq (.plan (Z1 6 (.mv (.c (.bool false))) .fin)) (.seq (.plan (Z1 7 (.mv (.t 0)) (Z1 8 (.mv (.t 1)) (Z1 9 (.bin .geq (.t 7) (.t 8)) (Z1 10 (.mv (.t 9)) (.st (some 11) (.mv (.t 0)) (some (10,true)) [] (.st (some 12) (.mv (.t 2)) (some (10,true)) [] (.st (some 13) (.bin .leq (.t 11) (.t 12)) (some (10,true)) [] (Z1 14 (.pick (.t 10) (.t 13) (.c (.bool false))) (Z1 6 (.mv (.t 14)) .fin)))))))))) .ret)),[(.t 6)]⟩
theorem h_spec_l6In:compF Tryz.prog 60=some c_spec_l6In:=by kernel_rfl
def c_spec_StoreNew:CF:=⟨33,(.seq (.plan (Z1 2 (.alloc 28 [.nils,.nils,.nils,(.int .i64 0),(.int .i64 0),.nils]) (Z1 3 (.mv (.c (.bool false))) .fin))) (.seq (.seq (.plan (Z1 6 (.mv (.t 0)) (Z1 7 (.call 60 [(.t 6),(.c (.int .i64 0)),(.c (.int .i64 5))]) (Z1 8 (.not (.t 7)) .fin)))) (.cond (.t 8) (.seq (.plan (Z1 9 (.build [.nils,.nils,.nils,(.int .i64 0),(.int .i64 0),.nils] []) (.st none (.st 6 (.t 2) (.t 9)) none [] (Z1 3 (.mv (.c (.bool false))) .fin)))) .ret) .skip)) (.seq (.plan (Z1 10 (.lit 45 4 0 [] []) (Z1 11 (.mv (.t 0)) (Z1 12 (.lit 3 1 0 [] []) (Z1 13 (.build [.nils,.nils,.nils,(.int .i64 0),(.int .i64 0),.nils] [(0,(1,(.t 10))),(3,(1,(.t 11))),(5,(1,(.t 12)))]) (Z1 4 (.alloc 28 [.nils,.nils,.nils,(.int .i64 0),(.int .i64 0),.nils]) (.st none (.st 6 (.t 4) (.t 13)) none [] .fin))))))) (.seq (.seq (.plan (Z1 5 (.mv (.c (.int .i64 0))) .fin)) (.block 0 (.loop (.seq (.seq (.plan (Z1 14 (.mv (.t 5)) (Z1 15 (.bin .lss (.t 14) (.c (.int .i64 3))) .fin))) (.cond (.t 15) .skip (.exit 0))) (.seq (.block 1 (.seq (.plan (Z1 18 (.fa 1 (.t 4)) (Z1 19 (.ld (.t 18)) (Z1 20 (.lit 45 4 0 [] []) (Z1 21 (.lit 23 1 1 [.nils] [(0,(1,(.t 20)))]) (Z1 22 (.app 23 1 24 (.t 19) (.t 21)) (Z1 23 (.fa 1 (.t 4)) (.st none (.st 1 (.t 23) (.t 22)) none [] .fin)))))))) (.plan (Z1 24 (.fa 2 (.t 4)) (Z1 25 (.ld (.t 24)) (Z1 26 (.lit 9 1 0 [] []) (Z1 27 (.mv (.t 0)) (Z1 28 (.build [(.str ⟨#[]⟩),(.str ⟨#[]⟩),(.str ⟨#[]⟩),.nils,(.int .i64 0)] [(3,(1,(.t 26))),(4,(1,(.t 27)))]) (Z1 29 (.lit 76 5 1 [(.str ⟨#[]⟩),(.str ⟨#[]⟩),(.str ⟨#[]⟩),.nils,(.int .i64 0)] [(0,(5,(.t 28)))]) (Z1 30 (.app 76 5 80 (.t 25) (.t 29)) (Z1 31 (.fa 2 (.t 4)) (.st none (.st 1 (.t 31) (.t 30)) none [] .fin)))))))))))) (.plan (Z1 16 (.mv (.t 5)) (Z1 17 (.bin .add (.t 16) (.c (.int .i64 1))) (Z1 5 (.mv (.t 17)) .fin))))))))) (.seq (.plan (Z1 32 (.lda 6 (.t 4)) (.st none (.st 6 (.t 2) (.t 32)) none [] (Z1 3 (.mv (.c (.bool true))) .fin)))) .ret))))),[(.ca 2 6),(.t 3)]⟩
theorem h_spec_StoreNew:compF Tryz.prog 85=some c_spec_StoreNew:=by kernel_rfl
def c_spec_l6Rd_of:CF:=⟨12,(.seq (.plan (Z1 4 (.mv (.c (.str ⟨#[]⟩))) .fin)) (.seq (.plan (Z1 5 (.mv (.t 1)) (Z1 6 (.mv (.t 0)) (Z1 7 (.mv (.t 1)) (Z1 8 (.len (.t 7)) (Z1 9 (.call 59 [(.t 6),(.t 8)]) (Z1 10 (.ia 1 (.t 5) (.t 9)) (Z1 11 (.ld (.t 10)) (Z1 4 (.mv (.t 11)) .fin))))))))) .ret)),[(.t 4)]⟩
theorem h_spec_l6Rd_of:compF Tryz.prog 139=some c_spec_l6Rd_of:=by kernel_rfl
def c_spec_l71Key:CF:=⟨17,(.seq (.plan (Z1 2 (.mv (.c (.str ⟨#[]⟩))) .fin)) (.seq (.plan (Z1 3 (.mv (.c (.str ⟨#[]⟩))) .fin)) (.seq (.seq (.plan (Z1 5 (.mv (.t 0)) (Z1 6 (.call 59 [(.t 5),(.c (.int .i64 6))]) (Z1 4 (.mv (.t 6)) .fin)))) (.block 0 (.loop (.seq (.seq (.plan (Z1 7 (.mv (.t 4)) (Z1 8 (.bin .gtr (.t 7) (.c (.int .i64 0))) .fin))) (.cond (.t 8) .skip (.exit 0))) (.seq (.block 1 (.plan (Z1 11 (.mv (.t 3)) (Z1 12 (.mv (.t 0)) (Z1 13 (.lit 9 1 5 [(.str ⟨#[]⟩),(.str ⟨#[]⟩),(.str ⟨#[]⟩),(.str ⟨#[]⟩),(.str ⟨#[]⟩)] [(0,(1,(.c (.str ⟨#[97]⟩)))),(1,(1,(.c (.str ⟨#[98]⟩)))),(2,(1,(.c (.str ⟨#[97]⟩)))),(3,(1,(.c (.str ⟨#[99]⟩)))),(4,(1,(.c (.str ⟨#[100]⟩))))]) (Z1 14 (.call 139 [(.t 12),(.t 13)]) (Z1 15 (.bin .add (.t 11) (.t 14)) (Z1 3 (.mv (.t 15)) .fin)))))))) (.plan (Z1 9 (.mv (.t 4)) (Z1 10 (.bin .sub (.t 9) (.c (.int .i64 1))) (Z1 4 (.mv (.t 10)) .fin))))))))) (.seq (.plan (Z1 16 (.mv (.t 3)) (Z1 2 (.mv (.t 16)) .fin))) .ret)))),[(.t 2)]⟩
theorem h_spec_l71Key:compF Tryz.prog 99=some c_spec_l71Key:=by kernel_rfl
def c_spec_l71Near:CF:=⟨45,(.seq (.plan (Z1 4 (.mv (.c (.str ⟨#[]⟩))) .fin)) (.seq (.seq (.plan (Z1 6 (.mv (.t 1)) (Z1 7 (.len (.t 6)) (Z1 8 (.bin .eql (.t 7) (.c (.int .i64 0))) (Z1 9 (.mv (.t 8)) (.st (some 10) (.mv (.t 0)) (some (9,false)) [] (.st (some 11) (.call 59 [(.t 10),(.c (.int .i64 4))]) (some (9,false)) [] (.st (some 12) (.bin .eql (.t 11) (.c (.int .i64 0))) (some (9,false)) [] (Z1 13 (.pick (.t 9) (.c (.bool true)) (.t 12)) .fin))))))))) (.cond (.t 13) (.seq (.plan (Z1 14 (.mv (.t 0)) (Z1 15 (.call 99 [(.t 14)]) (Z1 4 (.mv (.t 15)) .fin)))) .ret) .skip)) (.seq (.plan (Z1 16 (.mv (.t 1)) (Z1 17 (.mv (.t 0)) (Z1 18 (.mv (.t 1)) (Z1 19 (.len (.t 18)) (Z1 20 (.call 59 [(.t 17),(.t 19)]) (Z1 21 (.ia 1 (.t 16) (.t 20)) (Z1 22 (.ld (.t 21)) (Z1 5 (.mv (.t 22)) .fin))))))))) (.seq (.seq (.plan (Z1 23 (.mv (.t 0)) (Z1 24 (.call 59 [(.t 23),(.c (.int .i64 4))]) .fin))) (.block 0 (.seq (.plan (Z1 26 (.bin .eql (.t 24) (.c (.int .i64 0))) (Z1 25 (.mv (.t 26)) .fin))) (.cond (.t 25) (.seq (.plan (Z1 27 (.mv (.t 5)) (Z1 28 (.mv (.t 0)) (Z1 29 (.mv (.t 5)) (Z1 30 (.lns (.t 29)) (Z1 31 (.bin .add (.t 30) (.c (.int .i64 1))) (Z1 32 (.call 59 [(.t 28),(.t 31)]) (Z1 33 (.cuts (.t 27) none (some (.t 32))) (Z1 4 (.mv (.t 33)) .fin))))))))) .ret) (.seq (.plan (Z1 35 (.bin .eql (.t 24) (.c (.int .i64 1))) (Z1 34 (.mv (.t 35)) .fin))) (.cond (.t 34) (.seq (.plan (Z1 36 (.mv (.t 5)) (Z1 37 (.lns (.t 36)) (Z1 38 (.bin .lss (.t 37) (.c (.int .i64 5))) .fin)))) (.cond (.t 38) (.seq (.plan (Z1 39 (.mv (.t 5)) (Z1 40 (.mv (.t 0)) (Z1 41 (.lit 9 1 3 [(.str ⟨#[]⟩),(.str ⟨#[]⟩),(.str ⟨#[]⟩)] [(0,(1,(.c (.str ⟨#[97]⟩)))),(1,(1,(.c (.str ⟨#[98]⟩)))),(2,(1,(.c (.str ⟨#[100]⟩))))]) (Z1 42 (.call 139 [(.t 40),(.t 41)]) (Z1 43 (.bin .add (.t 39) (.t 42)) (Z1 4 (.mv (.t 43)) .fin))))))) .ret) .skip)) .skip)))))) (.seq (.plan (Z1 44 (.mv (.t 5)) (Z1 4 (.mv (.t 44)) .fin))) .ret))))),[(.t 4)]⟩
theorem h_spec_l71Near:compF Tryz.prog 100=some c_spec_l71Near:=by kernel_rfl
def c_spec_l2Put:CF:=⟨50,(.seq (.plan (Z1 4 (.mv (.c .nils)) .fin)) (.seq (.plan (Z1 8 (.lit 9 1 0 [] []) (Z1 5 (.mv (.t 8)) .fin))) (.seq (.plan (Z1 6 (.mv (.c (.bool false))) .fin)) (.seq (.seq (.plan (Z1 7 (.mv (.c (.int .i64 0))) .fin)) (.block 0 (.loop (.seq (.seq (.plan (Z1 9 (.mv (.t 7)) (Z1 10 (.mv (.t 0)) (Z1 11 (.len (.t 10)) (Z1 12 (.bin .lss (.t 9) (.t 11)) .fin))))) (.cond (.t 12) .skip (.exit 0))) (.seq (.block 1 (.seq (.seq (.plan (Z1 15 (.mv (.t 0)) (Z1 16 (.mv (.t 7)) (Z1 17 (.ia 1 (.t 15) (.t 16)) (Z1 18 (.ld (.t 17)) (Z1 19 (.mv (.t 1)) (Z1 20 (.bin .eql (.t 18) (.t 19)) .fin))))))) (.cond (.t 20) (.seq (.plan (Z1 21 (.mv (.t 0)) (Z1 4 (.mv (.t 21)) .fin))) .ret) .skip)) (.seq (.seq (.plan (Z1 22 (.mv (.t 6)) (Z1 23 (.not (.t 22)) (Z1 24 (.mv (.t 23)) (.st (some 25) (.mv (.t 0)) (some (24,true)) [] (.st (some 26) (.mv (.t 7)) (some (24,true)) [] (.st (some 27) (.ia 1 (.t 25) (.t 26)) (some (24,true)) [] (.st (some 28) (.ld (.t 27)) (some (24,true)) [] (.st (some 29) (.mv (.t 1)) (some (24,true)) [] (.st (some 30) (.bin .gtr (.t 28) (.t 29)) (some (24,true)) [] (Z1 31 (.pick (.t 24) (.t 30) (.c (.bool false))) .fin))))))))))) (.cond (.t 31) (.seq (.plan (Z1 32 (.mv (.t 5)) (Z1 33 (.mv (.t 1)) (Z1 34 (.lit 9 1 1 [(.str ⟨#[]⟩)] [(0,(1,(.t 33)))]) (Z1 35 (.app 9 1 16 (.t 32) (.t 34)) (Z1 5 (.mv (.t 35)) .fin)))))) (.plan (Z1 6 (.mv (.c (.bool true))) .fin))) .skip)) (.plan (Z1 36 (.mv (.t 5)) (Z1 37 (.mv (.t 0)) (Z1 38 (.mv (.t 7)) (Z1 39 (.ia 1 (.t 37) (.t 38)) (Z1 40 (.ld (.t 39)) (Z1 41 (.lit 9 1 1 [(.str ⟨#[]⟩)] [(0,(1,(.t 40)))]) (Z1 42 (.app 9 1 16 (.t 36) (.t 41)) (Z1 5 (.mv (.t 42)) .fin)))))))))))) (.plan (Z1 13 (.mv (.t 7)) (Z1 14 (.bin .add (.t 13) (.c (.int .i64 1))) (Z1 7 (.mv (.t 14)) .fin))))))))) (.seq (.seq (.plan (Z1 43 (.mv (.t 6)) (Z1 44 (.not (.t 43)) .fin))) (.cond (.t 44) (.plan (Z1 45 (.mv (.t 5)) (Z1 46 (.mv (.t 1)) (Z1 47 (.lit 9 1 1 [(.str ⟨#[]⟩)] [(0,(1,(.t 46)))]) (Z1 48 (.app 9 1 16 (.t 45) (.t 47)) (Z1 5 (.mv (.t 48)) .fin)))))) .skip)) (.seq (.plan (Z1 49 (.mv (.t 5)) (Z1 4 (.mv (.t 49)) .fin))) .ret)))))),[(.t 4)]⟩
theorem h_spec_l2Put:compF Tryz.prog 97=some c_spec_l2Put:=by kernel_rfl
def c_spec_l71Keys:CF:=⟨22,(.seq (.plan (Z1 4 (.mv (.c .nils)) .fin)) (.seq (.plan (Z1 7 (.lit 9 1 0 [] []) (Z1 5 (.mv (.t 7)) .fin))) (.seq (.seq (.plan (Z1 8 (.mv (.t 0)) (Z1 9 (.mv (.t 1)) (Z1 10 (.bin .add (.t 9) (.c (.int .i64 1))) (Z1 11 (.call 59 [(.t 8),(.t 10)]) (Z1 6 (.mv (.t 11)) .fin)))))) (.block 0 (.loop (.seq (.seq (.plan (Z1 12 (.mv (.t 6)) (Z1 13 (.bin .gtr (.t 12) (.c (.int .i64 0))) .fin))) (.cond (.t 13) .skip (.exit 0))) (.seq (.block 1 (.plan (Z1 16 (.mv (.t 5)) (Z1 17 (.mv (.t 0)) (Z1 18 (.mv (.t 5)) (Z1 19 (.call 100 [(.t 17),(.t 18)]) (Z1 20 (.call 97 [(.t 16),(.t 19)]) (Z1 5 (.mv (.t 20)) .fin)))))))) (.plan (Z1 14 (.mv (.t 6)) (Z1 15 (.bin .sub (.t 14) (.c (.int .i64 1))) (Z1 6 (.mv (.t 15)) .fin))))))))) (.seq (.plan (Z1 21 (.mv (.t 5)) (Z1 4 (.mv (.t 21)) .fin))) .ret)))),[(.t 4)]⟩
theorem h_spec_l71Keys:compF Tryz.prog 126=some c_spec_l71Keys:=by kernel_rfl
def c_spec_l71Deed:CF:=⟨39,(.seq (.plan (Z1 4 (.alloc 56 [(.int .i64 0),(.str ⟨#[]⟩),(.int .i64 0)]) .fin)) (.seq (.seq (.plan (Z1 5 (.mv (.t 0)) (Z1 6 (.call 59 [(.t 5),(.c (.int .i64 10))]) .fin))) (.block 0 (.seq (.seq (.plan (Z1 8 (.bin .eql (.t 6) (.c (.int .i64 0))) (Z1 7 (.mv (.t 8)) .fin))) (.cond (.t 7) .skip (.seq (.plan (Z1 9 (.bin .eql (.t 6) (.c (.int .i64 1))) (Z1 7 (.mv (.t 9)) .fin))) (.cond (.t 7) .skip (.seq (.plan (Z1 10 (.bin .eql (.t 6) (.c (.int .i64 2))) (Z1 7 (.mv (.t 10)) .fin))) (.cond (.t 7) .skip (.seq (.plan (Z1 11 (.bin .eql (.t 6) (.c (.int .i64 3))) (Z1 7 (.mv (.t 11)) .fin))) (.cond (.t 7) .skip (.plan (Z1 12 (.bin .eql (.t 6) (.c (.int .i64 4))) (Z1 7 (.mv (.t 12)) .fin))))))))))) (.cond (.t 7) (.seq (.plan (Z1 13 (.mv (.t 0)) (Z1 14 (.mv (.t 1)) (Z1 15 (.call 100 [(.t 13),(.t 14)]) (Z1 16 (.mv (.t 0)) (Z1 17 (.call 59 [(.t 16),(.c (.int .i64 100))]) (Z1 18 (.build [(.int .i64 0),(.str ⟨#[]⟩),(.int .i64 0)] [(0,(1,(.c (.int .i64 1)))),(1,(1,(.t 15))),(2,(1,(.t 17)))]) (.st none (.st 3 (.t 4) (.t 18)) none [] .fin)))))))) .ret) (.seq (.plan (Z1 20 (.bin .eql (.t 6) (.c (.int .i64 5))) (Z1 19 (.mv (.t 20)) .fin))) (.cond (.t 19) (.seq (.plan (Z1 21 (.mv (.t 0)) (Z1 22 (.mv (.t 1)) (Z1 23 (.call 100 [(.t 21),(.t 22)]) (Z1 24 (.build [(.int .i64 0),(.str ⟨#[]⟩),(.int .i64 0)] [(0,(1,(.c (.int .i64 2)))),(1,(1,(.t 23)))]) (.st none (.st 3 (.t 4) (.t 24)) none [] .fin)))))) .ret) (.seq (.plan (Z1 26 (.bin .eql (.t 6) (.c (.int .i64 6))) (Z1 25 (.mv (.t 26)) .fin))) (.cond (.t 25) (.seq (.plan (Z1 27 (.build [(.int .i64 0),(.str ⟨#[]⟩),(.int .i64 0)] [(0,(1,(.c (.int .i64 3))))]) (.st none (.st 3 (.t 4) (.t 27)) none [] .fin))) .ret) (.seq (.plan (Z1 29 (.bin .eql (.t 6) (.c (.int .i64 7))) (Z1 28 (.mv (.t 29)) .fin))) (.cond (.t 28) (.seq (.plan (Z1 30 (.mv (.t 0)) (Z1 31 (.call 59 [(.t 30),(.c (.int .i64 20))]) (Z1 32 (.build [(.int .i64 0),(.str ⟨#[]⟩),(.int .i64 0)] [(0,(1,(.c (.int .i64 4)))),(2,(1,(.t 31)))]) (.st none (.st 3 (.t 4) (.t 32)) none [] .fin))))) .ret) (.seq (.plan (Z1 34 (.bin .eql (.t 6) (.c (.int .i64 8))) (Z1 33 (.mv (.t 34)) .fin))) (.cond (.t 33) (.seq (.plan (Z1 35 (.build [(.int .i64 0),(.str ⟨#[]⟩),(.int .i64 0)] [(0,(1,(.c (.int .i64 5))))]) (.st none (.st 3 (.t 4) (.t 35)) none [] .fin))) .ret) .skip)))))))))))) (.seq (.plan (Z1 36 (.mv (.t 0)) (Z1 37 (.call 59 [(.t 36),(.c (.int .i64 3))]) (Z1 38 (.build [(.int .i64 0),(.str ⟨#[]⟩),(.int .i64 0)] [(0,(1,(.c (.int .i64 6)))),(2,(1,(.t 37)))]) (.st none (.st 3 (.t 4) (.t 38)) none [] .fin))))) .ret))),[(.ca 4 3)]⟩
theorem h_spec_l71Deed:compF Tryz.prog 127=some c_spec_l71Deed:=by kernel_rfl
def c_spec_l71Deeds:CF:=⟨36,(.seq (.plan (Z1 4 (.mv (.c .nils)) .fin)) (.seq (.plan (Z1 8 (.mv (.t 0)) (Z1 9 (.call 126 [(.t 8),(.c (.int .i64 5))]) (Z1 5 (.mv (.t 9)) .fin)))) (.seq (.plan (Z1 10 (.lit 56 3 0 [] []) (Z1 6 (.mv (.t 10)) .fin))) (.seq (.seq (.plan (Z1 11 (.mv (.t 0)) (Z1 12 (.mv (.t 1)) (Z1 13 (.bin .add (.t 12) (.c (.int .i64 1))) (Z1 14 (.call 59 [(.t 11),(.t 13)]) (Z1 7 (.mv (.t 14)) .fin)))))) (.block 0 (.loop (.seq (.seq (.plan (Z1 15 (.mv (.t 7)) (Z1 16 (.bin .gtr (.t 15) (.c (.int .i64 0))) .fin))) (.cond (.t 16) .skip (.exit 0))) (.seq (.block 1 (.plan (Z1 19 (.mv (.t 6)) (Z1 20 (.mv (.t 0)) (Z1 21 (.mv (.t 5)) (Z1 22 (.call 127 [(.t 20),(.t 21)]) (Z1 23 (.lit 56 3 1 [(.int .i64 0),(.str ⟨#[]⟩),(.int .i64 0)] [(0,(3,(.t 22)))]) (Z1 24 (.app 56 3 32 (.t 19) (.t 23)) (Z1 6 (.mv (.t 24)) .fin))))))))) (.plan (Z1 17 (.mv (.t 7)) (Z1 18 (.bin .sub (.t 17) (.c (.int .i64 1))) (Z1 7 (.mv (.t 18)) .fin))))))))) (.seq (.seq (.plan (Z1 25 (.mv (.t 0)) (Z1 26 (.call 59 [(.t 25),(.c (.int .i64 24))]) (Z1 27 (.bin .eql (.t 26) (.c (.int .i64 0))) .fin)))) (.cond (.t 27) (.seq (.plan (Z1 28 (.mv (.t 6)) (Z1 29 (.mv (.t 0)) (Z1 30 (.call 59 [(.t 29),(.c (.int .i64 9))]) (Z1 31 (.bin .sub (.t 30) (.c (.int .i64 1))) (Z1 32 (.build [(.int .i64 0),(.str ⟨#[]⟩),(.int .i64 0)] [(0,(1,(.t 31))),(1,(1,(.c (.str ⟨#[120]⟩)))),(2,(1,(.c (.int .i64 (-1)))))]) (Z1 33 (.lit 56 3 1 [(.int .i64 0),(.str ⟨#[]⟩),(.int .i64 0)] [(0,(3,(.t 32)))]) (Z1 34 (.app 56 3 32 (.t 28) (.t 33)) (Z1 4 (.mv (.t 34)) .fin))))))))) .ret) .skip)) (.seq (.plan (Z1 35 (.mv (.t 6)) (Z1 4 (.mv (.t 35)) .fin))) .ret)))))),[(.t 4)]⟩
theorem h_spec_l71Deeds:compF Tryz.prog 86=some c_spec_l71Deeds:=by kernel_rfl
def c_spec_l12Times:CF:=⟨38,(.seq (.plan (Z1 4 (.mv (.c (.bool false))) .fin)) (.seq (.seq (.plan (Z1 5 (.mv (.c (.int .i64 0))) .fin)) (.block 0 (.loop (.seq (.seq (.plan (Z1 6 (.mv (.t 5)) (Z1 7 (.mv (.t 0)) (Z1 8 (.len (.t 7)) (Z1 9 (.bin .lss (.t 6) (.t 8)) .fin))))) (.cond (.t 9) .skip (.exit 0))) (.seq (.block 1 (.seq (.plan (Z1 12 (.mv (.t 0)) (Z1 13 (.mv (.t 5)) (Z1 14 (.ia 1 (.t 12) (.t 13)) (Z1 15 (.ld (.t 14)) (Z1 16 (.mv (.t 1)) (Z1 17 (.call 60 [(.t 15),(.c (.int .i64 0)),(.t 16)]) (Z1 18 (.not (.t 17)) (Z1 19 (.mv (.t 18)) (.st (some 20) (.mv (.t 5)) (some (19,false)) [] (.st (some 21) (.bin .gtr (.t 20) (.c (.int .i64 0))) (some (19,false)) [] (.st (some 22) (.mv (.t 21)) (some (19,false)) [] (.st (some 23) (.mv (.t 0)) (some (22,true)) [] (.st (some 24) (.mv (.t 5)) (some (22,true)) [] (.st (some 25) (.bin .sub (.t 24) (.c (.int .i64 1))) (some (22,true)) [] (.st (some 26) (.ia 1 (.t 23) (.t 25)) (some (22,true)) [] (.st (some 27) (.ld (.t 26)) (some (22,true)) [] (.st (some 28) (.mv (.t 0)) (some (22,true)) [] (.st (some 29) (.mv (.t 5)) (some (22,true)) [] (.st (some 30) (.ia 1 (.t 28) (.t 29)) (some (22,true)) [] (.st (some 31) (.ld (.t 30)) (some (22,true)) [] (.st (some 32) (.bin .geq (.t 27) (.t 31)) (some (22,true)) [] (.st (some 33) (.pick (.t 22) (.t 32) (.c (.bool false))) (some (19,false)) [] (Z1 34 (.pick (.t 19) (.c (.bool true)) (.t 33)) .fin)))))))))))))))))))))))) (.cond (.t 34) (.seq (.plan (Z1 4 (.mv (.c (.bool false))) .fin)) .ret) .skip))) (.plan (Z1 10 (.mv (.t 5)) (Z1 11 (.bin .add (.t 10) (.c (.int .i64 1))) (Z1 5 (.mv (.t 11)) .fin))))))))) (.seq (.plan (Z1 35 (.mv (.t 0)) (Z1 36 (.len (.t 35)) (Z1 37 (.bin .leq (.t 36) (.c (.int .i64 3))) (Z1 4 (.mv (.t 37)) .fin))))) .ret))),[(.t 4)]⟩
theorem h_spec_l12Times:compF Tryz.prog 89=some c_spec_l12Times:=by kernel_rfl
def c_spec_KeyOk:CF:=⟨19,(.seq (.plan (Z1 2 (.mv (.c (.bool false))) .fin)) (.seq (.seq (.plan (Z1 3 (.mv (.c (.int .i64 0))) .fin)) (.block 0 (.loop (.seq (.seq (.plan (Z1 4 (.mv (.t 3)) (Z1 5 (.mv (.t 0)) (Z1 6 (.lns (.t 5)) (Z1 7 (.bin .lss (.t 4) (.t 6)) .fin))))) (.cond (.t 7) .skip (.exit 0))) (.seq (.block 1 (.seq (.plan (Z1 10 (.mv (.t 0)) (Z1 11 (.mv (.t 3)) (Z1 12 (.ix (.t 10) (.t 11)) (Z1 13 (.cv .i64 (.t 12)) (Z1 14 (.call 60 [(.t 13),(.c (.int .i64 97)),(.c (.int .i64 100))]) (Z1 15 (.not (.t 14)) .fin))))))) (.cond (.t 15) (.seq (.plan (Z1 2 (.mv (.c (.bool false))) .fin)) .ret) .skip))) (.plan (Z1 8 (.mv (.t 3)) (Z1 9 (.bin .add (.t 8) (.c (.int .i64 1))) (Z1 3 (.mv (.t 9)) .fin))))))))) (.seq (.plan (Z1 16 (.mv (.t 0)) (Z1 17 (.lns (.t 16)) (Z1 18 (.bin .leq (.t 17) (.c (.int .i64 5))) (Z1 2 (.mv (.t 18)) .fin))))) .ret))),[(.t 2)]⟩
theorem h_spec_KeyOk:compF Tryz.prog 43=some c_spec_KeyOk:=by kernel_rfl
def c_spec_l11Ok:CF:=⟨26,(.seq (.plan (Z1 1 (.box 45 4 (.t 0)) (Z1 2 (.mv (.c (.bool false))) .fin))) (.seq (.plan (Z1 3 (.fa 0 (.t 1)) (Z1 4 (.ld (.t 3)) (Z1 5 (.call 43 [(.t 4)]) (Z1 6 (.mv (.t 5)) (.st (some 7) (.fa 1 (.t 1)) (some (6,true)) [] (.st (some 8) (.ld (.t 7)) (some (6,true)) [] (.st (some 9) (.call 60 [(.t 8),(.c (.int .i64 0)),(.c (.int .i64 99))]) (some (6,true)) [] (Z1 10 (.pick (.t 6) (.t 9) (.c (.bool false))) (Z1 11 (.mv (.t 10)) (.st (some 12) (.fa 2 (.t 1)) (some (11,true)) [] (.st (some 13) (.ld (.t 12)) (some (11,true)) [] (.st (some 14) (.not (.t 13)) (some (11,true)) [] (.st (some 15) (.mv (.t 14)) (some (11,true)) [] (.st (some 16) (.fa 1 (.t 1)) (some (15,false)) [] (.st (some 17) (.ld (.t 16)) (some (15,false)) [] (.st (some 18) (.bin .eql (.t 17) (.c (.int .i64 0))) (some (15,false)) [] (.st (some 19) (.pick (.t 15) (.c (.bool true)) (.t 18)) (some (11,true)) [] (Z1 20 (.pick (.t 11) (.t 19) (.c (.bool false))) (Z1 21 (.mv (.t 20)) (.st (some 22) (.fa 3 (.t 1)) (some (21,true)) [] (.st (some 23) (.ld (.t 22)) (some (21,true)) [] (.st (some 24) (.call 60 [(.t 23),(.c (.int .i64 1)),(.c (.int .i64 999))]) (some (21,true)) [] (Z1 25 (.pick (.t 21) (.t 24) (.c (.bool false))) (Z1 2 (.mv (.t 25)) .fin))))))))))))))))))))))))) .ret)),[(.t 2)]⟩
theorem h_spec_l11Ok:compF Tryz.prog 124=some c_spec_l11Ok:=by kernel_rfl
def c_spec_l11Ahead:CF:=⟨24,(.seq (.plan (Z1 2 (.box 45 4 (.t 0)) (Z1 3 (.box 45 4 (.t 1)) (Z1 4 (.mv (.c (.bool false))) .fin)))) (.seq (.plan (Z1 5 (.fa 0 (.t 2)) (Z1 6 (.ld (.t 5)) (Z1 7 (.fa 0 (.t 3)) (Z1 8 (.ld (.t 7)) (Z1 9 (.bin .lss (.t 6) (.t 8)) (Z1 10 (.mv (.t 9)) (.st (some 11) (.fa 0 (.t 2)) (some (10,false)) [] (.st (some 12) (.ld (.t 11)) (some (10,false)) [] (.st (some 13) (.fa 0 (.t 3)) (some (10,false)) [] (.st (some 14) (.ld (.t 13)) (some (10,false)) [] (.st (some 15) (.bin .eql (.t 12) (.t 14)) (some (10,false)) [] (.st (some 16) (.mv (.t 15)) (some (10,false)) [] (.st (some 17) (.fa 3 (.t 2)) (some (16,true)) [] (.st (some 18) (.ld (.t 17)) (some (16,true)) [] (.st (some 19) (.fa 3 (.t 3)) (some (16,true)) [] (.st (some 20) (.ld (.t 19)) (some (16,true)) [] (.st (some 21) (.bin .gtr (.t 18) (.t 20)) (some (16,true)) [] (.st (some 22) (.pick (.t 16) (.t 21) (.c (.bool false))) (some (10,false)) [] (Z1 23 (.pick (.t 10) (.c (.bool true)) (.t 22)) (Z1 4 (.mv (.t 23)) .fin))))))))))))))))))))) .ret)),[(.t 4)]⟩
theorem h_spec_l11Ahead:compF Tryz.prog 130=some c_spec_l11Ahead:=by kernel_rfl
def c_spec_RunOk:CF:=⟨36,(.seq (.plan (Z1 2 (.mv (.c (.bool false))) .fin)) (.seq (.seq (.plan (Z1 3 (.mv (.c (.int .i64 0))) .fin)) (.block 0 (.loop (.seq (.seq (.plan (Z1 4 (.mv (.t 3)) (Z1 5 (.mv (.t 0)) (Z1 6 (.len (.t 5)) (Z1 7 (.bin .lss (.t 4) (.t 6)) .fin))))) (.cond (.t 7) .skip (.exit 0))) (.seq (.block 1 (.seq (.plan (Z1 10 (.mv (.t 0)) (Z1 11 (.mv (.t 3)) (Z1 12 (.ia 4 (.t 10) (.t 11)) (Z1 13 (.lda 4 (.t 12)) (Z1 14 (.call 124 [(.t 13)]) (Z1 15 (.not (.t 14)) (Z1 16 (.mv (.t 15)) (.st (some 17) (.mv (.t 3)) (some (16,false)) [] (.st (some 18) (.bin .gtr (.t 17) (.c (.int .i64 0))) (some (16,false)) [] (.st (some 19) (.mv (.t 18)) (some (16,false)) [] (.st (some 20) (.mv (.t 0)) (some (19,true)) [] (.st (some 21) (.mv (.t 3)) (some (19,true)) [] (.st (some 22) (.bin .sub (.t 21) (.c (.int .i64 1))) (some (19,true)) [] (.st (some 23) (.ia 4 (.t 20) (.t 22)) (some (19,true)) [] (.st (some 24) (.lda 4 (.t 23)) (some (19,true)) [] (.st (some 25) (.mv (.t 0)) (some (19,true)) [] (.st (some 26) (.mv (.t 3)) (some (19,true)) [] (.st (some 27) (.ia 4 (.t 25) (.t 26)) (some (19,true)) [] (.st (some 28) (.lda 4 (.t 27)) (some (19,true)) [] (.st (some 29) (.call 130 [(.t 24),(.t 28)]) (some (19,true)) [] (.st (some 30) (.not (.t 29)) (some (19,true)) [] (.st (some 31) (.pick (.t 19) (.t 30) (.c (.bool false))) (some (16,false)) [] (Z1 32 (.pick (.t 16) (.c (.bool true)) (.t 31)) .fin)))))))))))))))))))))))) (.cond (.t 32) (.seq (.plan (Z1 2 (.mv (.c (.bool false))) .fin)) .ret) .skip))) (.plan (Z1 8 (.mv (.t 3)) (Z1 9 (.bin .add (.t 8) (.c (.int .i64 1))) (Z1 3 (.mv (.t 9)) .fin))))))))) (.seq (.plan (Z1 33 (.mv (.t 0)) (Z1 34 (.len (.t 33)) (Z1 35 (.bin .leq (.t 34) (.c (.int .i64 40))) (Z1 2 (.mv (.t 35)) .fin))))) .ret))),[(.t 2)]⟩
theorem h_spec_RunOk:compF Tryz.prog 90=some c_spec_RunOk:=by kernel_rfl
def c_spec_l12Size:CF:=⟨6,(.seq (.plan (Z1 2 (.mv (.c (.int .i64 0))) .fin)) (.seq (.plan (Z1 3 (.mv (.t 0)) (Z1 4 (.bin .add (.t 3) (.c (.int .i64 1))) (Z1 5 (.bin .mul (.c (.int .i64 8)) (.t 4)) (Z1 2 (.mv (.t 5)) .fin))))) .ret)),[(.t 2)]⟩
theorem h_spec_l12Size:compF Tryz.prog 111=some c_spec_l12Size:=by kernel_rfl
def c_spec_l11Keys:CF:=⟨37,(.seq (.plan (Z1 2 (.mv (.c .nils)) .fin)) (.seq (.plan (Z1 5 (.lit 9 1 0 [] []) (Z1 3 (.mv (.t 5)) .fin))) (.seq (.seq (.plan (Z1 4 (.mv (.c (.int .i64 0))) .fin)) (.block 0 (.loop (.seq (.seq (.plan (Z1 6 (.mv (.t 4)) (Z1 7 (.mv (.t 0)) (Z1 8 (.len (.t 7)) (Z1 9 (.bin .lss (.t 6) (.t 8)) .fin))))) (.cond (.t 9) .skip (.exit 0))) (.seq (.block 1 (.seq (.plan (Z1 12 (.mv (.t 4)) (Z1 13 (.bin .eql (.t 12) (.c (.int .i64 0))) (Z1 14 (.mv (.t 13)) (.st (some 15) (.mv (.t 0)) (some (14,false)) [] (.st (some 16) (.mv (.t 4)) (some (14,false)) [] (.st (some 17) (.bin .sub (.t 16) (.c (.int .i64 1))) (some (14,false)) [] (.st (some 18) (.ia 4 (.t 15) (.t 17)) (some (14,false)) [] (.st (some 19) (.fa 0 (.t 18)) (some (14,false)) [] (.st (some 20) (.ld (.t 19)) (some (14,false)) [] (.st (some 21) (.mv (.t 0)) (some (14,false)) [] (.st (some 22) (.mv (.t 4)) (some (14,false)) [] (.st (some 23) (.ia 4 (.t 21) (.t 22)) (some (14,false)) [] (.st (some 24) (.fa 0 (.t 23)) (some (14,false)) [] (.st (some 25) (.ld (.t 24)) (some (14,false)) [] (.st (some 26) (.bin .neq (.t 20) (.t 25)) (some (14,false)) [] (Z1 27 (.pick (.t 14) (.c (.bool true)) (.t 26)) .fin))))))))))))))))) (.cond (.t 27) (.plan (Z1 28 (.mv (.t 3)) (Z1 29 (.mv (.t 0)) (Z1 30 (.mv (.t 4)) (Z1 31 (.ia 4 (.t 29) (.t 30)) (Z1 32 (.fa 0 (.t 31)) (Z1 33 (.ld (.t 32)) (Z1 34 (.lit 9 1 1 [(.str ⟨#[]⟩)] [(0,(1,(.t 33)))]) (Z1 35 (.app 9 1 16 (.t 28) (.t 34)) (Z1 3 (.mv (.t 35)) .fin)))))))))) .skip))) (.plan (Z1 10 (.mv (.t 4)) (Z1 11 (.bin .add (.t 10) (.c (.int .i64 1))) (Z1 4 (.mv (.t 11)) .fin))))))))) (.seq (.plan (Z1 36 (.mv (.t 3)) (Z1 2 (.mv (.t 36)) .fin))) .ret)))),[(.t 2)]⟩
theorem h_spec_l11Keys:compF Tryz.prog 95=some c_spec_l11Keys:=by kernel_rfl
def c_spec_KeysOk:CF:=⟨35,(.seq (.plan (Z1 2 (.mv (.c (.bool false))) .fin)) (.seq (.seq (.plan (Z1 3 (.mv (.c (.int .i64 0))) .fin)) (.block 0 (.loop (.seq (.seq (.plan (Z1 4 (.mv (.t 3)) (Z1 5 (.mv (.t 0)) (Z1 6 (.len (.t 5)) (Z1 7 (.bin .lss (.t 4) (.t 6)) .fin))))) (.cond (.t 7) .skip (.exit 0))) (.seq (.block 1 (.seq (.plan (Z1 10 (.mv (.t 0)) (Z1 11 (.mv (.t 3)) (Z1 12 (.ia 1 (.t 10) (.t 11)) (Z1 13 (.ld (.t 12)) (Z1 14 (.call 43 [(.t 13)]) (Z1 15 (.not (.t 14)) (Z1 16 (.mv (.t 15)) (.st (some 17) (.mv (.t 3)) (some (16,false)) [] (.st (some 18) (.bin .gtr (.t 17) (.c (.int .i64 0))) (some (16,false)) [] (.st (some 19) (.mv (.t 18)) (some (16,false)) [] (.st (some 20) (.mv (.t 0)) (some (19,true)) [] (.st (some 21) (.mv (.t 3)) (some (19,true)) [] (.st (some 22) (.bin .sub (.t 21) (.c (.int .i64 1))) (some (19,true)) [] (.st (some 23) (.ia 1 (.t 20) (.t 22)) (some (19,true)) [] (.st (some 24) (.ld (.t 23)) (some (19,true)) [] (.st (some 25) (.mv (.t 0)) (some (19,true)) [] (.st (some 26) (.mv (.t 3)) (some (19,true)) [] (.st (some 27) (.ia 1 (.t 25) (.t 26)) (some (19,true)) [] (.st (some 28) (.ld (.t 27)) (some (19,true)) [] (.st (some 29) (.bin .geq (.t 24) (.t 28)) (some (19,true)) [] (.st (some 30) (.pick (.t 19) (.t 29) (.c (.bool false))) (some (16,false)) [] (Z1 31 (.pick (.t 16) (.c (.bool true)) (.t 30)) .fin))))))))))))))))))))))) (.cond (.t 31) (.seq (.plan (Z1 2 (.mv (.c (.bool false))) .fin)) .ret) .skip))) (.plan (Z1 8 (.mv (.t 3)) (Z1 9 (.bin .add (.t 8) (.c (.int .i64 1))) (Z1 3 (.mv (.t 9)) .fin))))))))) (.seq (.plan (Z1 32 (.mv (.t 0)) (Z1 33 (.len (.t 32)) (Z1 34 (.bin .leq (.t 33) (.c (.int .i64 24))) (Z1 2 (.mv (.t 34)) .fin))))) .ret))),[(.t 2)]⟩
theorem h_spec_KeysOk:compF Tryz.prog 154=some c_spec_KeysOk:=by kernel_rfl
def c_spec_l3Letter:CF:=⟨14,(.seq (.plan (Z1 4 (.mv (.c (.str ⟨#[]⟩))) .fin)) (.seq (.seq (.plan (Z1 5 (.mv (.t 1)) (Z1 6 (.mv (.t 0)) (Z1 7 (.lns (.t 6)) (Z1 8 (.bin .geq (.t 5) (.t 7)) .fin))))) (.cond (.t 8) (.seq (.plan (Z1 4 (.mv (.c (.str ⟨#[45]⟩))) .fin)) .ret) .skip)) (.seq (.plan (Z1 9 (.mv (.t 0)) (Z1 10 (.mv (.t 1)) (Z1 11 (.mv (.t 1)) (Z1 12 (.bin .add (.t 11) (.c (.int .i64 1))) (Z1 13 (.cuts (.t 9) (some (.t 10)) (some (.t 12))) (Z1 4 (.mv (.t 13)) .fin))))))) .ret))),[(.t 4)]⟩
theorem h_spec_l3Letter:compF Tryz.prog 188=some c_spec_l3Letter:=by kernel_rfl
def c_spec_l3Group:CF:=⟨38,(.seq (.plan (Z1 1 (.box 157 2 (.t 0)) (Z1 2 (.mv (.c .nils)) .fin))) (.seq (.plan (Z1 5 (.lit 9 1 0 [] []) (Z1 3 (.mv (.t 5)) .fin))) (.seq (.seq (.plan (Z1 4 (.mv (.c (.int .i64 0))) .fin)) (.block 0 (.loop (.seq (.seq (.plan (Z1 6 (.mv (.t 4)) (Z1 7 (.fa 0 (.t 1)) (Z1 8 (.ld (.t 7)) (Z1 9 (.len (.t 8)) (Z1 10 (.bin .lss (.t 6) (.t 9)) .fin)))))) (.cond (.t 10) .skip (.exit 0))) (.seq (.block 1 (.seq (.plan (Z1 13 (.fa 0 (.t 1)) (Z1 14 (.ld (.t 13)) (Z1 15 (.mv (.t 4)) (Z1 16 (.ia 1 (.t 14) (.t 15)) (Z1 17 (.ld (.t 16)) (Z1 18 (.fa 1 (.t 1)) (Z1 19 (.ld (.t 18)) (Z1 21 (.fa 0 (.t 1)) (Z1 22 (.ld (.t 21)) (Z1 23 (.ia 1 (.t 22) (.c (.int .i64 0))) (Z1 24 (.ld (.t 23)) (Z1 25 (.fa 1 (.t 1)) (Z1 26 (.ld (.t 25)) (.st (some 20) (.call 188 [(.t 17),(.t 19)]) none [((some 26),((.ld (.t 25)),none)),((some 24),((.ld (.t 23)),none)),((some 23),((.ia 1 (.t 22) (.c (.int .i64 0))),none)),((some 22),((.ld (.t 21)),none))] (Z1 27 (.call 188 [(.t 24),(.t 26)]) (Z1 28 (.bin .eql (.t 20) (.t 27)) .fin))))))))))))))))) (.cond (.t 28) (.plan (Z1 29 (.mv (.t 3)) (Z1 30 (.fa 0 (.t 1)) (Z1 31 (.ld (.t 30)) (Z1 32 (.mv (.t 4)) (Z1 33 (.ia 1 (.t 31) (.t 32)) (Z1 34 (.ld (.t 33)) (Z1 35 (.lit 9 1 1 [(.str ⟨#[]⟩)] [(0,(1,(.t 34)))]) (Z1 36 (.app 9 1 16 (.t 29) (.t 35)) (Z1 3 (.mv (.t 36)) .fin)))))))))) .skip))) (.plan (Z1 11 (.mv (.t 4)) (Z1 12 (.bin .add (.t 11) (.c (.int .i64 1))) (Z1 4 (.mv (.t 12)) .fin))))))))) (.seq (.plan (Z1 37 (.mv (.t 3)) (Z1 2 (.mv (.t 37)) .fin))) .ret)))),[(.t 2)]⟩
theorem h_spec_l3Group:compF Tryz.prog 187=some c_spec_l3Group:=by kernel_rfl
def c_spec_l3Rest:CF:=⟨21,(.seq (.plan (Z1 6 (.mv (.c (.str ⟨#[]⟩))) .fin)) (.seq (.seq (.plan (Z1 8 (.mv (.t 1)) (Z1 9 (.mv (.t 0)) (Z1 10 (.lns (.t 9)) (Z1 11 (.bin .geq (.t 8) (.t 10)) .fin))))) (.cond (.t 11) (.seq (.plan (Z1 6 (.mv (.c (.str ⟨#[]⟩))) .fin)) .ret) .skip)) (.seq (.plan (Z1 12 (.mv (.t 0)) (Z1 13 (.mv (.t 1)) (Z1 14 (.cuts (.t 12) (some (.t 13)) none) (Z1 7 (.mv (.t 14)) .fin))))) (.seq (.plan (Z1 15 (.mv (.t 7)) (Z1 16 (.mv (.t 7)) (Z1 17 (.lns (.t 16)) (Z1 18 (.mv (.t 2)) (Z1 19 (.mn (.t 17) (.t 18)) (Z1 20 (.cuts (.t 15) none (some (.t 19))) (Z1 6 (.mv (.t 20)) .fin)))))))) .ret)))),[(.t 6)]⟩
theorem h_spec_l3Rest:compF Tryz.prog 189=some c_spec_l3Rest:=by kernel_rfl
def c_spec_l3Put:CF:=⟨74,(.seq (.plan (Z1 2 (.box 76 5 (.t 0)) (Z1 3 (.box 157 2 (.t 1)) (Z1 4 (.alloc 76 [(.str ⟨#[]⟩),(.str ⟨#[]⟩),(.str ⟨#[]⟩),.nils,(.int .i64 0)]) (Z1 5 (.mv (.c .nils)) .fin))))) (.seq (.plan (Z1 10 (.lit 157 2 0 [] []) (Z1 6 (.mv (.t 10)) .fin))) (.seq (.plan (Z1 7 (.mv (.c (.str ⟨#[49]⟩))) .fin)) (.seq (.block 0 (.loop (.seq (.seq (.plan (Z1 11 (.fa 0 (.t 3)) (Z1 12 (.ld (.t 11)) (Z1 13 (.len (.t 12)) (Z1 14 (.bin .gtr (.t 13) (.c (.int .i64 0))) .fin))))) (.cond (.t 14) .skip (.exit 0))) (.block 1 (.seq (.plan (Z1 15 (.lda 2 (.t 3)) (Z1 16 (.call 187 [(.t 15)]) (Z1 8 (.mv (.t 16)) .fin)))) (.seq (.plan (Z1 17 (.mv (.t 8)) (Z1 18 (.ia 1 (.t 17) (.c (.int .i64 0))) (Z1 19 (.ld (.t 18)) (Z1 20 (.fa 1 (.t 3)) (Z1 21 (.ld (.t 20)) (Z1 22 (.call 188 [(.t 19),(.t 21)]) (Z1 9 (.mv (.t 22)) .fin)))))))) (.seq (.plan (Z1 23 (.fa 0 (.t 2)) (Z1 24 (.ld (.t 23)) (Z1 25 (.mv (.t 9)) (Z1 26 (.bin .add (.t 24) (.t 25)) (Z1 27 (.fa 0 (.t 2)) (.st none (.st 1 (.t 27) (.t 26)) none [] .fin))))))) (.seq (.plan (Z1 28 (.fa 2 (.t 2)) (Z1 29 (.ld (.t 28)) (Z1 30 (.mv (.t 7)) (Z1 31 (.bin .add (.t 29) (.t 30)) (Z1 32 (.fa 2 (.t 2)) (.st none (.st 1 (.t 32) (.t 31)) none [] .fin))))))) (.seq (.plan (Z1 7 (.mv (.c (.str ⟨#[48]⟩))) .fin)) (.seq (.seq (.plan (Z1 33 (.mv (.t 8)) (Z1 34 (.len (.t 33)) (Z1 35 (.bin .gtr (.t 34) (.c (.int .i64 1))) .fin)))) (.cond (.t 35) (.seq (.plan (Z1 36 (.fa 1 (.t 2)) (Z1 37 (.ld (.t 36)) (Z1 38 (.bin .add (.t 37) (.c (.str ⟨#[49]⟩))) (Z1 39 (.fa 1 (.t 2)) (.st none (.st 1 (.t 39) (.t 38)) none [] .fin)))))) (.plan (Z1 40 (.mv (.t 6)) (Z1 41 (.mv (.t 8)) (Z1 42 (.fa 1 (.t 3)) (Z1 43 (.ld (.t 42)) (Z1 44 (.bin .add (.t 43) (.c (.int .i64 1))) (Z1 45 (.build [.nils,(.int .i64 0)] [(0,(1,(.t 41))),(1,(1,(.t 44)))]) (Z1 46 (.lit 157 2 1 [.nils,(.int .i64 0)] [(0,(2,(.t 45)))]) (Z1 47 (.app 157 2 32 (.t 40) (.t 46)) (Z1 6 (.mv (.t 47)) .fin))))))))))) (.seq (.plan (Z1 48 (.fa 1 (.t 2)) (Z1 49 (.ld (.t 48)) (Z1 50 (.bin .add (.t 49) (.c (.str ⟨#[48]⟩))) (Z1 51 (.fa 1 (.t 2)) (.st none (.st 1 (.t 51) (.t 50)) none [] .fin)))))) (.plan (Z1 52 (.fa 3 (.t 2)) (Z1 53 (.ld (.t 52)) (Z1 54 (.mv (.t 8)) (Z1 55 (.ia 1 (.t 54) (.c (.int .i64 0))) (Z1 56 (.ld (.t 55)) (Z1 57 (.fa 1 (.t 3)) (Z1 58 (.ld (.t 57)) (Z1 59 (.bin .add (.t 58) (.c (.int .i64 1))) (Z1 60 (.fa 4 (.t 2)) (Z1 61 (.ld (.t 60)) (.st (some 62) (.call 189 [(.t 56),(.t 59),(.t 61)]) none [((some 53),((.ld (.t 52)),none))] (.st (some 63) (.lit 9 1 1 [(.str ⟨#[]⟩)] [(0,(1,(.t 62)))]) none [((some 53),((.ld (.t 52)),none))] (Z1 64 (.app 9 1 16 (.t 53) (.t 63)) (Z1 65 (.fa 3 (.t 2)) (.st none (.st 1 (.t 65) (.t 64)) none [] .fin))))))))))))))))))) (.plan (Z1 66 (.fa 0 (.t 3)) (Z1 67 (.ld (.t 66)) (Z1 68 (.mv (.t 8)) (Z1 69 (.len (.t 68)) (Z1 70 (.cut 1 (.t 67) (some (.t 69)) none) (Z1 71 (.fa 0 (.t 3)) (.st none (.st 1 (.t 71) (.t 70)) none [] .fin)))))))))))))))))) (.seq (.plan (Z1 72 (.lda 5 (.t 2)) (Z1 73 (.mv (.t 6)) (.st none (.st 5 (.t 4) (.t 72)) none [] (Z1 5 (.mv (.t 73)) .fin))))) .ret))))),[(.ca 4 5),(.t 5)]⟩
theorem h_spec_l3Put:compF Tryz.prog 155=some c_spec_l3Put:=by kernel_rfl
def c_spec_SieveOf:CF:=⟨43,(.seq (.plan (Z1 4 (.alloc 76 [(.str ⟨#[]⟩),(.str ⟨#[]⟩),(.str ⟨#[]⟩),.nils,(.int .i64 0)]) (Z1 5 (.mv (.c (.bool false))) .fin))) (.seq (.seq (.plan (Z1 9 (.mv (.t 0)) (Z1 10 (.call 154 [(.t 9)]) (Z1 11 (.not (.t 10)) (Z1 12 (.mv (.t 11)) (.st (some 13) (.mv (.t 1)) (some (12,false)) [] (.st (some 14) (.call 60 [(.t 13),(.c (.int .i64 0)),(.c (.int .i64 5))]) (some (12,false)) [] (.st (some 15) (.not (.t 14)) (some (12,false)) [] (Z1 16 (.pick (.t 12) (.c (.bool true)) (.t 15)) .fin))))))))) (.cond (.t 16) (.seq (.plan (Z1 17 (.build [(.str ⟨#[]⟩),(.str ⟨#[]⟩),(.str ⟨#[]⟩),.nils,(.int .i64 0)] []) (.st none (.st 5 (.t 4) (.t 17)) none [] (Z1 5 (.mv (.c (.bool false))) .fin)))) .ret) .skip)) (.seq (.plan (Z1 18 (.lit 9 1 0 [] []) (Z1 19 (.mv (.t 1)) (Z1 20 (.build [(.str ⟨#[]⟩),(.str ⟨#[]⟩),(.str ⟨#[]⟩),.nils,(.int .i64 0)] [(3,(1,(.t 18))),(4,(1,(.t 19)))]) (Z1 6 (.alloc 76 [(.str ⟨#[]⟩),(.str ⟨#[]⟩),(.str ⟨#[]⟩),.nils,(.int .i64 0)]) (.st none (.st 5 (.t 6) (.t 20)) none [] .fin)))))) (.seq (.plan (Z1 21 (.mv (.t 0)) (Z1 22 (.build [.nils,(.int .i64 0)] [(0,(1,(.t 21)))]) (Z1 23 (.lit 157 2 1 [.nils,(.int .i64 0)] [(0,(2,(.t 22)))]) (Z1 7 (.mv (.t 23)) .fin))))) (.seq (.block 0 (.loop (.seq (.seq (.plan (Z1 24 (.mv (.t 7)) (Z1 25 (.len (.t 24)) (Z1 26 (.bin .gtr (.t 25) (.c (.int .i64 0))) .fin)))) (.cond (.t 26) .skip (.exit 0))) (.block 1 (.seq (.plan (Z1 27 (.lit 157 2 0 [] []) (Z1 8 (.mv (.t 27)) .fin))) (.seq (.plan (Z1 29 (.lda 5 (.t 6)) (Z1 30 (.mv (.t 7)) (Z1 31 (.ia 2 (.t 30) (.c (.int .i64 0))) (Z1 32 (.lda 2 (.t 31)) (Z1 33 (.call 155 [(.t 29),(.t 32)]) (Z1 28 (.mv (.t 33)) (Z1 34 (.ext 0 (.t 28)) (Z1 35 (.ext 1 (.t 28)) (.st none (.st 5 (.t 6) (.t 34)) none [] (Z1 8 (.mv (.t 35)) .fin))))))))))) (.plan (Z1 36 (.lit 157 2 0 [] []) (Z1 37 (.mv (.t 7)) (Z1 38 (.cut 2 (.t 37) (some (.c (.int .i64 1))) none) (Z1 39 (.app 157 2 32 (.t 36) (.t 38)) (Z1 40 (.mv (.t 8)) (Z1 41 (.app 157 2 32 (.t 39) (.t 40)) (Z1 7 (.mv (.t 41)) .fin)))))))))))))) (.seq (.plan (Z1 42 (.lda 5 (.t 6)) (.st none (.st 5 (.t 4) (.t 42)) none [] (Z1 5 (.mv (.c (.bool true))) .fin)))) .ret)))))),[(.ca 4 5),(.t 5)]⟩
theorem h_spec_SieveOf:compF Tryz.prog 110=some c_spec_SieveOf:=by kernel_rfl
def c_spec_l3Sames:CF:=⟨26,(.seq (.plan (Z1 4 (.mv (.c (.bool false))) .fin)) (.seq (.seq (.plan (Z1 6 (.mv (.t 0)) (Z1 7 (.len (.t 6)) (Z1 8 (.mv (.t 1)) (Z1 9 (.len (.t 8)) (Z1 10 (.bin .neq (.t 7) (.t 9)) .fin)))))) (.cond (.t 10) (.seq (.plan (Z1 4 (.mv (.c (.bool false))) .fin)) .ret) .skip)) (.seq (.seq (.plan (Z1 5 (.mv (.c (.int .i64 0))) .fin)) (.block 0 (.loop (.seq (.seq (.plan (Z1 11 (.mv (.t 5)) (Z1 12 (.mv (.t 0)) (Z1 13 (.len (.t 12)) (Z1 14 (.bin .lss (.t 11) (.t 13)) .fin))))) (.cond (.t 14) .skip (.exit 0))) (.seq (.block 1 (.seq (.plan (Z1 17 (.mv (.t 0)) (Z1 18 (.mv (.t 5)) (Z1 19 (.ia 1 (.t 17) (.t 18)) (Z1 20 (.ld (.t 19)) (Z1 21 (.mv (.t 1)) (Z1 22 (.mv (.t 5)) (Z1 23 (.ia 1 (.t 21) (.t 22)) (Z1 24 (.ld (.t 23)) (Z1 25 (.bin .neq (.t 20) (.t 24)) .fin)))))))))) (.cond (.t 25) (.seq (.plan (Z1 4 (.mv (.c (.bool false))) .fin)) .ret) .skip))) (.plan (Z1 15 (.mv (.t 5)) (Z1 16 (.bin .add (.t 15) (.c (.int .i64 1))) (Z1 5 (.mv (.t 16)) .fin))))))))) (.seq (.plan (Z1 4 (.mv (.c (.bool true))) .fin)) .ret)))),[(.t 4)]⟩
theorem h_spec_l3Sames:compF Tryz.prog 131=some c_spec_l3Sames:=by kernel_rfl
def c_spec_l12Level:CF:=⟨79,(.seq (.plan (Z1 2 (.box 28 6 (.t 0)) (Z1 4 (.mv (.c (.bool false))) .fin))) (.seq (.seq (.plan (Z1 8 (.fa 1 (.t 2)) (Z1 9 (.ld (.t 8)) (Z1 10 (.mv (.t 1)) (Z1 11 (.ia 1 (.t 9) (.t 10)) (Z1 12 (.ld (.t 11)) (Z1 13 (.call 90 [(.t 12)]) (Z1 14 (.not (.t 13)) (Z1 15 (.mv (.t 14)) (.st (some 16) (.fa 1 (.t 2)) (some (15,false)) [] (.st (some 17) (.ld (.t 16)) (some (15,false)) [] (.st (some 18) (.mv (.t 1)) (some (15,false)) [] (.st (some 19) (.ia 1 (.t 17) (.t 18)) (some (15,false)) [] (.st (some 20) (.ld (.t 19)) (some (15,false)) [] (.st (some 21) (.len (.t 20)) (some (15,false)) [] (.st (some 22) (.mv (.t 1)) (some (15,false)) [] (.st (some 23) (.call 111 [(.t 22)]) (some (15,false)) [((some 20),((.ld (.t 19)),(some (15,false)))),((some 19),((.ia 1 (.t 17) (.t 18)),(some (15,false)))),((some 17),((.ld (.t 16)),(some (15,false))))] (.st (some 24) (.bin .gtr (.t 21) (.t 23)) (some (15,false)) [] (Z1 25 (.pick (.t 15) (.c (.bool true)) (.t 24)) .fin))))))))))))))))))) (.cond (.t 25) (.seq (.plan (Z1 4 (.mv (.c (.bool false))) .fin)) .ret) .skip)) (.seq (.plan (Z1 27 (.fa 1 (.t 2)) (Z1 28 (.ld (.t 27)) (Z1 29 (.mv (.t 1)) (Z1 30 (.ia 1 (.t 28) (.t 29)) (Z1 31 (.ld (.t 30)) (Z1 33 (.fa 3 (.t 2)) (Z1 34 (.ld (.t 33)) (.both (.st (some 32) (.call 95 [(.t 31)]) none [((some 34),((.ld (.t 33)),none))] (.both (Z1 35 (.call 110 [(.t 32),(.t 34)]) (Z1 26 (.mv (.t 35)) (Z1 36 (.ext 0 (.t 26)) (Z1 37 (.ext 1 (.t 26)) (.st (some 5) (.alloc 76 [(.str ⟨#[]⟩),(.str ⟨#[]⟩),(.str ⟨#[]⟩),.nils,(.int .i64 0)]) none [((some 34),((.ld (.t 33)),none)),((some 31),((.ld (.t 30)),none)),((some 30),((.ia 1 (.t 28) (.t 29)),none)),((some 28),((.ld (.t 27)),none))] (.st none (.st 5 (.t 5) (.t 36)) none [] (Z1 6 (.mv (.t 37)) .fin))))))) (.st (some 5) (.alloc 76 [(.str ⟨#[]⟩),(.str ⟨#[]⟩),(.str ⟨#[]⟩),.nils,(.int .i64 0)]) none [((some 34),((.ld (.t 33)),none)),((some 31),((.ld (.t 30)),none)),((some 30),((.ia 1 (.t 28) (.t 29)),none)),((some 28),((.ld (.t 27)),none))] (Z1 35 (.call 110 [(.t 32),(.t 34)]) (Z1 26 (.mv (.t 35)) (Z1 36 (.ext 0 (.t 26)) (Z1 37 (.ext 1 (.t 26)) (.st none (.st 5 (.t 5) (.t 36)) none [] (Z1 6 (.mv (.t 37)) .fin))))))))) (.st (some 5) (.alloc 76 [(.str ⟨#[]⟩),(.str ⟨#[]⟩),(.str ⟨#[]⟩),.nils,(.int .i64 0)]) none [((some 34),((.ld (.t 33)),none)),((some 31),((.ld (.t 30)),none)),((some 30),((.ia 1 (.t 28) (.t 29)),none)),((some 28),((.ld (.t 27)),none))] (.st (some 32) (.call 95 [(.t 31)]) none [((some 34),((.ld (.t 33)),none))] (Z1 35 (.call 110 [(.t 32),(.t 34)]) (Z1 26 (.mv (.t 35)) (Z1 36 (.ext 0 (.t 26)) (Z1 37 (.ext 1 (.t 26)) (.st none (.st 5 (.t 5) (.t 36)) none [] (Z1 6 (.mv (.t 37)) .fin))))))))))))))))) (.seq (.plan (Z1 38 (.fa 2 (.t 2)) (Z1 39 (.ld (.t 38)) (Z1 40 (.mv (.t 1)) (Z1 41 (.ia 5 (.t 39) (.t 40)) (Z1 42 (.lda 5 (.t 41)) (Z1 7 (.alloc 76 [(.str ⟨#[]⟩),(.str ⟨#[]⟩),(.str ⟨#[]⟩),.nils,(.int .i64 0)]) (.st none (.st 5 (.t 7) (.t 42)) none [] .fin)))))))) (.seq (.plan (Z1 43 (.mv (.t 6)) (Z1 44 (.mv (.t 43)) (.st (some 45) (.fa 0 (.t 5)) (some (44,true)) [] (.st (some 46) (.ld (.t 45)) (some (44,true)) [] (.st (some 47) (.fa 0 (.t 7)) (some (44,true)) [] (.st (some 48) (.ld (.t 47)) (some (44,true)) [] (.st (some 49) (.bin .eql (.t 46) (.t 48)) (some (44,true)) [] (Z1 50 (.pick (.t 44) (.t 49) (.c (.bool false))) (Z1 51 (.mv (.t 50)) (.st (some 52) (.fa 1 (.t 5)) (some (51,true)) [] (.st (some 53) (.ld (.t 52)) (some (51,true)) [] (.st (some 54) (.fa 1 (.t 7)) (some (51,true)) [] (.st (some 55) (.ld (.t 54)) (some (51,true)) [] (.st (some 56) (.bin .eql (.t 53) (.t 55)) (some (51,true)) [] (Z1 57 (.pick (.t 51) (.t 56) (.c (.bool false))) (Z1 58 (.mv (.t 57)) (.st (some 59) (.fa 2 (.t 5)) (some (58,true)) [] (.st (some 60) (.ld (.t 59)) (some (58,true)) [] (.st (some 61) (.fa 2 (.t 7)) (some (58,true)) [] (.st (some 62) (.ld (.t 61)) (some (58,true)) [] (.st (some 63) (.bin .eql (.t 60) (.t 62)) (some (58,true)) [] (Z1 64 (.pick (.t 58) (.t 63) (.c (.bool false))) (Z1 65 (.mv (.t 64)) (.st (some 66) (.fa 4 (.t 5)) (some (65,true)) [] (.st (some 67) (.ld (.t 66)) (some (65,true)) [] (.st (some 68) (.fa 4 (.t 7)) (some (65,true)) [] (.st (some 69) (.ld (.t 68)) (some (65,true)) [] (.st (some 70) (.bin .eql (.t 67) (.t 69)) (some (65,true)) [] (Z1 71 (.pick (.t 65) (.t 70) (.c (.bool false))) (Z1 72 (.mv (.t 71)) (.st (some 73) (.fa 3 (.t 5)) (some (72,true)) [] (.st (some 74) (.ld (.t 73)) (some (72,true)) [] (.st (some 75) (.fa 3 (.t 7)) (some (72,true)) [] (.st (some 76) (.ld (.t 75)) (some (72,true)) [] (.st (some 77) (.call 131 [(.t 74),(.t 76)]) (some (72,true)) [] (Z1 78 (.pick (.t 72) (.t 77) (.c (.bool false))) (Z1 4 (.mv (.t 78)) .fin)))))))))))))))))))))))))))))))))))))) .ret))))),[(.t 4)]⟩
theorem h_spec_l12Level:compF Tryz.prog 91=some c_spec_l12Level:=by kernel_rfl
def c_spec_l11At:CF:=⟨36,(.seq (.plan (Z1 6 (.alloc 45 [(.str ⟨#[]⟩),(.int .i64 0),(.bool false),(.int .i64 0)]) (Z1 7 (.mv (.c (.bool false))) .fin))) (.seq (.seq (.plan (Z1 8 (.mv (.c (.int .i64 0))) .fin)) (.block 0 (.loop (.seq (.seq (.plan (Z1 9 (.mv (.t 8)) (Z1 10 (.mv (.t 0)) (Z1 11 (.len (.t 10)) (Z1 12 (.bin .lss (.t 9) (.t 11)) .fin))))) (.cond (.t 12) .skip (.exit 0))) (.seq (.block 1 (.seq (.plan (Z1 15 (.mv (.t 0)) (Z1 16 (.mv (.t 8)) (Z1 17 (.ia 4 (.t 15) (.t 16)) (Z1 18 (.fa 0 (.t 17)) (Z1 19 (.ld (.t 18)) (Z1 20 (.mv (.t 1)) (Z1 21 (.bin .eql (.t 19) (.t 20)) (Z1 22 (.mv (.t 21)) (.st (some 23) (.mv (.t 0)) (some (22,true)) [] (.st (some 24) (.mv (.t 8)) (some (22,true)) [] (.st (some 25) (.ia 4 (.t 23) (.t 24)) (some (22,true)) [] (.st (some 26) (.fa 3 (.t 25)) (some (22,true)) [] (.st (some 27) (.ld (.t 26)) (some (22,true)) [] (.st (some 28) (.mv (.t 2)) (some (22,true)) [] (.st (some 29) (.bin .leq (.t 27) (.t 28)) (some (22,true)) [] (Z1 30 (.pick (.t 22) (.t 29) (.c (.bool false))) .fin))))))))))))))))) (.cond (.t 30) (.seq (.plan (Z1 31 (.mv (.t 0)) (Z1 32 (.mv (.t 8)) (Z1 33 (.ia 4 (.t 31) (.t 32)) (Z1 34 (.lda 4 (.t 33)) (.st none (.st 4 (.t 6) (.t 34)) none [] (Z1 7 (.mv (.c (.bool true))) .fin))))))) .ret) .skip))) (.plan (Z1 13 (.mv (.t 8)) (Z1 14 (.bin .add (.t 13) (.c (.int .i64 1))) (Z1 8 (.mv (.t 14)) .fin))))))))) (.seq (.plan (Z1 35 (.build [(.str ⟨#[]⟩),(.int .i64 0),(.bool false),(.int .i64 0)] []) (.st none (.st 4 (.t 6) (.t 35)) none [] (Z1 7 (.mv (.c (.bool false))) .fin)))) .ret))),[(.ca 6 4),(.t 7)]⟩
theorem h_spec_l11At:compF Tryz.prog 132=some c_spec_l11At:=by kernel_rfl
def c_spec_l12Newest:CF:=⟨44,(.seq (.plan (Z1 6 (.mv (.c (.bool false))) .fin)) (.seq (.seq (.plan (Z1 7 (.mv (.c (.int .i64 0))) .fin)) (.block 0 (.loop (.seq (.seq (.plan (Z1 10 (.mv (.t 7)) (Z1 11 (.mv (.t 0)) (Z1 12 (.len (.t 11)) (Z1 13 (.bin .lss (.t 10) (.t 12)) .fin))))) (.cond (.t 13) .skip (.exit 0))) (.seq (.block 1 (.seq (.seq (.plan (Z1 16 (.mv (.t 0)) (Z1 17 (.mv (.t 7)) (Z1 18 (.ia 4 (.t 16) (.t 17)) (Z1 19 (.fa 3 (.t 18)) (Z1 20 (.ld (.t 19)) (Z1 21 (.mv (.t 2)) (Z1 22 (.bin .gtr (.t 20) (.t 21)) .fin)))))))) (.cond (.t 22) (.seq (.plan (Z1 6 (.mv (.c (.bool false))) .fin)) .ret) .skip)) (.seq (.plan (Z1 24 (.mv (.t 1)) (Z1 25 (.mv (.t 0)) (Z1 26 (.mv (.t 7)) (Z1 27 (.ia 4 (.t 25) (.t 26)) (Z1 28 (.fa 0 (.t 27)) (Z1 29 (.ld (.t 28)) (Z1 30 (.call 132 [(.t 24),(.t 29),(.c (.int .i64 999))]) (Z1 23 (.mv (.t 30)) (Z1 31 (.ext 0 (.t 23)) (Z1 32 (.ext 1 (.t 23)) (Z1 8 (.alloc 45 [(.str ⟨#[]⟩),(.int .i64 0),(.bool false),(.int .i64 0)]) (.st none (.st 4 (.t 8) (.t 31)) none [] (Z1 9 (.mv (.t 32)) .fin)))))))))))))) (.seq (.plan (Z1 33 (.mv (.t 9)) (Z1 34 (.mv (.t 33)) (.st (some 35) (.fa 3 (.t 8)) (some (34,true)) [] (.st (some 36) (.ld (.t 35)) (some (34,true)) [] (.st (some 37) (.mv (.t 0)) (some (34,true)) [] (.st (some 38) (.mv (.t 7)) (some (34,true)) [] (.st (some 39) (.ia 4 (.t 37) (.t 38)) (some (34,true)) [] (.st (some 40) (.fa 3 (.t 39)) (some (34,true)) [] (.st (some 41) (.ld (.t 40)) (some (34,true)) [] (.st (some 42) (.bin .geq (.t 36) (.t 41)) (some (34,true)) [] (Z1 43 (.pick (.t 34) (.t 42) (.c (.bool false))) .fin)))))))))))) (.cond (.t 43) (.seq (.plan (Z1 6 (.mv (.c (.bool false))) .fin)) .ret) .skip))))) (.plan (Z1 14 (.mv (.t 7)) (Z1 15 (.bin .add (.t 14) (.c (.int .i64 1))) (Z1 7 (.mv (.t 15)) .fin))))))))) (.seq (.plan (Z1 6 (.mv (.c (.bool true))) .fin)) .ret))),[(.t 6)]⟩
theorem h_spec_l12Newest:compF Tryz.prog 92=some c_spec_l12Newest:=by kernel_rfl
def c_spec_StoreOk:CF:=⟨86,(.seq (.plan (Z1 1 (.box 28 6 (.t 0)) (Z1 2 (.mv (.c (.bool false))) .fin))) (.seq (.seq (.plan (Z1 5 (.fa 1 (.t 1)) (Z1 6 (.ld (.t 5)) (Z1 7 (.len (.t 6)) (Z1 8 (.bin .neq (.t 7) (.c (.int .i64 3))) (Z1 9 (.mv (.t 8)) (.st (some 10) (.fa 2 (.t 1)) (some (9,false)) [] (.st (some 11) (.ld (.t 10)) (some (9,false)) [] (.st (some 12) (.len (.t 11)) (some (9,false)) [] (.st (some 13) (.bin .neq (.t 12) (.c (.int .i64 3))) (some (9,false)) [] (Z1 14 (.pick (.t 9) (.c (.bool true)) (.t 13)) (Z1 15 (.mv (.t 14)) (.st (some 16) (.fa 3 (.t 1)) (some (15,false)) [] (.st (some 17) (.ld (.t 16)) (some (15,false)) [] (.st (some 18) (.call 60 [(.t 17),(.c (.int .i64 0)),(.c (.int .i64 5))]) (some (15,false)) [] (.st (some 19) (.not (.t 18)) (some (15,false)) [] (Z1 20 (.pick (.t 15) (.c (.bool true)) (.t 19)) (Z1 21 (.mv (.t 20)) (.st (some 22) (.fa 4 (.t 1)) (some (21,false)) [] (.st (some 23) (.ld (.t 22)) (some (21,false)) [] (.st (some 24) (.call 60 [(.t 23),(.c (.int .i64 0)),(.c (.int .i64 999))]) (some (21,false)) [] (.st (some 25) (.not (.t 24)) (some (21,false)) [] (Z1 26 (.pick (.t 21) (.c (.bool true)) (.t 25)) (Z1 27 (.mv (.t 26)) (.st (some 28) (.fa 5 (.t 1)) (some (27,false)) [] (.st (some 29) (.ld (.t 28)) (some (27,false)) [] (.st (some 30) (.fa 4 (.t 1)) (some (27,false)) [] (.st (some 31) (.ld (.t 30)) (some (27,false)) [] (.st (some 32) (.call 89 [(.t 29),(.t 31)]) (some (27,false)) [] (.st (some 33) (.not (.t 32)) (some (27,false)) [] (Z1 34 (.pick (.t 27) (.c (.bool true)) (.t 33)) .fin))))))))))))))))))))))))))))))) (.cond (.t 34) (.seq (.plan (Z1 2 (.mv (.c (.bool false))) .fin)) .ret) .skip)) (.seq (.seq (.plan (Z1 35 (.fa 0 (.t 1)) (Z1 36 (.ld (.t 35)) (Z1 37 (.call 90 [(.t 36)]) (Z1 38 (.not (.t 37)) (Z1 39 (.mv (.t 38)) (.st (some 40) (.fa 0 (.t 1)) (some (39,false)) [] (.st (some 41) (.ld (.t 40)) (some (39,false)) [] (.st (some 42) (.len (.t 41)) (some (39,false)) [] (.st (some 43) (.bin .gtr (.t 42) (.c (.int .i64 4))) (some (39,false)) [] (Z1 44 (.pick (.t 39) (.c (.bool true)) (.t 43)) .fin))))))))))) (.cond (.t 44) (.seq (.plan (Z1 2 (.mv (.c (.bool false))) .fin)) .ret) .skip)) (.seq (.seq (.plan (Z1 3 (.mv (.c (.int .i64 0))) .fin)) (.block 0 (.loop (.seq (.seq (.plan (Z1 45 (.mv (.t 3)) (Z1 46 (.bin .lss (.t 45) (.c (.int .i64 3))) .fin))) (.cond (.t 46) .skip (.exit 0))) (.seq (.block 1 (.seq (.seq (.plan (Z1 49 (.lda 6 (.t 1)) (Z1 50 (.mv (.t 3)) (Z1 51 (.call 91 [(.t 49),(.t 50)]) (Z1 52 (.not (.t 51)) (Z1 53 (.mv (.t 52)) (.st (some 54) (.fa 0 (.t 1)) (some (53,false)) [] (.st (some 55) (.ld (.t 54)) (some (53,false)) [] (.st (some 56) (.fa 1 (.t 1)) (some (53,false)) [] (.st (some 57) (.ld (.t 56)) (some (53,false)) [] (.st (some 58) (.mv (.t 3)) (some (53,false)) [] (.st (some 59) (.ia 1 (.t 57) (.t 58)) (some (53,false)) [] (.st (some 60) (.ld (.t 59)) (some (53,false)) [] (.st (some 61) (.fa 4 (.t 1)) (some (53,false)) [] (.st (some 62) (.ld (.t 61)) (some (53,false)) [] (.st (some 63) (.call 92 [(.t 55),(.t 60),(.t 62)]) (some (53,false)) [] (.st (some 64) (.not (.t 63)) (some (53,false)) [] (Z1 65 (.pick (.t 53) (.c (.bool true)) (.t 64)) .fin)))))))))))))))))) (.cond (.t 65) (.seq (.plan (Z1 2 (.mv (.c (.bool false))) .fin)) .ret) .skip)) (.seq (.plan (Z1 66 (.mv (.t 3)) (Z1 67 (.bin .add (.t 66) (.c (.int .i64 1))) (Z1 4 (.mv (.t 67)) .fin)))) (.block 2 (.loop (.seq (.seq (.plan (Z1 68 (.mv (.t 4)) (Z1 69 (.bin .lss (.t 68) (.c (.int .i64 3))) .fin))) (.cond (.t 69) .skip (.exit 2))) (.seq (.block 3 (.seq (.plan (Z1 72 (.fa 1 (.t 1)) (Z1 73 (.ld (.t 72)) (Z1 74 (.mv (.t 3)) (Z1 75 (.ia 1 (.t 73) (.t 74)) (Z1 76 (.ld (.t 75)) (Z1 77 (.fa 1 (.t 1)) (Z1 78 (.ld (.t 77)) (Z1 79 (.mv (.t 4)) (Z1 80 (.ia 1 (.t 78) (.t 79)) (Z1 81 (.ld (.t 80)) (Z1 82 (.fa 4 (.t 1)) (Z1 83 (.ld (.t 82)) (Z1 84 (.call 92 [(.t 76),(.t 81),(.t 83)]) (Z1 85 (.not (.t 84)) .fin))))))))))))))) (.cond (.t 85) (.seq (.plan (Z1 2 (.mv (.c (.bool false))) .fin)) .ret) .skip))) (.plan (Z1 70 (.mv (.t 4)) (Z1 71 (.bin .add (.t 70) (.c (.int .i64 1))) (Z1 4 (.mv (.t 71)) .fin))))))))))) (.plan (Z1 47 (.mv (.t 3)) (Z1 48 (.bin .add (.t 47) (.c (.int .i64 1))) (Z1 3 (.mv (.t 48)) .fin))))))))) (.seq (.plan (Z1 2 (.mv (.c (.bool true))) .fin)) .ret))))),[(.t 2)]⟩
theorem h_spec_StoreOk:compF Tryz.prog 39=some c_spec_StoreOk:=by kernel_rfl
def c_spec_l12Copy:CF:=⟨57,(.seq (.plan (Z1 1 (.box 28 6 (.t 0)) (Z1 2 (.alloc 28 [.nils,.nils,.nils,(.int .i64 0),(.int .i64 0),.nils]) .fin))) (.seq (.plan (Z1 6 (.lda 6 (.t 1)) (Z1 3 (.alloc 28 [.nils,.nils,.nils,(.int .i64 0),(.int .i64 0),.nils]) (.st none (.st 6 (.t 3) (.t 6)) none [] .fin)))) (.seq (.plan (Z1 7 (.lit 45 4 0 [] []) (Z1 8 (.fa 0 (.t 1)) (Z1 9 (.ld (.t 8)) (Z1 10 (.app 45 4 40 (.t 7) (.t 9)) (Z1 11 (.fa 0 (.t 3)) (.st none (.st 1 (.t 11) (.t 10)) none [] .fin))))))) (.seq (.plan (Z1 12 (.lit 3 1 0 [] []) (Z1 13 (.fa 5 (.t 1)) (Z1 14 (.ld (.t 13)) (Z1 15 (.app 3 1 8 (.t 12) (.t 14)) (Z1 16 (.fa 5 (.t 3)) (.st none (.st 1 (.t 16) (.t 15)) none [] .fin))))))) (.seq (.plan (Z1 17 (.lit 23 1 0 [] []) (Z1 18 (.fa 1 (.t 3)) (.st none (.st 1 (.t 18) (.t 17)) none [] .fin)))) (.seq (.plan (Z1 19 (.lit 76 5 0 [] []) (Z1 20 (.fa 2 (.t 3)) (.st none (.st 1 (.t 20) (.t 19)) none [] .fin)))) (.seq (.seq (.plan (Z1 4 (.mv (.c (.int .i64 0))) .fin)) (.block 0 (.loop (.seq (.seq (.plan (Z1 21 (.mv (.t 4)) (Z1 22 (.fa 1 (.t 1)) (Z1 23 (.ld (.t 22)) (Z1 24 (.len (.t 23)) (Z1 25 (.bin .lss (.t 21) (.t 24)) .fin)))))) (.cond (.t 25) .skip (.exit 0))) (.seq (.block 1 (.seq (.plan (Z1 28 (.fa 1 (.t 3)) (Z1 29 (.ld (.t 28)) (Z1 31 (.fa 1 (.t 1)) (Z1 32 (.ld (.t 31)) (Z1 33 (.mv (.t 4)) (Z1 34 (.ia 1 (.t 32) (.t 33)) (Z1 35 (.ld (.t 34)) (.st (some 30) (.lit 45 4 0 [] []) none [((some 35),((.ld (.t 34)),none)),((some 34),((.ia 1 (.t 32) (.t 33)),none)),((some 32),((.ld (.t 31)),none)),((some 29),((.ld (.t 28)),none))] (.st (some 36) (.app 45 4 40 (.t 30) (.t 35)) none [((some 29),((.ld (.t 28)),none))] (.st (some 37) (.lit 23 1 1 [.nils] [(0,(1,(.t 36)))]) none [((some 29),((.ld (.t 28)),none))] (Z1 38 (.app 23 1 24 (.t 29) (.t 37)) (Z1 39 (.fa 1 (.t 3)) (.st none (.st 1 (.t 39) (.t 38)) none [] .fin)))))))))))))) (.seq (.plan (Z1 40 (.fa 2 (.t 1)) (Z1 41 (.ld (.t 40)) (Z1 42 (.mv (.t 4)) (Z1 43 (.ia 5 (.t 41) (.t 42)) (Z1 44 (.lda 5 (.t 43)) (Z1 5 (.alloc 76 [(.str ⟨#[]⟩),(.str ⟨#[]⟩),(.str ⟨#[]⟩),.nils,(.int .i64 0)]) (.st none (.st 5 (.t 5) (.t 44)) none [] .fin)))))))) (.seq (.plan (Z1 45 (.lit 9 1 0 [] []) (Z1 46 (.fa 3 (.t 5)) (Z1 47 (.ld (.t 46)) (Z1 48 (.app 9 1 16 (.t 45) (.t 47)) (Z1 49 (.fa 3 (.t 5)) (.st none (.st 1 (.t 49) (.t 48)) none [] .fin))))))) (.plan (Z1 50 (.fa 2 (.t 3)) (Z1 51 (.ld (.t 50)) (Z1 52 (.lda 5 (.t 5)) (Z1 53 (.lit 76 5 1 [(.str ⟨#[]⟩),(.str ⟨#[]⟩),(.str ⟨#[]⟩),.nils,(.int .i64 0)] [(0,(5,(.t 52)))]) (Z1 54 (.app 76 5 80 (.t 51) (.t 53)) (Z1 55 (.fa 2 (.t 3)) (.st none (.st 1 (.t 55) (.t 54)) none [] .fin)))))))))))) (.plan (Z1 26 (.mv (.t 4)) (Z1 27 (.bin .add (.t 26) (.c (.int .i64 1))) (Z1 4 (.mv (.t 27)) .fin))))))))) (.seq (.plan (Z1 56 (.lda 6 (.t 3)) (.st none (.st 6 (.t 2) (.t 56)) none [] .fin))) .ret)))))))),[(.ca 2 6)]⟩
theorem h_spec_l12Copy:compF Tryz.prog 48=some c_spec_l12Copy:=by kernel_rfl
def c_spec_l11Join:CF:=⟨51,(.seq (.plan (Z1 4 (.mv (.c .nils)) .fin)) (.seq (.plan (Z1 8 (.lit 45 4 0 [] []) (Z1 5 (.mv (.t 8)) .fin))) (.seq (.plan (Z1 6 (.mv (.c (.int .i64 0))) .fin)) (.seq (.seq (.plan (Z1 7 (.mv (.c (.int .i64 0))) .fin)) (.block 0 (.loop (.seq (.seq (.plan (Z1 9 (.mv (.t 7)) (Z1 10 (.mv (.t 1)) (Z1 11 (.len (.t 10)) (Z1 12 (.bin .lss (.t 9) (.t 11)) .fin))))) (.cond (.t 12) .skip (.exit 0))) (.seq (.block 1 (.seq (.block 2 (.loop (.seq (.seq (.plan (Z1 15 (.mv (.t 6)) (Z1 16 (.mv (.t 0)) (Z1 17 (.len (.t 16)) (Z1 18 (.bin .lss (.t 15) (.t 17)) (Z1 19 (.mv (.t 18)) (.st (some 20) (.mv (.t 0)) (some (19,true)) [] (.st (some 21) (.mv (.t 6)) (some (19,true)) [] (.st (some 22) (.ia 4 (.t 20) (.t 21)) (some (19,true)) [] (.st (some 23) (.lda 4 (.t 22)) (some (19,true)) [] (.st (some 24) (.mv (.t 1)) (some (19,true)) [] (.st (some 25) (.mv (.t 7)) (some (19,true)) [] (.st (some 26) (.ia 4 (.t 24) (.t 25)) (some (19,true)) [] (.st (some 27) (.lda 4 (.t 26)) (some (19,true)) [] (.st (some 28) (.call 130 [(.t 23),(.t 27)]) (some (19,true)) [] (Z1 29 (.pick (.t 19) (.t 28) (.c (.bool false))) .fin)))))))))))))))) (.cond (.t 29) .skip (.exit 2))) (.block 3 (.seq (.plan (Z1 30 (.mv (.t 5)) (Z1 31 (.mv (.t 0)) (Z1 32 (.mv (.t 6)) (Z1 33 (.ia 4 (.t 31) (.t 32)) (Z1 34 (.lda 4 (.t 33)) (Z1 35 (.lit 45 4 1 [(.str ⟨#[]⟩),(.int .i64 0),(.bool false),(.int .i64 0)] [(0,(4,(.t 34)))]) (Z1 36 (.app 45 4 40 (.t 30) (.t 35)) (Z1 5 (.mv (.t 36)) .fin))))))))) (.plan (Z1 37 (.mv (.t 6)) (Z1 38 (.bin .add (.t 37) (.c (.int .i64 1))) (Z1 6 (.mv (.t 38)) .fin))))))))) (.plan (Z1 39 (.mv (.t 5)) (Z1 40 (.mv (.t 1)) (Z1 41 (.mv (.t 7)) (Z1 42 (.ia 4 (.t 40) (.t 41)) (Z1 43 (.lda 4 (.t 42)) (Z1 44 (.lit 45 4 1 [(.str ⟨#[]⟩),(.int .i64 0),(.bool false),(.int .i64 0)] [(0,(4,(.t 43)))]) (Z1 45 (.app 45 4 40 (.t 39) (.t 44)) (Z1 5 (.mv (.t 45)) .fin))))))))))) (.plan (Z1 13 (.mv (.t 7)) (Z1 14 (.bin .add (.t 13) (.c (.int .i64 1))) (Z1 7 (.mv (.t 14)) .fin))))))))) (.seq (.plan (Z1 46 (.mv (.t 5)) (Z1 47 (.mv (.t 0)) (Z1 48 (.mv (.t 6)) (Z1 49 (.cut 4 (.t 47) (some (.t 48)) none) (Z1 50 (.app 45 4 40 (.t 46) (.t 49)) (Z1 4 (.mv (.t 50)) .fin))))))) .ret))))),[(.t 4)]⟩
theorem h_spec_l11Join:compF Tryz.prog 113=some c_spec_l11Join:=by kernel_rfl
def c_spec_l11Seen:CF:=⟨53,(.seq (.plan (Z1 6 (.mv (.c (.bool false))) .fin)) (.seq (.seq (.plan (Z1 8 (.mv (.t 1)) (Z1 9 (.bin .eql (.t 8) (.c (.int .i64 0))) (Z1 10 (.mv (.t 9)) (.st (some 11) (.mv (.t 0)) (some (10,false)) [] (.st (some 12) (.mv (.t 1)) (some (10,false)) [] (.st (some 13) (.bin .sub (.t 12) (.c (.int .i64 1))) (some (10,false)) [] (.st (some 14) (.ia 4 (.t 11) (.t 13)) (some (10,false)) [] (.st (some 15) (.fa 0 (.t 14)) (some (10,false)) [] (.st (some 16) (.ld (.t 15)) (some (10,false)) [] (.st (some 17) (.mv (.t 0)) (some (10,false)) [] (.st (some 18) (.mv (.t 1)) (some (10,false)) [] (.st (some 19) (.ia 4 (.t 17) (.t 18)) (some (10,false)) [] (.st (some 20) (.fa 0 (.t 19)) (some (10,false)) [] (.st (some 21) (.ld (.t 20)) (some (10,false)) [] (.st (some 22) (.bin .neq (.t 16) (.t 21)) (some (10,false)) [] (Z1 23 (.pick (.t 10) (.c (.bool true)) (.t 22)) .fin))))))))))))))))) (.cond (.t 23) (.seq (.plan (Z1 6 (.mv (.c (.bool true))) .fin)) .ret) .skip)) (.seq (.seq (.plan (Z1 7 (.mv (.c (.int .i64 0))) .fin)) (.block 0 (.loop (.seq (.seq (.plan (Z1 24 (.mv (.t 7)) (Z1 25 (.mv (.t 2)) (Z1 26 (.len (.t 25)) (Z1 27 (.bin .lss (.t 24) (.t 26)) .fin))))) (.cond (.t 27) .skip (.exit 0))) (.seq (.block 1 (.seq (.plan (Z1 30 (.mv (.t 0)) (Z1 31 (.mv (.t 1)) (Z1 32 (.ia 4 (.t 30) (.t 31)) (Z1 33 (.fa 3 (.t 32)) (Z1 34 (.ld (.t 33)) (Z1 35 (.mv (.t 2)) (Z1 36 (.mv (.t 7)) (Z1 37 (.ia 1 (.t 35) (.t 36)) (Z1 38 (.ld (.t 37)) (Z1 39 (.bin .leq (.t 34) (.t 38)) (Z1 40 (.mv (.t 39)) (.st (some 41) (.mv (.t 2)) (some (40,true)) [] (.st (some 42) (.mv (.t 7)) (some (40,true)) [] (.st (some 43) (.ia 1 (.t 41) (.t 42)) (some (40,true)) [] (.st (some 44) (.ld (.t 43)) (some (40,true)) [] (.st (some 45) (.mv (.t 0)) (some (40,true)) [] (.st (some 46) (.mv (.t 1)) (some (40,true)) [] (.st (some 47) (.bin .sub (.t 46) (.c (.int .i64 1))) (some (40,true)) [] (.st (some 48) (.ia 4 (.t 45) (.t 47)) (some (40,true)) [] (.st (some 49) (.fa 3 (.t 48)) (some (40,true)) [] (.st (some 50) (.ld (.t 49)) (some (40,true)) [] (.st (some 51) (.bin .lss (.t 44) (.t 50)) (some (40,true)) [] (Z1 52 (.pick (.t 40) (.t 51) (.c (.bool false))) .fin)))))))))))))))))))))))) (.cond (.t 52) (.seq (.plan (Z1 6 (.mv (.c (.bool true))) .fin)) .ret) .skip))) (.plan (Z1 28 (.mv (.t 7)) (Z1 29 (.bin .add (.t 28) (.c (.int .i64 1))) (Z1 7 (.mv (.t 29)) .fin))))))))) (.seq (.plan (Z1 6 (.mv (.c (.bool false))) .fin)) .ret)))),[(.t 6)]⟩
theorem h_spec_l11Seen:compF Tryz.prog 156=some c_spec_l11Seen:=by kernel_rfl
def c_spec_l11Trim:CF:=⟨77,(.seq (.plan (Z1 6 (.mv (.c .nils)) .fin)) (.seq (.plan (Z1 12 (.lit 45 4 0 [] []) (Z1 7 (.mv (.t 12)) .fin))) (.seq (.seq (.plan (Z1 8 (.mv (.c (.int .i64 0))) .fin)) (.block 0 (.loop (.seq (.seq (.plan (Z1 13 (.mv (.t 8)) (Z1 14 (.mv (.t 0)) (Z1 15 (.len (.t 14)) (Z1 16 (.bin .lss (.t 13) (.t 15)) .fin))))) (.cond (.t 16) .skip (.exit 0))) (.seq (.block 1 (.seq (.plan (Z1 19 (.mv (.t 0)) (Z1 20 (.mv (.t 8)) (Z1 21 (.mv (.t 1)) (Z1 22 (.call 156 [(.t 19),(.t 20),(.t 21)]) .fin))))) (.cond (.t 22) (.plan (Z1 23 (.mv (.t 7)) (Z1 24 (.mv (.t 0)) (Z1 25 (.mv (.t 8)) (Z1 26 (.ia 4 (.t 24) (.t 25)) (Z1 27 (.lda 4 (.t 26)) (Z1 28 (.lit 45 4 1 [(.str ⟨#[]⟩),(.int .i64 0),(.bool false),(.int .i64 0)] [(0,(4,(.t 27)))]) (Z1 29 (.app 45 4 40 (.t 23) (.t 28)) (Z1 7 (.mv (.t 29)) .fin))))))))) .skip))) (.plan (Z1 17 (.mv (.t 8)) (Z1 18 (.bin .add (.t 17) (.c (.int .i64 1))) (Z1 8 (.mv (.t 18)) .fin))))))))) (.seq (.seq (.plan (Z1 30 (.mv (.t 2)) (Z1 31 (.not (.t 30)) .fin))) (.cond (.t 31) (.seq (.plan (Z1 32 (.mv (.t 7)) (Z1 6 (.mv (.t 32)) .fin))) .ret) .skip)) (.seq (.plan (Z1 33 (.lit 45 4 0 [] []) (Z1 9 (.mv (.t 33)) .fin))) (.seq (.seq (.plan (Z1 10 (.mv (.c (.int .i64 0))) .fin)) (.block 2 (.loop (.seq (.seq (.plan (Z1 34 (.mv (.t 10)) (Z1 35 (.mv (.t 7)) (Z1 36 (.len (.t 35)) (Z1 37 (.bin .lss (.t 34) (.t 36)) .fin))))) (.cond (.t 37) .skip (.exit 2))) (.seq (.block 3 (.seq (.plan (Z1 40 (.mv (.t 10)) (Z1 41 (.bin .add (.t 40) (.c (.int .i64 1))) (Z1 42 (.mv (.t 7)) (Z1 43 (.len (.t 42)) (Z1 44 (.bin .geq (.t 41) (.t 43)) (Z1 45 (.mv (.t 44)) (.st (some 46) (.mv (.t 7)) (some (45,false)) [] (.st (some 47) (.mv (.t 10)) (some (45,false)) [] (.st (some 48) (.bin .add (.t 47) (.c (.int .i64 1))) (some (45,false)) [] (.st (some 49) (.ia 4 (.t 46) (.t 48)) (some (45,false)) [] (.st (some 50) (.fa 0 (.t 49)) (some (45,false)) [] (.st (some 51) (.ld (.t 50)) (some (45,false)) [] (.st (some 52) (.mv (.t 7)) (some (45,false)) [] (.st (some 53) (.mv (.t 10)) (some (45,false)) [] (.st (some 54) (.ia 4 (.t 52) (.t 53)) (some (45,false)) [] (.st (some 55) (.fa 0 (.t 54)) (some (45,false)) [] (.st (some 56) (.ld (.t 55)) (some (45,false)) [] (.st (some 57) (.bin .neq (.t 51) (.t 56)) (some (45,false)) [] (Z1 58 (.pick (.t 45) (.c (.bool true)) (.t 57)) (Z1 11 (.mv (.t 58)) .fin))))))))))))))))))))) (.seq (.plan (Z1 59 (.mv (.t 7)) (Z1 60 (.mv (.t 10)) (Z1 61 (.ia 4 (.t 59) (.t 60)) (Z1 62 (.fa 2 (.t 61)) (Z1 63 (.ld (.t 62)) (Z1 64 (.not (.t 63)) (Z1 65 (.mv (.t 64)) (.st (some 66) (.mv (.t 11)) (some (65,false)) [] (.st (some 67) (.not (.t 66)) (some (65,false)) [] (Z1 68 (.pick (.t 65) (.c (.bool true)) (.t 67)) .fin))))))))))) (.cond (.t 68) (.plan (Z1 69 (.mv (.t 9)) (Z1 70 (.mv (.t 7)) (Z1 71 (.mv (.t 10)) (Z1 72 (.ia 4 (.t 70) (.t 71)) (Z1 73 (.lda 4 (.t 72)) (Z1 74 (.lit 45 4 1 [(.str ⟨#[]⟩),(.int .i64 0),(.bool false),(.int .i64 0)] [(0,(4,(.t 73)))]) (Z1 75 (.app 45 4 40 (.t 69) (.t 74)) (Z1 9 (.mv (.t 75)) .fin))))))))) .skip)))) (.plan (Z1 38 (.mv (.t 10)) (Z1 39 (.bin .add (.t 38) (.c (.int .i64 1))) (Z1 10 (.mv (.t 39)) .fin))))))))) (.seq (.plan (Z1 76 (.mv (.t 9)) (Z1 6 (.mv (.t 76)) .fin))) .ret))))))),[(.t 6)]⟩
theorem h_spec_l11Trim:compF Tryz.prog 112=some c_spec_l11Trim:=by kernel_rfl
def c_spec_l12Set:CF:=⟨39,(.seq (.plan (Z1 3 (.box 28 6 (.t 0)) (Z1 6 (.alloc 28 [.nils,.nils,.nils,(.int .i64 0),(.int .i64 0),.nils]) (Z1 7 (.mv (.c (.bool false))) .fin)))) (.seq (.plan (Z1 11 (.mv (.t 2)) (Z1 13 (.fa 3 (.t 3)) (Z1 14 (.ld (.t 13)) (.both (.st (some 12) (.call 95 [(.t 11)]) none [((some 14),((.ld (.t 13)),none))] (.both (Z1 15 (.call 110 [(.t 12),(.t 14)]) (Z1 10 (.mv (.t 15)) (Z1 16 (.ext 0 (.t 10)) (Z1 17 (.ext 1 (.t 10)) (.st (some 8) (.alloc 76 [(.str ⟨#[]⟩),(.str ⟨#[]⟩),(.str ⟨#[]⟩),.nils,(.int .i64 0)]) none [((some 14),((.ld (.t 13)),none))] (.st none (.st 5 (.t 8) (.t 16)) none [] (Z1 9 (.mv (.t 17)) .fin))))))) (.st (some 8) (.alloc 76 [(.str ⟨#[]⟩),(.str ⟨#[]⟩),(.str ⟨#[]⟩),.nils,(.int .i64 0)]) none [((some 14),((.ld (.t 13)),none))] (Z1 15 (.call 110 [(.t 12),(.t 14)]) (Z1 10 (.mv (.t 15)) (Z1 16 (.ext 0 (.t 10)) (Z1 17 (.ext 1 (.t 10)) (.st none (.st 5 (.t 8) (.t 16)) none [] (Z1 9 (.mv (.t 17)) .fin))))))))) (.st (some 8) (.alloc 76 [(.str ⟨#[]⟩),(.str ⟨#[]⟩),(.str ⟨#[]⟩),.nils,(.int .i64 0)]) none [((some 14),((.ld (.t 13)),none))] (.st (some 12) (.call 95 [(.t 11)]) none [((some 14),((.ld (.t 13)),none))] (Z1 15 (.call 110 [(.t 12),(.t 14)]) (Z1 10 (.mv (.t 15)) (Z1 16 (.ext 0 (.t 10)) (Z1 17 (.ext 1 (.t 10)) (.st none (.st 5 (.t 8) (.t 16)) none [] (Z1 9 (.mv (.t 17)) .fin))))))))))))) (.seq (.seq (.plan (Z1 18 (.mv (.t 9)) (Z1 19 (.not (.t 18)) (Z1 20 (.mv (.t 19)) (.st (some 21) (.mv (.t 2)) (some (20,false)) [] (.st (some 22) (.len (.t 21)) (some (20,false)) [] (.st (some 23) (.mv (.t 1)) (some (20,false)) [] (.st (some 24) (.call 111 [(.t 23)]) (some (20,false)) [] (.st (some 25) (.bin .gtr (.t 22) (.t 24)) (some (20,false)) [] (Z1 26 (.pick (.t 20) (.c (.bool true)) (.t 25)) .fin)))))))))) (.cond (.t 26) (.seq (.plan (Z1 27 (.build [.nils,.nils,.nils,(.int .i64 0),(.int .i64 0),.nils] []) (.st none (.st 6 (.t 6) (.t 27)) none [] (Z1 7 (.mv (.c (.bool false))) .fin)))) .ret) .skip)) (.seq (.plan (Z1 28 (.fa 1 (.t 3)) (Z1 29 (.ld (.t 28)) (Z1 30 (.mv (.t 1)) (Z1 31 (.mv (.t 2)) (Z1 32 (.ia 1 (.t 29) (.t 30)) (.st none (.st 1 (.t 32) (.t 31)) none [] .fin))))))) (.seq (.plan (Z1 33 (.fa 2 (.t 3)) (Z1 34 (.ld (.t 33)) (Z1 35 (.mv (.t 1)) (Z1 36 (.lda 5 (.t 8)) (Z1 37 (.ia 5 (.t 34) (.t 35)) (.st none (.st 5 (.t 37) (.t 36)) none [] .fin))))))) (.seq (.plan (Z1 38 (.lda 6 (.t 3)) (.st none (.st 6 (.t 6) (.t 38)) none [] (Z1 7 (.mv (.c (.bool true))) .fin)))) .ret)))))),[(.ca 6 6),(.t 7)]⟩
theorem h_spec_l12Set:compF Tryz.prog 61=some c_spec_l12Set:=by kernel_rfl
end Go.Proofs.YtepeokaplbbpoaaGreat.B

namespace Go.Proofs.YtepeokaplbbpoaaGreat.B
open Go.Proofs
def c_spec_l12Into:CF:=⟨64,(.seq (.plan (Z1 3 (.box 28 6 (.t 0)) (Z1 6 (.alloc 28 [.nils,.nils,.nils,(.int .i64 0),(.int .i64 0),.nils]) (Z1 7 (.mv (.c (.bool false))) .fin)))) (.seq (.plan (Z1 13 (.mv (.t 1)) (Z1 14 (.bin .eql (.t 13) (.c (.int .i64 2))) (Z1 8 (.mv (.t 14)) .fin)))) (.seq (.plan (Z1 15 (.mv (.t 2)) (Z1 16 (.fa 1 (.t 3)) (Z1 17 (.ld (.t 16)) (Z1 18 (.mv (.t 1)) (Z1 19 (.ia 1 (.t 17) (.t 18)) (Z1 20 (.ld (.t 19)) (Z1 22 (.fa 5 (.t 3)) (Z1 23 (.ld (.t 22)) (Z1 24 (.mv (.t 8)) (.st (some 21) (.call 113 [(.t 15),(.t 20)]) none [((some 23),((.ld (.t 22)),none))] (Z1 25 (.call 112 [(.t 21),(.t 23),(.t 24)]) (Z1 9 (.mv (.t 25)) .fin))))))))))))) (.seq (.plan (Z1 27 (.lda 6 (.t 3)) (Z1 28 (.mv (.t 1)) (Z1 29 (.mv (.t 9)) (Z1 30 (.call 61 [(.t 27),(.t 28),(.t 29)]) (Z1 26 (.mv (.t 30)) (Z1 31 (.ext 0 (.t 26)) (Z1 32 (.ext 1 (.t 26)) (Z1 10 (.alloc 28 [.nils,.nils,.nils,(.int .i64 0),(.int .i64 0),.nils]) (.st none (.st 6 (.t 10) (.t 31)) none [] (Z1 11 (.mv (.t 32)) .fin))))))))))) (.seq (.seq (.plan (Z1 33 (.mv (.t 11)) (Z1 34 (.mv (.t 33)) (.st (some 35) (.mv (.t 8)) (some (34,false)) [] (Z1 36 (.pick (.t 34) (.c (.bool true)) (.t 35)) .fin))))) (.cond (.t 36) (.seq (.plan (Z1 37 (.lda 6 (.t 10)) (Z1 38 (.mv (.t 11)) (.st none (.st 6 (.t 6) (.t 37)) none [] (Z1 7 (.mv (.t 38)) .fin))))) .ret) .skip)) (.seq (.plan (Z1 39 (.fa 1 (.t 3)) (Z1 40 (.ld (.t 39)) (Z1 41 (.mv (.t 1)) (Z1 42 (.ia 1 (.t 40) (.t 41)) (Z1 43 (.ld (.t 42)) (Z1 12 (.mv (.t 43)) .fin))))))) (.seq (.plan (Z1 45 (.lda 6 (.t 3)) (Z1 46 (.mv (.t 1)) (Z1 47 (.bin .add (.t 46) (.c (.int .i64 1))) (Z1 48 (.mv (.t 12)) (Z1 49 (.call 62 [(.t 45),(.t 47),(.t 48)]) (Z1 44 (.mv (.t 49)) (Z1 50 (.ext 0 (.t 44)) (Z1 51 (.ext 1 (.t 44)) (.st none (.st 6 (.t 3) (.t 50)) none [] (Z1 11 (.mv (.t 51)) .fin))))))))))) (.seq (.seq (.plan (Z1 52 (.mv (.t 11)) (Z1 53 (.not (.t 52)) .fin))) (.cond (.t 53) (.seq (.plan (Z1 54 (.build [.nils,.nils,.nils,(.int .i64 0),(.int .i64 0),.nils] []) (.st none (.st 6 (.t 6) (.t 54)) none [] (Z1 7 (.mv (.c (.bool false))) .fin)))) .ret) .skip)) (.seq (.plan (Z1 55 (.lda 6 (.t 3)) (Z1 56 (.mv (.t 1)) (Z1 57 (.mv (.t 2)) (Z1 58 (.fa 5 (.t 3)) (Z1 59 (.ld (.t 58)) (.st (some 60) (.call 112 [(.t 57),(.t 59),(.c (.bool false))]) none [((some 55),((.lda 6 (.t 3)),none))] (Z1 61 (.call 61 [(.t 55),(.t 56),(.t 60)]) (Z1 62 (.ext 0 (.t 61)) (Z1 63 (.ext 1 (.t 61)) (.st none (.st 6 (.t 6) (.t 62)) none [] (Z1 7 (.mv (.t 63)) .fin)))))))))))) .ret))))))))),[(.ca 6 6),(.t 7)]⟩
theorem h_spec_l12Into:compF Tryz.prog 62=some c_spec_l12Into:=by kernel_rfl
def c_spec_l12Down:CF:=⟨14,(.seq (.plan (Z1 1 (.box 28 6 (.t 0)) (Z1 2 (.alloc 28 [.nils,.nils,.nils,(.int .i64 0),(.int .i64 0),.nils]) (Z1 3 (.mv (.c (.bool false))) .fin)))) (.seq (.plan (Z1 5 (.fa 0 (.t 1)) (Z1 6 (.ld (.t 5)) (Z1 4 (.mv (.t 6)) .fin)))) (.seq (.plan (Z1 7 (.lit 45 4 0 [] []) (Z1 8 (.fa 0 (.t 1)) (.st none (.st 1 (.t 8) (.t 7)) none [] .fin)))) (.seq (.plan (Z1 9 (.lda 6 (.t 1)) (Z1 10 (.mv (.t 4)) (Z1 11 (.call 62 [(.t 9),(.c (.int .i64 0)),(.t 10)]) (Z1 12 (.ext 0 (.t 11)) (Z1 13 (.ext 1 (.t 11)) (.st none (.st 6 (.t 2) (.t 12)) none [] (Z1 3 (.mv (.t 13)) .fin)))))))) .ret)))),[(.ca 2 6),(.t 3)]⟩
theorem h_spec_l12Down:compF Tryz.prog 47=some c_spec_l12Down:=by kernel_rfl
def c_spec_l12Add:CF:=⟨42,(.seq (.plan (Z1 2 (.box 28 6 (.t 0)) (Z1 3 (.box 45 4 (.t 1)) (Z1 4 (.alloc 28 [.nils,.nils,.nils,(.int .i64 0),(.int .i64 0),.nils]) (Z1 5 (.mv (.c (.bool false))) .fin))))) (.seq (.seq (.plan (Z1 8 (.lda 6 (.t 2)) (Z1 9 (.call 39 [(.t 8)]) (Z1 10 (.not (.t 9)) (Z1 11 (.mv (.t 10)) (.st (some 12) (.lda 4 (.t 3)) (some (11,false)) [] (.st (some 13) (.call 124 [(.t 12)]) (some (11,false)) [] (.st (some 14) (.not (.t 13)) (some (11,false)) [] (Z1 15 (.pick (.t 11) (.c (.bool true)) (.t 14)) .fin))))))))) (.cond (.t 15) (.seq (.plan (Z1 16 (.build [.nils,.nils,.nils,(.int .i64 0),(.int .i64 0),.nils] []) (.st none (.st 6 (.t 4) (.t 16)) none [] (Z1 5 (.mv (.c (.bool false))) .fin)))) .ret) .skip)) (.seq (.plan (Z1 17 (.lda 6 (.t 2)) (Z1 18 (.call 48 [(.t 17)]) (.st none (.st 6 (.t 2) (.t 18)) none [] .fin)))) (.seq (.seq (.plan (Z1 19 (.fa 0 (.t 2)) (Z1 20 (.ld (.t 19)) (Z1 21 (.len (.t 20)) (Z1 22 (.bin .geq (.t 21) (.c (.int .i64 4))) .fin))))) (.cond (.t 22) (.seq (.plan (Z1 24 (.lda 6 (.t 2)) (Z1 25 (.call 47 [(.t 24)]) (Z1 23 (.mv (.t 25)) (Z1 26 (.ext 0 (.t 23)) (Z1 27 (.ext 1 (.t 23)) (Z1 6 (.alloc 28 [.nils,.nils,.nils,(.int .i64 0),(.int .i64 0),.nils]) (.st none (.st 6 (.t 6) (.t 26)) none [] (Z1 7 (.mv (.t 27)) .fin))))))))) (.seq (.seq (.plan (Z1 28 (.mv (.t 7)) (Z1 29 (.not (.t 28)) .fin))) (.cond (.t 29) (.seq (.plan (Z1 30 (.build [.nils,.nils,.nils,(.int .i64 0),(.int .i64 0),.nils] []) (.st none (.st 6 (.t 4) (.t 30)) none [] (Z1 5 (.mv (.c (.bool false))) .fin)))) .ret) .skip)) (.plan (Z1 31 (.lda 6 (.t 6)) (.st none (.st 6 (.t 2) (.t 31)) none [] .fin))))) .skip)) (.seq (.plan (Z1 32 (.lda 4 (.t 3)) (Z1 33 (.lit 45 4 1 [(.str ⟨#[]⟩),(.int .i64 0),(.bool false),(.int .i64 0)] [(0,(4,(.t 32)))]) (Z1 34 (.fa 0 (.t 2)) (Z1 35 (.ld (.t 34)) (Z1 36 (.call 113 [(.t 33),(.t 35)]) (Z1 37 (.fa 0 (.t 2)) (.st none (.st 1 (.t 37) (.t 36)) none [] .fin)))))))) (.seq (.plan (Z1 38 (.fa 3 (.t 3)) (Z1 39 (.ld (.t 38)) (Z1 40 (.fa 4 (.t 2)) (.st none (.st 1 (.t 40) (.t 39)) none [] .fin))))) (.seq (.plan (Z1 41 (.lda 6 (.t 2)) (.st none (.st 6 (.t 4) (.t 41)) none [] (Z1 5 (.mv (.c (.bool true))) .fin)))) .ret))))))),[(.ca 4 6),(.t 5)]⟩
theorem h_spec_l12Add:compF Tryz.prog 78=some c_spec_l12Add:=by kernel_rfl
def c_spec_StorePut:CF:=⟨18,(.seq (.plan (Z1 3 (.box 28 6 (.t 0)) (Z1 6 (.alloc 28 [.nils,.nils,.nils,(.int .i64 0),(.int .i64 0),.nils]) (Z1 7 (.mv (.c (.bool false))) .fin)))) (.seq (.plan (Z1 8 (.lda 6 (.t 3)) (Z1 9 (.mv (.t 1)) (Z1 10 (.mv (.t 2)) (Z1 11 (.fa 4 (.t 3)) (Z1 12 (.ld (.t 11)) (Z1 13 (.bin .add (.t 12) (.c (.int .i64 1))) (Z1 14 (.build [(.str ⟨#[]⟩),(.int .i64 0),(.bool false),(.int .i64 0)] [(0,(1,(.t 9))),(1,(1,(.t 10))),(3,(1,(.t 13)))]) (Z1 15 (.call 78 [(.t 8),(.t 14)]) (Z1 16 (.ext 0 (.t 15)) (Z1 17 (.ext 1 (.t 15)) (.st none (.st 6 (.t 6) (.t 16)) none [] (Z1 7 (.mv (.t 17)) .fin))))))))))))) .ret)),[(.ca 6 6),(.t 7)]⟩
theorem h_spec_StorePut:compF Tryz.prog 30=some c_spec_StorePut:=by kernel_rfl
def c_spec_StoreTake:CF:=⟨15,(.seq (.plan (Z1 2 (.box 28 6 (.t 0)) (Z1 4 (.alloc 28 [.nils,.nils,.nils,(.int .i64 0),(.int .i64 0),.nils]) (Z1 5 (.mv (.c (.bool false))) .fin)))) (.seq (.plan (Z1 6 (.lda 6 (.t 2)) (Z1 7 (.mv (.t 1)) (Z1 8 (.fa 4 (.t 2)) (Z1 9 (.ld (.t 8)) (Z1 10 (.bin .add (.t 9) (.c (.int .i64 1))) (Z1 11 (.build [(.str ⟨#[]⟩),(.int .i64 0),(.bool false),(.int .i64 0)] [(0,(1,(.t 7))),(2,(1,(.c (.bool true)))),(3,(1,(.t 10)))]) (Z1 12 (.call 78 [(.t 6),(.t 11)]) (Z1 13 (.ext 0 (.t 12)) (Z1 14 (.ext 1 (.t 12)) (.st none (.st 6 (.t 4) (.t 13)) none [] (Z1 5 (.mv (.t 14)) .fin)))))))))))) .ret)),[(.ca 4 6),(.t 5)]⟩
theorem h_spec_StoreTake:compF Tryz.prog 27=some c_spec_StoreTake:=by kernel_rfl
def c_spec_StoreHold:CF:=⟨45,(.seq (.plan (Z1 1 (.box 28 6 (.t 0)) (Z1 2 (.alloc 28 [.nils,.nils,.nils,(.int .i64 0),(.int .i64 0),.nils]) (Z1 3 (.mv (.c (.int .i64 0))) (Z1 4 (.mv (.c (.bool false))) .fin))))) (.seq (.seq (.plan (Z1 6 (.lda 6 (.t 1)) (Z1 7 (.call 39 [(.t 6)]) (Z1 8 (.not (.t 7)) .fin)))) (.cond (.t 8) (.seq (.plan (Z1 9 (.build [.nils,.nils,.nils,(.int .i64 0),(.int .i64 0),.nils] []) (.st none (.st 6 (.t 2) (.t 9)) none [] (Z1 3 (.mv (.c (.int .i64 0))) (Z1 4 (.mv (.c (.bool false))) .fin))))) .ret) .skip)) (.seq (.plan (Z1 10 (.lda 6 (.t 1)) (Z1 11 (.call 48 [(.t 10)]) (.st none (.st 6 (.t 1) (.t 11)) none [] .fin)))) (.seq (.plan (Z1 12 (.fa 5 (.t 1)) (Z1 13 (.ld (.t 12)) (Z1 14 (.len (.t 13)) (Z1 5 (.mv (.t 14)) .fin))))) (.seq (.seq (.plan (Z1 15 (.mv (.t 5)) (Z1 16 (.bin .eql (.t 15) (.c (.int .i64 0))) (Z1 17 (.mv (.t 16)) (.st (some 18) (.fa 5 (.t 1)) (some (17,false)) [] (.st (some 19) (.ld (.t 18)) (some (17,false)) [] (.st (some 20) (.mv (.t 5)) (some (17,false)) [] (.st (some 21) (.bin .sub (.t 20) (.c (.int .i64 1))) (some (17,false)) [] (.st (some 22) (.ia 1 (.t 19) (.t 21)) (some (17,false)) [] (.st (some 23) (.ld (.t 22)) (some (17,false)) [] (.st (some 24) (.fa 4 (.t 1)) (some (17,false)) [] (.st (some 25) (.ld (.t 24)) (some (17,false)) [] (.st (some 26) (.bin .neq (.t 23) (.t 25)) (some (17,false)) [] (Z1 27 (.pick (.t 17) (.c (.bool true)) (.t 26)) .fin)))))))))))))) (.cond (.t 27) (.plan (Z1 28 (.fa 5 (.t 1)) (Z1 29 (.ld (.t 28)) (Z1 30 (.fa 4 (.t 1)) (Z1 31 (.ld (.t 30)) (Z1 32 (.lit 3 1 1 [(.int .i64 0)] [(0,(1,(.t 31)))]) (Z1 33 (.app 3 1 8 (.t 29) (.t 32)) (Z1 34 (.fa 5 (.t 1)) (.st none (.st 1 (.t 34) (.t 33)) none [] .fin))))))))) .skip)) (.seq (.seq (.plan (Z1 35 (.fa 5 (.t 1)) (Z1 36 (.ld (.t 35)) (Z1 37 (.fa 4 (.t 1)) (Z1 38 (.ld (.t 37)) (Z1 39 (.call 89 [(.t 36),(.t 38)]) (Z1 40 (.not (.t 39)) .fin))))))) (.cond (.t 40) (.seq (.plan (Z1 41 (.build [.nils,.nils,.nils,(.int .i64 0),(.int .i64 0),.nils] []) (.st none (.st 6 (.t 2) (.t 41)) none [] (Z1 3 (.mv (.c (.int .i64 0))) (Z1 4 (.mv (.c (.bool false))) .fin))))) .ret) .skip)) (.seq (.plan (Z1 42 (.lda 6 (.t 1)) (Z1 43 (.fa 4 (.t 1)) (Z1 44 (.ld (.t 43)) (.st none (.st 6 (.t 2) (.t 42)) none [((some 44),((.ld (.t 43)),none))] (Z1 3 (.mv (.t 44)) (Z1 4 (.mv (.c (.bool true))) .fin))))))) .ret))))))),[(.ca 2 6),(.t 3),(.t 4)]⟩
theorem h_spec_StoreHold:compF Tryz.prog 129=some c_spec_StoreHold:=by kernel_rfl
def c_spec_StoreFree:CF:=⟨47,(.seq (.plan (Z1 2 (.box 28 6 (.t 0)) (Z1 4 (.alloc 28 [.nils,.nils,.nils,(.int .i64 0),(.int .i64 0),.nils]) (Z1 5 (.mv (.c (.bool false))) .fin)))) (.seq (.seq (.plan (Z1 8 (.lda 6 (.t 2)) (Z1 9 (.call 39 [(.t 8)]) (Z1 10 (.not (.t 9)) .fin)))) (.cond (.t 10) (.seq (.plan (Z1 11 (.build [.nils,.nils,.nils,(.int .i64 0),(.int .i64 0),.nils] []) (.st none (.st 6 (.t 4) (.t 11)) none [] (Z1 5 (.mv (.c (.bool false))) .fin)))) .ret) .skip)) (.seq (.plan (Z1 12 (.lda 6 (.t 2)) (Z1 13 (.call 48 [(.t 12)]) (.st none (.st 6 (.t 2) (.t 13)) none [] .fin)))) (.seq (.plan (Z1 14 (.lit 3 1 0 [] []) (Z1 6 (.mv (.t 14)) .fin))) (.seq (.seq (.plan (Z1 7 (.mv (.c (.int .i64 0))) .fin)) (.block 0 (.loop (.seq (.seq (.plan (Z1 15 (.mv (.t 7)) (Z1 16 (.fa 5 (.t 2)) (Z1 17 (.ld (.t 16)) (Z1 18 (.len (.t 17)) (Z1 19 (.bin .lss (.t 15) (.t 18)) .fin)))))) (.cond (.t 19) .skip (.exit 0))) (.seq (.block 1 (.seq (.plan (Z1 22 (.fa 5 (.t 2)) (Z1 23 (.ld (.t 22)) (Z1 24 (.mv (.t 7)) (Z1 25 (.ia 1 (.t 23) (.t 24)) (Z1 26 (.ld (.t 25)) (Z1 27 (.mv (.t 1)) (Z1 28 (.bin .neq (.t 26) (.t 27)) .fin)))))))) (.cond (.t 28) (.plan (Z1 29 (.mv (.t 6)) (Z1 30 (.fa 5 (.t 2)) (Z1 31 (.ld (.t 30)) (Z1 32 (.mv (.t 7)) (Z1 33 (.ia 1 (.t 31) (.t 32)) (Z1 34 (.ld (.t 33)) (Z1 35 (.lit 3 1 1 [(.int .i64 0)] [(0,(1,(.t 34)))]) (Z1 36 (.app 3 1 8 (.t 29) (.t 35)) (Z1 6 (.mv (.t 36)) .fin)))))))))) .skip))) (.plan (Z1 20 (.mv (.t 7)) (Z1 21 (.bin .add (.t 20) (.c (.int .i64 1))) (Z1 7 (.mv (.t 21)) .fin))))))))) (.seq (.seq (.plan (Z1 37 (.mv (.t 6)) (Z1 38 (.len (.t 37)) (Z1 39 (.fa 5 (.t 2)) (Z1 40 (.ld (.t 39)) (Z1 41 (.len (.t 40)) (Z1 42 (.bin .eql (.t 38) (.t 41)) .fin))))))) (.cond (.t 42) (.seq (.plan (Z1 43 (.build [.nils,.nils,.nils,(.int .i64 0),(.int .i64 0),.nils] []) (.st none (.st 6 (.t 4) (.t 43)) none [] (Z1 5 (.mv (.c (.bool false))) .fin)))) .ret) .skip)) (.seq (.plan (Z1 44 (.mv (.t 6)) (Z1 45 (.fa 5 (.t 2)) (.st none (.st 1 (.t 45) (.t 44)) none [] .fin)))) (.seq (.plan (Z1 46 (.lda 6 (.t 2)) (.st none (.st 6 (.t 4) (.t 46)) none [] (Z1 5 (.mv (.c (.bool true))) .fin)))) .ret)))))))),[(.ca 4 6),(.t 5)]⟩
theorem h_spec_StoreFree:compF Tryz.prog 33=some c_spec_StoreFree:=by kernel_rfl
def c_spec_StoreDown:CF:=⟨13,(.seq (.plan (Z1 1 (.box 28 6 (.t 0)) (Z1 2 (.alloc 28 [.nils,.nils,.nils,(.int .i64 0),(.int .i64 0),.nils]) (Z1 3 (.mv (.c (.bool false))) .fin)))) (.seq (.seq (.plan (Z1 4 (.lda 6 (.t 1)) (Z1 5 (.call 39 [(.t 4)]) (Z1 6 (.not (.t 5)) .fin)))) (.cond (.t 6) (.seq (.plan (Z1 7 (.build [.nils,.nils,.nils,(.int .i64 0),(.int .i64 0),.nils] []) (.st none (.st 6 (.t 2) (.t 7)) none [] (Z1 3 (.mv (.c (.bool false))) .fin)))) .ret) .skip)) (.seq (.plan (Z1 8 (.lda 6 (.t 1)) (Z1 9 (.call 48 [(.t 8)]) (Z1 10 (.call 47 [(.t 9)]) (Z1 11 (.ext 0 (.t 10)) (Z1 12 (.ext 1 (.t 10)) (.st none (.st 6 (.t 2) (.t 11)) none [] (Z1 3 (.mv (.t 12)) .fin)))))))) .ret))),[(.ca 2 6),(.t 3)]⟩
theorem h_spec_StoreDown:compF Tryz.prog 16=some c_spec_StoreDown:=by kernel_rfl
def c_spec_StoreJoin:CF:=⟨42,(.seq (.plan (Z1 2 (.box 28 6 (.t 0)) (Z1 4 (.alloc 28 [.nils,.nils,.nils,(.int .i64 0),(.int .i64 0),.nils]) (Z1 5 (.mv (.c (.bool false))) .fin)))) (.seq (.seq (.plan (Z1 9 (.lda 6 (.t 2)) (Z1 10 (.call 39 [(.t 9)]) (Z1 11 (.not (.t 10)) (Z1 12 (.mv (.t 11)) (.st (some 13) (.mv (.t 1)) (some (12,false)) [] (.st (some 14) (.call 60 [(.t 13),(.c (.int .i64 0)),(.c (.int .i64 1))]) (some (12,false)) [] (.st (some 15) (.not (.t 14)) (some (12,false)) [] (Z1 16 (.pick (.t 12) (.c (.bool true)) (.t 15)) .fin))))))))) (.cond (.t 16) (.seq (.plan (Z1 17 (.build [.nils,.nils,.nils,(.int .i64 0),(.int .i64 0),.nils] []) (.st none (.st 6 (.t 4) (.t 17)) none [] (Z1 5 (.mv (.c (.bool false))) .fin)))) .ret) .skip)) (.seq (.plan (Z1 18 (.lda 6 (.t 2)) (Z1 19 (.call 48 [(.t 18)]) (.st none (.st 6 (.t 2) (.t 19)) none [] .fin)))) (.seq (.plan (Z1 20 (.fa 1 (.t 2)) (Z1 21 (.ld (.t 20)) (Z1 22 (.mv (.t 1)) (Z1 23 (.ia 1 (.t 21) (.t 22)) (Z1 24 (.ld (.t 23)) (Z1 6 (.mv (.t 24)) .fin))))))) (.seq (.plan (Z1 26 (.lda 6 (.t 2)) (Z1 27 (.mv (.t 1)) (Z1 28 (.lit 45 4 0 [] []) (Z1 29 (.call 61 [(.t 26),(.t 27),(.t 28)]) (Z1 25 (.mv (.t 29)) (Z1 30 (.ext 0 (.t 25)) (Z1 31 (.ext 1 (.t 25)) (Z1 7 (.alloc 28 [.nils,.nils,.nils,(.int .i64 0),(.int .i64 0),.nils]) (.st none (.st 6 (.t 7) (.t 30)) none [] (Z1 8 (.mv (.t 31)) .fin))))))))))) (.seq (.seq (.plan (Z1 32 (.mv (.t 8)) (Z1 33 (.not (.t 32)) .fin))) (.cond (.t 33) (.seq (.plan (Z1 34 (.build [.nils,.nils,.nils,(.int .i64 0),(.int .i64 0),.nils] []) (.st none (.st 6 (.t 4) (.t 34)) none [] (Z1 5 (.mv (.c (.bool false))) .fin)))) .ret) .skip)) (.seq (.plan (Z1 35 (.lda 6 (.t 7)) (Z1 36 (.mv (.t 1)) (Z1 37 (.bin .add (.t 36) (.c (.int .i64 1))) (Z1 38 (.mv (.t 6)) (Z1 39 (.call 62 [(.t 35),(.t 37),(.t 38)]) (Z1 40 (.ext 0 (.t 39)) (Z1 41 (.ext 1 (.t 39)) (.st none (.st 6 (.t 4) (.t 40)) none [] (Z1 5 (.mv (.t 41)) .fin)))))))))) .ret))))))),[(.ca 4 6),(.t 5)]⟩
theorem h_spec_StoreJoin:compF Tryz.prog 22=some c_spec_StoreJoin:=by kernel_rfl
def c_spec_l13Do:CF:=⟨62,(.seq (.plan (Z1 2 (.box 28 6 (.t 0)) (Z1 3 (.box 56 3 (.t 1)) (Z1 4 (.alloc 28 [.nils,.nils,.nils,(.int .i64 0),(.int .i64 0),.nils]) (Z1 5 (.mv (.c (.bool false))) .fin))))) (.seq (.seq (.plan (Z1 9 (.fa 0 (.t 3)) (Z1 10 (.ld (.t 9)) .fin))) (.block 0 (.seq (.plan (Z1 12 (.bin .eql (.t 10) (.c (.int .i64 1))) (Z1 11 (.mv (.t 12)) .fin))) (.cond (.t 11) (.seq (.plan (Z1 13 (.lda 6 (.t 2)) (Z1 14 (.fa 1 (.t 3)) (Z1 15 (.ld (.t 14)) (Z1 16 (.fa 2 (.t 3)) (Z1 17 (.ld (.t 16)) (Z1 18 (.call 30 [(.t 13),(.t 15),(.t 17)]) (Z1 19 (.ext 0 (.t 18)) (Z1 20 (.ext 1 (.t 18)) (.st none (.st 6 (.t 4) (.t 19)) none [] (Z1 5 (.mv (.t 20)) .fin))))))))))) .ret) (.seq (.plan (Z1 22 (.bin .eql (.t 10) (.c (.int .i64 2))) (Z1 21 (.mv (.t 22)) .fin))) (.cond (.t 21) (.seq (.plan (Z1 23 (.lda 6 (.t 2)) (Z1 24 (.fa 1 (.t 3)) (Z1 25 (.ld (.t 24)) (Z1 26 (.call 27 [(.t 23),(.t 25)]) (Z1 27 (.ext 0 (.t 26)) (Z1 28 (.ext 1 (.t 26)) (.st none (.st 6 (.t 4) (.t 27)) none [] (Z1 5 (.mv (.t 28)) .fin))))))))) .ret) (.seq (.plan (Z1 30 (.bin .eql (.t 10) (.c (.int .i64 3))) (Z1 29 (.mv (.t 30)) .fin))) (.cond (.t 29) (.seq (.plan (Z1 32 (.lda 6 (.t 2)) (Z1 33 (.call 129 [(.t 32)]) (Z1 31 (.mv (.t 33)) (Z1 34 (.ext 0 (.t 31)) (Z1 35 (.ext 1 (.t 31)) (Z1 36 (.ext 2 (.t 31)) (Z1 6 (.alloc 28 [.nils,.nils,.nils,(.int .i64 0),(.int .i64 0),.nils]) (.st none (.st 6 (.t 6) (.t 34)) none [] (Z1 7 (.mv (.t 35)) (Z1 8 (.mv (.t 36)) .fin))))))))))) (.seq (.plan (Z1 37 (.lda 6 (.t 6)) (Z1 38 (.mv (.t 8)) (.st none (.st 6 (.t 4) (.t 37)) none [] (Z1 5 (.mv (.t 38)) .fin))))) .ret)) (.seq (.plan (Z1 40 (.bin .eql (.t 10) (.c (.int .i64 4))) (Z1 39 (.mv (.t 40)) .fin))) (.cond (.t 39) (.seq (.plan (Z1 41 (.lda 6 (.t 2)) (Z1 42 (.fa 2 (.t 3)) (Z1 43 (.ld (.t 42)) (Z1 44 (.call 33 [(.t 41),(.t 43)]) (Z1 45 (.ext 0 (.t 44)) (Z1 46 (.ext 1 (.t 44)) (.st none (.st 6 (.t 4) (.t 45)) none [] (Z1 5 (.mv (.t 46)) .fin))))))))) .ret) (.seq (.plan (Z1 48 (.bin .eql (.t 10) (.c (.int .i64 5))) (Z1 47 (.mv (.t 48)) .fin))) (.cond (.t 47) (.seq (.plan (Z1 49 (.lda 6 (.t 2)) (Z1 50 (.call 16 [(.t 49)]) (Z1 51 (.ext 0 (.t 50)) (Z1 52 (.ext 1 (.t 50)) (.st none (.st 6 (.t 4) (.t 51)) none [] (Z1 5 (.mv (.t 52)) .fin))))))) .ret) (.seq (.plan (Z1 54 (.bin .eql (.t 10) (.c (.int .i64 6))) (Z1 53 (.mv (.t 54)) .fin))) (.cond (.t 53) (.seq (.plan (Z1 55 (.lda 6 (.t 2)) (Z1 56 (.fa 2 (.t 3)) (Z1 57 (.ld (.t 56)) (Z1 58 (.call 22 [(.t 55),(.t 57)]) (Z1 59 (.ext 0 (.t 58)) (Z1 60 (.ext 1 (.t 58)) (.st none (.st 6 (.t 4) (.t 59)) none [] (Z1 5 (.mv (.t 60)) .fin))))))))) .ret) .skip)))))))))))))) (.seq (.plan (Z1 61 (.build [.nils,.nils,.nils,(.int .i64 0),(.int .i64 0),.nils] []) (.st none (.st 6 (.t 4) (.t 61)) none [] (Z1 5 (.mv (.c (.bool false))) .fin)))) .ret))),[(.ca 4 6),(.t 5)]⟩
theorem h_spec_l13Do:compF Tryz.prog 88=some c_spec_l13Do:=by kernel_rfl
def c_spec_PastDo:CF:=⟨38,(.seq (.plan (Z1 2 (.box 28 6 (.t 0)) (Z1 4 (.alloc 28 [.nils,.nils,.nils,(.int .i64 0),(.int .i64 0),.nils]) (Z1 5 (.mv (.c (.bool false))) .fin)))) (.seq (.seq (.plan (Z1 9 (.lda 6 (.t 2)) (Z1 10 (.call 39 [(.t 9)]) (Z1 11 (.not (.t 10)) (Z1 12 (.mv (.t 11)) (.st (some 13) (.mv (.t 1)) (some (12,false)) [] (.st (some 14) (.len (.t 13)) (some (12,false)) [] (.st (some 15) (.bin .gtr (.t 14) (.c (.int .i64 40))) (some (12,false)) [] (Z1 16 (.pick (.t 12) (.c (.bool true)) (.t 15)) .fin))))))))) (.cond (.t 16) (.seq (.plan (Z1 17 (.build [.nils,.nils,.nils,(.int .i64 0),(.int .i64 0),.nils] []) (.st none (.st 6 (.t 4) (.t 17)) none [] (Z1 5 (.mv (.c (.bool false))) .fin)))) .ret) .skip)) (.seq (.plan (Z1 18 (.lda 6 (.t 2)) (Z1 19 (.call 48 [(.t 18)]) (.st none (.st 6 (.t 2) (.t 19)) none [] .fin)))) (.seq (.seq (.plan (Z1 6 (.mv (.c (.int .i64 0))) .fin)) (.block 0 (.loop (.seq (.seq (.plan (Z1 20 (.mv (.t 6)) (Z1 21 (.mv (.t 1)) (Z1 22 (.len (.t 21)) (Z1 23 (.bin .lss (.t 20) (.t 22)) .fin))))) (.cond (.t 23) .skip (.exit 0))) (.seq (.block 1 (.seq (.plan (Z1 27 (.lda 6 (.t 2)) (Z1 28 (.mv (.t 1)) (Z1 29 (.mv (.t 6)) (Z1 30 (.ia 3 (.t 28) (.t 29)) (Z1 31 (.lda 3 (.t 30)) (.both (Z1 32 (.call 88 [(.t 27),(.t 31)]) (Z1 26 (.mv (.t 32)) (Z1 33 (.ext 0 (.t 26)) (Z1 34 (.ext 1 (.t 26)) (.st (some 7) (.alloc 28 [.nils,.nils,.nils,(.int .i64 0),(.int .i64 0),.nils]) none [((some 31),((.lda 3 (.t 30)),none)),((some 30),((.ia 3 (.t 28) (.t 29)),none)),((some 27),((.lda 6 (.t 2)),none))] (.st none (.st 6 (.t 7) (.t 33)) none [] (Z1 8 (.mv (.t 34)) .fin))))))) (.st (some 7) (.alloc 28 [.nils,.nils,.nils,(.int .i64 0),(.int .i64 0),.nils]) none [((some 31),((.lda 3 (.t 30)),none)),((some 30),((.ia 3 (.t 28) (.t 29)),none)),((some 27),((.lda 6 (.t 2)),none))] (Z1 32 (.call 88 [(.t 27),(.t 31)]) (Z1 26 (.mv (.t 32)) (Z1 33 (.ext 0 (.t 26)) (Z1 34 (.ext 1 (.t 26)) (.st none (.st 6 (.t 7) (.t 33)) none [] (Z1 8 (.mv (.t 34)) .fin)))))))))))))) (.seq (.plan (Z1 35 (.mv (.t 8)) .fin)) (.cond (.t 35) (.plan (Z1 36 (.lda 6 (.t 7)) (.st none (.st 6 (.t 2) (.t 36)) none [] .fin))) .skip)))) (.plan (Z1 24 (.mv (.t 6)) (Z1 25 (.bin .add (.t 24) (.c (.int .i64 1))) (Z1 6 (.mv (.t 25)) .fin))))))))) (.seq (.plan (Z1 37 (.lda 6 (.t 2)) (.st none (.st 6 (.t 4) (.t 37)) none [] (Z1 5 (.mv (.c (.bool true))) .fin)))) .ret))))),[(.ca 4 6),(.t 5)]⟩
theorem h_spec_PastDo:compF Tryz.prog 140=some c_spec_PastDo:=by kernel_rfl
def c_spec_l71Store:CF:=⟨22,(.seq (.plan (Z1 2 (.alloc 28 [.nils,.nils,.nils,(.int .i64 0),(.int .i64 0),.nils]) .fin)) (.seq (.plan (Z1 6 (.lit 3 1 5 [(.int .i64 0),(.int .i64 0),(.int .i64 0),(.int .i64 0),(.int .i64 0)] [(0,(1,(.c (.int .i64 0)))),(1,(1,(.c (.int .i64 1)))),(2,(1,(.c (.int .i64 1)))),(3,(1,(.c (.int .i64 2)))),(4,(1,(.c (.int .i64 5))))]) (Z1 7 (.mv (.t 0)) (Z1 8 (.call 59 [(.t 7),(.c (.int .i64 5))]) (Z1 9 (.ia 1 (.t 6) (.t 8)) (Z1 10 (.ld (.t 9)) (Z1 11 (.call 85 [(.t 10)]) (Z1 5 (.mv (.t 11)) (Z1 12 (.ext 0 (.t 5)) (Z1 13 (.ext 1 (.t 5)) (Z1 3 (.alloc 28 [.nils,.nils,.nils,(.int .i64 0),(.int .i64 0),.nils]) (.st none (.st 6 (.t 3) (.t 12)) none [] (Z1 4 (.mv (.t 13)) .fin))))))))))))) (.seq (.plan (Z1 15 (.lda 6 (.t 3)) (Z1 16 (.mv (.t 0)) (.st (some 17) (.call 86 [(.t 16),(.c (.int .i64 30))]) none [((some 15),((.lda 6 (.t 3)),none))] (Z1 18 (.call 140 [(.t 15),(.t 17)]) (Z1 14 (.mv (.t 18)) (Z1 19 (.ext 0 (.t 14)) (Z1 20 (.ext 1 (.t 14)) (.st none (.st 6 (.t 3) (.t 19)) none [] .fin))))))))) (.seq (.plan (Z1 21 (.lda 6 (.t 3)) (.st none (.st 6 (.t 2) (.t 21)) none [] .fin))) .ret)))),[(.ca 2 6)]⟩
theorem h_spec_l71Store:compF Tryz.prog 101=some c_spec_l71Store:=by kernel_rfl
def c_spec_l71Spoilt:CF:=⟨58,(.seq (.plan (Z1 2 (.alloc 28 [.nils,.nils,.nils,(.int .i64 0),(.int .i64 0),.nils]) .fin)) (.seq (.plan (Z1 4 (.mv (.t 0)) (Z1 5 (.call 101 [(.t 4)]) (Z1 3 (.alloc 28 [.nils,.nils,.nils,(.int .i64 0),(.int .i64 0),.nils]) (.st none (.st 6 (.t 3) (.t 5)) none [] .fin))))) (.seq (.seq (.plan (Z1 6 (.mv (.t 0)) (Z1 7 (.call 59 [(.t 6),(.c (.int .i64 14))]) (Z1 8 (.bin .gtr (.t 7) (.c (.int .i64 0))) .fin)))) (.cond (.t 8) (.seq (.plan (Z1 9 (.lda 6 (.t 3)) (.st none (.st 6 (.t 2) (.t 9)) none [] .fin))) .ret) .skip)) (.seq (.seq (.plan (Z1 10 (.mv (.t 0)) (Z1 11 (.call 59 [(.t 10),(.c (.int .i64 6))]) .fin))) (.block 0 (.seq (.plan (Z1 19 (.bin .eql (.t 11) (.c (.int .i64 0))) (Z1 18 (.mv (.t 19)) .fin))) (.cond (.t 18) (.plan (Z1 20 (.lit 3 1 2 [(.int .i64 0),(.int .i64 0)] [(0,(1,(.c (.int .i64 (-1))))),(1,(1,(.c (.int .i64 1000))))]) (Z1 21 (.mv (.t 0)) (Z1 22 (.call 59 [(.t 21),(.c (.int .i64 2))]) (Z1 23 (.ia 1 (.t 20) (.t 22)) (Z1 24 (.ld (.t 23)) (Z1 25 (.fa 4 (.t 3)) (.st none (.st 1 (.t 25) (.t 24)) none [] .fin)))))))) (.seq (.plan (Z1 27 (.bin .eql (.t 11) (.c (.int .i64 1))) (Z1 26 (.mv (.t 27)) .fin))) (.cond (.t 26) (.plan (Z1 28 (.fa 5 (.t 3)) (Z1 29 (.ld (.t 28)) (Z1 30 (.fa 4 (.t 3)) (Z1 31 (.ld (.t 30)) (Z1 32 (.bin .add (.t 31) (.c (.int .i64 1))) (Z1 33 (.lit 3 1 1 [(.int .i64 0)] [(0,(1,(.t 32)))]) (Z1 34 (.app 3 1 8 (.t 29) (.t 33)) (Z1 35 (.fa 5 (.t 3)) (.st none (.st 1 (.t 35) (.t 34)) none [] .fin)))))))))) (.seq (.plan (Z1 37 (.bin .eql (.t 11) (.c (.int .i64 2))) (Z1 36 (.mv (.t 37)) .fin))) (.cond (.t 36) (.plan (Z1 38 (.fa 1 (.t 3)) (Z1 39 (.ld (.t 38)) (Z1 40 (.cut 1 (.t 39) (some (.c (.int .i64 1))) none) (Z1 41 (.fa 1 (.t 3)) (.st none (.st 1 (.t 41) (.t 40)) none [] .fin)))))) (.seq (.plan (Z1 43 (.bin .eql (.t 11) (.c (.int .i64 3))) (Z1 42 (.mv (.t 43)) .fin))) (.cond (.t 42) (.plan (Z1 44 (.fa 2 (.t 3)) (Z1 45 (.ld (.t 44)) (Z1 46 (.fa 2 (.t 3)) (Z1 47 (.ld (.t 46)) (Z1 48 (.ia 5 (.t 47) (.c (.int .i64 0))) (Z1 49 (.fa 0 (.t 48)) (Z1 50 (.ld (.t 49)) (Z1 51 (.bin .add (.t 50) (.c (.str ⟨#[97]⟩))) (Z1 52 (.ia 5 (.t 45) (.c (.int .i64 0))) (Z1 53 (.fa 0 (.t 52)) (.st none (.st 1 (.t 53) (.t 51)) none [] .fin)))))))))))) (.seq (.plan (Z1 55 (.bin .eql (.t 11) (.c (.int .i64 4))) (Z1 54 (.mv (.t 55)) .fin))) (.cond (.t 54) (.plan (Z1 56 (.fa 3 (.t 3)) (.st none (.st 1 (.t 56) (.c (.int .i64 6))) none [] .fin))) (.plan (Z1 12 (.fa 0 (.t 3)) (Z1 13 (.ld (.t 12)) (Z1 14 (.build [(.str ⟨#[]⟩),(.int .i64 0),(.bool false),(.int .i64 0)] [(0,(1,(.c (.str ⟨#[]⟩)))),(3,(1,(.c (.int .i64 0))))]) (Z1 15 (.lit 45 4 1 [(.str ⟨#[]⟩),(.int .i64 0),(.bool false),(.int .i64 0)] [(0,(4,(.t 14)))]) (Z1 16 (.app 45 4 40 (.t 13) (.t 15)) (Z1 17 (.fa 0 (.t 3)) (.st none (.st 1 (.t 17) (.t 16)) none [] .fin)))))))))))))))))))) (.seq (.plan (Z1 57 (.lda 6 (.t 3)) (.st none (.st 6 (.t 2) (.t 57)) none [] .fin))) .ret))))),[(.ca 2 6)]⟩
theorem h_spec_l71Spoilt:compF Tryz.prog 45=some c_spec_l71Spoilt:=by kernel_rfl
def c_impl_KeyOk:CF:=⟨23,(.seq (.plan (Z1 2 (.mv (.c (.bool false))) .fin)) (.seq (.seq (.plan (Z1 4 (.mv (.t 0)) (Z1 5 (.lns (.t 4)) (Z1 6 (.mv (.c (.int .i64 0))) .fin)))) (.block 0 (.loop (.seq (.plan (Z1 7 (.bin .lss (.t 6) (.t 5)) .fin)) (.seq (.cond (.t 7) .skip (.exit 0)) (.seq (.block 1 (.seq (.plan (Z1 8 (.mv (.t 6)) (Z1 3 (.mv (.t 8)) .fin))) (.seq (.plan (Z1 9 (.mv (.t 0)) (Z1 10 (.mv (.t 3)) (Z1 11 (.ix (.t 9) (.t 10)) (Z1 12 (.bin .lss (.t 11) (.c (.int .u8 97))) (Z1 13 (.mv (.t 12)) (.st (some 14) (.mv (.t 0)) (some (13,false)) [] (.st (some 15) (.mv (.t 3)) (some (13,false)) [] (.st (some 16) (.ix (.t 14) (.t 15)) (some (13,false)) [] (.st (some 17) (.bin .gtr (.t 16) (.c (.int .u8 100))) (some (13,false)) [] (Z1 18 (.pick (.t 13) (.c (.bool true)) (.t 17)) .fin))))))))))) (.cond (.t 18) (.seq (.plan (Z1 2 (.mv (.c (.bool false))) .fin)) .ret) .skip)))) (.plan (Z1 19 (.bin .add (.t 6) (.c (.int .i64 1))) (Z1 6 (.mv (.t 19)) .fin))))))))) (.seq (.plan (Z1 20 (.mv (.t 0)) (Z1 21 (.lns (.t 20)) (Z1 22 (.bin .leq (.t 21) (.c (.int .i64 5))) (Z1 2 (.mv (.t 22)) .fin))))) .ret))),[(.t 2)]⟩
theorem h_impl_KeyOk:compF Tryz.prog 53=some c_impl_KeyOk:=by kernel_rfl
def c_impl_in:CF:=⟨15,(.seq (.plan (Z1 6 (.mv (.c (.bool false))) .fin)) (.seq (.plan (Z1 7 (.mv (.t 1)) (Z1 8 (.mv (.t 0)) (Z1 9 (.bin .leq (.t 7) (.t 8)) (Z1 10 (.mv (.t 9)) (.st (some 11) (.mv (.t 0)) (some (10,true)) [] (.st (some 12) (.mv (.t 2)) (some (10,true)) [] (.st (some 13) (.bin .leq (.t 11) (.t 12)) (some (10,true)) [] (Z1 14 (.pick (.t 10) (.t 13) (.c (.bool false))) (Z1 6 (.mv (.t 14)) .fin)))))))))) .ret)),[(.t 6)]⟩
theorem h_impl_in:compF Tryz.prog 64=some c_impl_in:=by kernel_rfl
def c_impl_entryOk:CF:=⟨26,(.seq (.plan (Z1 1 (.box 45 4 (.t 0)) (Z1 2 (.mv (.c (.bool false))) .fin))) (.seq (.plan (Z1 3 (.fa 0 (.t 1)) (Z1 4 (.ld (.t 3)) (Z1 5 (.call 53 [(.t 4)]) (Z1 6 (.mv (.t 5)) (.st (some 7) (.fa 1 (.t 1)) (some (6,true)) [] (.st (some 8) (.ld (.t 7)) (some (6,true)) [] (.st (some 9) (.call 64 [(.t 8),(.c (.int .i64 0)),(.c (.int .i64 99))]) (some (6,true)) [] (Z1 10 (.pick (.t 6) (.t 9) (.c (.bool false))) (Z1 11 (.mv (.t 10)) (.st (some 12) (.fa 2 (.t 1)) (some (11,true)) [] (.st (some 13) (.ld (.t 12)) (some (11,true)) [] (.st (some 14) (.not (.t 13)) (some (11,true)) [] (.st (some 15) (.mv (.t 14)) (some (11,true)) [] (.st (some 16) (.fa 1 (.t 1)) (some (15,false)) [] (.st (some 17) (.ld (.t 16)) (some (15,false)) [] (.st (some 18) (.bin .eql (.t 17) (.c (.int .i64 0))) (some (15,false)) [] (.st (some 19) (.pick (.t 15) (.c (.bool true)) (.t 18)) (some (11,true)) [] (Z1 20 (.pick (.t 11) (.t 19) (.c (.bool false))) (Z1 21 (.mv (.t 20)) (.st (some 22) (.fa 3 (.t 1)) (some (21,true)) [] (.st (some 23) (.ld (.t 22)) (some (21,true)) [] (.st (some 24) (.call 64 [(.t 23),(.c (.int .i64 1)),(.c (.int .i64 999))]) (some (21,true)) [] (Z1 25 (.pick (.t 21) (.t 24) (.c (.bool false))) (Z1 2 (.mv (.t 25)) .fin))))))))))))))))))))))))) .ret)),[(.t 2)]⟩
theorem h_impl_entryOk:compF Tryz.prog 116=some c_impl_entryOk:=by kernel_rfl
def c_impl_before:CF:=⟨24,(.seq (.plan (Z1 2 (.box 45 4 (.t 0)) (Z1 3 (.box 45 4 (.t 1)) (Z1 4 (.mv (.c (.bool false))) .fin)))) (.seq (.plan (Z1 5 (.fa 0 (.t 2)) (Z1 6 (.ld (.t 5)) (Z1 7 (.fa 0 (.t 3)) (Z1 8 (.ld (.t 7)) (Z1 9 (.bin .lss (.t 6) (.t 8)) (Z1 10 (.mv (.t 9)) (.st (some 11) (.fa 0 (.t 2)) (some (10,false)) [] (.st (some 12) (.ld (.t 11)) (some (10,false)) [] (.st (some 13) (.fa 0 (.t 3)) (some (10,false)) [] (.st (some 14) (.ld (.t 13)) (some (10,false)) [] (.st (some 15) (.bin .eql (.t 12) (.t 14)) (some (10,false)) [] (.st (some 16) (.mv (.t 15)) (some (10,false)) [] (.st (some 17) (.fa 3 (.t 2)) (some (16,true)) [] (.st (some 18) (.ld (.t 17)) (some (16,true)) [] (.st (some 19) (.fa 3 (.t 3)) (some (16,true)) [] (.st (some 20) (.ld (.t 19)) (some (16,true)) [] (.st (some 21) (.bin .gtr (.t 18) (.t 20)) (some (16,true)) [] (.st (some 22) (.pick (.t 16) (.t 21) (.c (.bool false))) (some (10,false)) [] (Z1 23 (.pick (.t 10) (.c (.bool true)) (.t 22)) (Z1 4 (.mv (.t 23)) .fin))))))))))))))))))))) .ret)),[(.t 4)]⟩
theorem h_impl_before:compF Tryz.prog 117=some c_impl_before:=by kernel_rfl
def c_impl_RunOk:CF:=⟨33,(.seq (.plan (Z1 2 (.mv (.c (.bool false))) .fin)) (.seq (.seq (.plan (Z1 5 (.mv (.t 0)) (Z1 6 (.len (.t 5)) (Z1 7 (.mv (.c (.int .i64 0))) .fin)))) (.block 0 (.loop (.seq (.plan (Z1 8 (.bin .lss (.t 7) (.t 6)) .fin)) (.seq (.cond (.t 8) .skip (.exit 0)) (.seq (.block 1 (.seq (.plan (Z1 9 (.mv (.t 7)) (Z1 10 (.ia 4 (.t 5) (.t 7)) (Z1 11 (.lda 4 (.t 10)) (Z1 4 (.alloc 45 [(.str ⟨#[]⟩),(.int .i64 0),(.bool false),(.int .i64 0)]) (Z1 3 (.mv (.t 9)) (.st none (.st 4 (.t 4) (.t 11)) none [] .fin))))))) (.seq (.plan (Z1 12 (.lda 4 (.t 4)) (Z1 13 (.call 116 [(.t 12)]) (Z1 14 (.not (.t 13)) (Z1 15 (.mv (.t 14)) (.st (some 16) (.mv (.t 3)) (some (15,false)) [] (.st (some 17) (.bin .gtr (.t 16) (.c (.int .i64 0))) (some (15,false)) [] (.st (some 18) (.mv (.t 17)) (some (15,false)) [] (.st (some 19) (.mv (.t 0)) (some (18,true)) [] (.st (some 20) (.mv (.t 3)) (some (18,true)) [] (.st (some 21) (.bin .sub (.t 20) (.c (.int .i64 1))) (some (18,true)) [] (.st (some 22) (.ia 4 (.t 19) (.t 21)) (some (18,true)) [] (.st (some 23) (.lda 4 (.t 22)) (some (18,true)) [] (.st (some 24) (.lda 4 (.t 4)) (some (18,true)) [] (.st (some 25) (.call 117 [(.t 23),(.t 24)]) (some (18,true)) [] (.st (some 26) (.not (.t 25)) (some (18,true)) [] (.st (some 27) (.pick (.t 18) (.t 26) (.c (.bool false))) (some (15,false)) [] (Z1 28 (.pick (.t 15) (.c (.bool true)) (.t 27)) .fin)))))))))))))))))) (.cond (.t 28) (.seq (.plan (Z1 2 (.mv (.c (.bool false))) .fin)) .ret) .skip)))) (.plan (Z1 29 (.bin .add (.t 7) (.c (.int .i64 1))) (Z1 7 (.mv (.t 29)) .fin))))))))) (.seq (.plan (Z1 30 (.mv (.t 0)) (Z1 31 (.len (.t 30)) (Z1 32 (.bin .leq (.t 31) (.c (.int .i64 40))) (Z1 2 (.mv (.t 32)) .fin))))) .ret))),[(.t 2)]⟩
theorem h_impl_RunOk:compF Tryz.prog 67=some c_impl_RunOk:=by kernel_rfl
def c_impl_timesOk:CF:=⟨35,(.seq (.plan (Z1 4 (.mv (.c (.bool false))) .fin)) (.seq (.seq (.plan (Z1 7 (.mv (.t 0)) (Z1 8 (.len (.t 7)) (Z1 9 (.mv (.c (.int .i64 0))) .fin)))) (.block 0 (.loop (.seq (.plan (Z1 10 (.bin .lss (.t 9) (.t 8)) .fin)) (.seq (.cond (.t 10) .skip (.exit 0)) (.seq (.block 1 (.seq (.plan (Z1 11 (.mv (.t 9)) (Z1 12 (.ia 1 (.t 7) (.t 9)) (Z1 13 (.ld (.t 12)) (Z1 5 (.mv (.t 11)) (Z1 6 (.mv (.t 13)) .fin)))))) (.seq (.plan (Z1 14 (.mv (.t 6)) (Z1 15 (.mv (.t 1)) (Z1 16 (.call 64 [(.t 14),(.c (.int .i64 0)),(.t 15)]) (Z1 17 (.not (.t 16)) (Z1 18 (.mv (.t 17)) (.st (some 19) (.mv (.t 5)) (some (18,false)) [] (.st (some 20) (.bin .gtr (.t 19) (.c (.int .i64 0))) (some (18,false)) [] (.st (some 21) (.mv (.t 20)) (some (18,false)) [] (.st (some 22) (.mv (.t 6)) (some (21,true)) [] (.st (some 23) (.mv (.t 0)) (some (21,true)) [] (.st (some 24) (.mv (.t 5)) (some (21,true)) [] (.st (some 25) (.bin .sub (.t 24) (.c (.int .i64 1))) (some (21,true)) [] (.st (some 26) (.ia 1 (.t 23) (.t 25)) (some (21,true)) [] (.st (some 27) (.ld (.t 26)) (some (21,true)) [] (.st (some 28) (.bin .leq (.t 22) (.t 27)) (some (21,true)) [] (.st (some 29) (.pick (.t 21) (.t 28) (.c (.bool false))) (some (18,false)) [] (Z1 30 (.pick (.t 18) (.c (.bool true)) (.t 29)) .fin)))))))))))))))))) (.cond (.t 30) (.seq (.plan (Z1 4 (.mv (.c (.bool false))) .fin)) .ret) .skip)))) (.plan (Z1 31 (.bin .add (.t 9) (.c (.int .i64 1))) (Z1 9 (.mv (.t 31)) .fin))))))))) (.seq (.plan (Z1 32 (.mv (.t 0)) (Z1 33 (.len (.t 32)) (Z1 34 (.bin .leq (.t 33) (.c (.int .i64 3))) (Z1 4 (.mv (.t 34)) .fin))))) .ret))),[(.t 4)]⟩
theorem h_impl_timesOk:compF Tryz.prog 68=some c_impl_timesOk:=by kernel_rfl
def c_impl_keysOf:CF:=⟨33,(.seq (.plan (Z1 2 (.mv (.c .nils)) .fin)) (.seq (.plan (Z1 3 (.mv (.c .nils)) .fin)) (.seq (.seq (.plan (Z1 6 (.mv (.t 0)) (Z1 7 (.len (.t 6)) (Z1 8 (.mv (.c (.int .i64 0))) .fin)))) (.block 0 (.loop (.seq (.plan (Z1 9 (.bin .lss (.t 8) (.t 7)) .fin)) (.seq (.cond (.t 9) .skip (.exit 0)) (.seq (.block 1 (.seq (.plan (Z1 10 (.mv (.t 8)) (Z1 11 (.ia 4 (.t 6) (.t 8)) (Z1 12 (.lda 4 (.t 11)) (Z1 5 (.alloc 45 [(.str ⟨#[]⟩),(.int .i64 0),(.bool false),(.int .i64 0)]) (Z1 4 (.mv (.t 10)) (.st none (.st 4 (.t 5) (.t 12)) none [] .fin))))))) (.seq (.plan (Z1 13 (.mv (.t 4)) (Z1 14 (.bin .eql (.t 13) (.c (.int .i64 0))) (Z1 15 (.mv (.t 14)) (.st (some 16) (.mv (.t 0)) (some (15,false)) [] (.st (some 17) (.mv (.t 4)) (some (15,false)) [] (.st (some 18) (.bin .sub (.t 17) (.c (.int .i64 1))) (some (15,false)) [] (.st (some 19) (.ia 4 (.t 16) (.t 18)) (some (15,false)) [] (.st (some 20) (.fa 0 (.t 19)) (some (15,false)) [] (.st (some 21) (.ld (.t 20)) (some (15,false)) [] (.st (some 22) (.fa 0 (.t 5)) (some (15,false)) [] (.st (some 23) (.ld (.t 22)) (some (15,false)) [] (.st (some 24) (.bin .neq (.t 21) (.t 23)) (some (15,false)) [] (Z1 25 (.pick (.t 15) (.c (.bool true)) (.t 24)) .fin)))))))))))))) (.cond (.t 25) (.plan (Z1 26 (.mv (.t 3)) (Z1 27 (.fa 0 (.t 5)) (Z1 28 (.ld (.t 27)) (Z1 29 (.lit 9 1 1 [(.str ⟨#[]⟩)] [(0,(1,(.t 28)))]) (Z1 30 (.app 9 1 16 (.t 26) (.t 29)) (Z1 3 (.mv (.t 30)) .fin))))))) .skip)))) (.plan (Z1 31 (.bin .add (.t 8) (.c (.int .i64 1))) (Z1 8 (.mv (.t 31)) .fin))))))))) (.seq (.plan (Z1 32 (.mv (.t 3)) (Z1 2 (.mv (.t 32)) .fin))) .ret)))),[(.t 2)]⟩
theorem h_impl_keysOf:compF Tryz.prog 55=some c_impl_keysOf:=by kernel_rfl
def c_impl_RunKeys:CF:=⟨8,(.seq (.plan (Z1 2 (.mv (.c .nils)) .fin)) (.seq (.seq (.plan (Z1 3 (.mv (.t 0)) (Z1 4 (.call 67 [(.t 3)]) (Z1 5 (.not (.t 4)) .fin)))) (.cond (.t 5) (.seq (.plan (Z1 2 (.mv (.c .nils)) .fin)) .ret) .skip)) (.seq (.plan (Z1 6 (.mv (.t 0)) (Z1 7 (.call 55 [(.t 6)]) (Z1 2 (.mv (.t 7)) .fin)))) .ret))),[(.t 2)]⟩
theorem h_impl_RunKeys:compF Tryz.prog 70=some c_impl_RunKeys:=by kernel_rfl
def c_impl_KeysOk:CF:=⟨32,(.seq (.plan (Z1 2 (.mv (.c (.bool false))) .fin)) (.seq (.seq (.plan (Z1 5 (.mv (.t 0)) (Z1 6 (.len (.t 5)) (Z1 7 (.mv (.c (.int .i64 0))) .fin)))) (.block 0 (.loop (.seq (.plan (Z1 8 (.bin .lss (.t 7) (.t 6)) .fin)) (.seq (.cond (.t 8) .skip (.exit 0)) (.seq (.block 1 (.seq (.plan (Z1 9 (.mv (.t 7)) (Z1 10 (.ia 1 (.t 5) (.t 7)) (Z1 11 (.ld (.t 10)) (Z1 3 (.mv (.t 9)) (Z1 4 (.mv (.t 11)) .fin)))))) (.seq (.plan (Z1 12 (.mv (.t 4)) (Z1 13 (.call 53 [(.t 12)]) (Z1 14 (.not (.t 13)) (Z1 15 (.mv (.t 14)) (.st (some 16) (.mv (.t 3)) (some (15,false)) [] (.st (some 17) (.bin .gtr (.t 16) (.c (.int .i64 0))) (some (15,false)) [] (.st (some 18) (.mv (.t 17)) (some (15,false)) [] (.st (some 19) (.mv (.t 4)) (some (18,true)) [] (.st (some 20) (.mv (.t 0)) (some (18,true)) [] (.st (some 21) (.mv (.t 3)) (some (18,true)) [] (.st (some 22) (.bin .sub (.t 21) (.c (.int .i64 1))) (some (18,true)) [] (.st (some 23) (.ia 1 (.t 20) (.t 22)) (some (18,true)) [] (.st (some 24) (.ld (.t 23)) (some (18,true)) [] (.st (some 25) (.bin .leq (.t 19) (.t 24)) (some (18,true)) [] (.st (some 26) (.pick (.t 18) (.t 25) (.c (.bool false))) (some (15,false)) [] (Z1 27 (.pick (.t 15) (.c (.bool true)) (.t 26)) .fin))))))))))))))))) (.cond (.t 27) (.seq (.plan (Z1 2 (.mv (.c (.bool false))) .fin)) .ret) .skip)))) (.plan (Z1 28 (.bin .add (.t 7) (.c (.int .i64 1))) (Z1 7 (.mv (.t 28)) .fin))))))))) (.seq (.plan (Z1 29 (.mv (.t 0)) (Z1 30 (.len (.t 29)) (Z1 31 (.bin .leq (.t 30) (.c (.int .i64 24))) (Z1 2 (.mv (.t 31)) .fin))))) .ret))),[(.t 2)]⟩
theorem h_impl_KeysOk:compF Tryz.prog 118=some c_impl_KeysOk:=by kernel_rfl
def c_impl_isKeep:CF:=⟨5,(.seq (.plan (Z1 2 (.mv (.c (.bool false))) .fin)) (.seq (.plan (Z1 3 (.mv (.t 0)) (Z1 4 (.call 64 [(.t 3),(.c (.int .i64 0)),(.c (.int .i64 5))]) (Z1 2 (.mv (.t 4)) .fin)))) .ret)),[(.t 2)]⟩
theorem h_impl_isKeep:compF Tryz.prog 119=some c_impl_isKeep:=by kernel_rfl
def c_impl_label:CF:=⟨12,(.seq (.plan (Z1 4 (.mv (.c (.int .u8 0))) .fin)) (.seq (.seq (.plan (Z1 5 (.mv (.t 0)) (Z1 6 (.lns (.t 5)) (Z1 7 (.mv (.t 1)) (Z1 8 (.bin .eql (.t 6) (.t 7)) .fin))))) (.cond (.t 8) (.seq (.plan (Z1 4 (.mv (.c (.int .u8 45))) .fin)) .ret) .skip)) (.seq (.plan (Z1 9 (.mv (.t 0)) (Z1 10 (.mv (.t 1)) (Z1 11 (.ix (.t 9) (.t 10)) (Z1 4 (.mv (.t 11)) .fin))))) .ret))),[(.t 4)]⟩
theorem h_impl_label:compF Tryz.prog 150=some c_impl_label:=by kernel_rfl
def c_strings_Builder_WriteByte:CF:=⟨17,(.seq (.plan (Z1 4 (.mv (.c .nili)) .fin)) (.seq (.plan (Z1 5 (.mv (.t 0)) (Z1 6 (.call 193 [(.t 5)]) .fin))) (.seq (.plan (Z1 7 (.mv (.t 0)) (Z1 8 (.mv (.t 0)) (Z1 9 (.nck (.t 8)) (Z1 10 (.fa 1 (.t 9)) (Z1 11 (.ld (.t 10)) (Z1 12 (.mv (.t 1)) (Z1 13 (.lit 5 1 1 [(.int .u8 0)] [(0,(1,(.t 12)))]) (Z1 14 (.app 5 1 1 (.t 11) (.t 13)) (Z1 15 (.nck (.t 7)) (Z1 16 (.fa 1 (.t 15)) (.st none (.st 1 (.t 16) (.t 14)) none [] .fin)))))))))))) (.seq (.plan (Z1 4 (.mv (.c .nili)) .fin)) .ret)))),[(.t 4)]⟩
theorem h_strings_Builder_WriteByte:compF Tryz.prog 160=some c_strings_Builder_WriteByte:=by kernel_rfl
def c_impl_sieveOf:CF:=⟨113,(.seq (.plan (Z1 4 (.alloc 76 [(.str ⟨#[]⟩),(.str ⟨#[]⟩),(.str ⟨#[]⟩),.nils,(.int .i64 0)]) .fin)) (.seq (.plan (Z1 5 (.alloc 167 [.nilp,.nils]) (Z1 6 (.alloc 167 [.nilp,.nils]) (Z1 7 (.alloc 167 [.nilp,.nils]) .fin)))) (.seq (.plan (Z1 16 (.mv (.t 1)) (Z1 17 (.build [(.str ⟨#[]⟩),(.str ⟨#[]⟩),(.str ⟨#[]⟩),.nils,(.int .i64 0)] [(4,(1,(.t 16)))]) (Z1 8 (.alloc 76 [(.str ⟨#[]⟩),(.str ⟨#[]⟩),(.str ⟨#[]⟩),.nils,(.int .i64 0)]) (.st none (.st 5 (.t 8) (.t 17)) none [] .fin))))) (.seq (.plan (Z1 18 (.mv (.t 0)) (Z1 19 (.build [.nils,(.int .i64 0)] [(0,(1,(.t 18))),(1,(1,(.c (.int .i64 0))))]) (Z1 20 (.lit 169 2 1 [.nils,(.int .i64 0)] [(0,(2,(.t 19)))]) (Z1 9 (.mv (.t 20)) .fin))))) (.seq (.seq (.plan (Z1 10 (.mv (.c (.int .i64 0))) .fin)) (.block 0 (.loop (.seq (.seq (.plan (Z1 21 (.mv (.t 10)) (Z1 22 (.mv (.t 9)) (Z1 23 (.len (.t 22)) (Z1 24 (.bin .lss (.t 21) (.t 23)) .fin))))) (.cond (.t 24) .skip (.exit 0))) (.seq (.block 1 (.seq (.plan (Z1 27 (.mv (.t 9)) (Z1 28 (.mv (.t 10)) (Z1 29 (.ia 2 (.t 27) (.t 28)) (Z1 30 (.fa 0 (.t 29)) (Z1 31 (.ld (.t 30)) (Z1 32 (.mv (.t 9)) (Z1 33 (.mv (.t 10)) (Z1 34 (.ia 2 (.t 32) (.t 33)) (Z1 35 (.fa 1 (.t 34)) (Z1 36 (.ld (.t 35)) (Z1 11 (.mv (.t 31)) (Z1 12 (.mv (.t 36)) .fin))))))))))))) (.seq (.plan (Z1 13 (.mv (.c (.int .u8 49))) .fin)) (.block 2 (.loop (.seq (.seq (.plan (Z1 37 (.mv (.t 11)) (Z1 38 (.len (.t 37)) (Z1 39 (.bin .gtr (.t 38) (.c (.int .i64 0))) .fin)))) (.cond (.t 39) .skip (.exit 2))) (.block 3 (.seq (.plan (Z1 14 (.mv (.c (.int .i64 1))) .fin)) (.seq (.block 4 (.loop (.seq (.seq (.plan (Z1 40 (.mv (.t 14)) (Z1 41 (.mv (.t 11)) (Z1 42 (.len (.t 41)) (Z1 43 (.bin .lss (.t 40) (.t 42)) (Z1 44 (.mv (.t 43)) (.st (some 45) (.mv (.t 11)) (some (44,true)) [] (.st (some 46) (.mv (.t 14)) (some (44,true)) [] (.st (some 47) (.ia 1 (.t 45) (.t 46)) (some (44,true)) [] (.st (some 48) (.ld (.t 47)) (some (44,true)) [] (.st (some 49) (.mv (.t 12)) (some (44,true)) [] (.st (some 51) (.mv (.t 11)) (some (44,true)) [] (.st (some 52) (.ia 1 (.t 51) (.c (.int .i64 0))) (some (44,true)) [] (.st (some 53) (.ld (.t 52)) (some (44,true)) [] (.st (some 54) (.mv (.t 12)) (some (44,true)) [] (.st (some 50) (.call 150 [(.t 48),(.t 49)]) (some (44,true)) [((some 53),((.ld (.t 52)),(some (44,true)))),((some 52),((.ia 1 (.t 51) (.c (.int .i64 0))),(some (44,true))))] (.st (some 55) (.call 150 [(.t 53),(.t 54)]) (some (44,true)) [] (.st (some 56) (.bin .eql (.t 50) (.t 55)) (some (44,true)) [] (Z1 57 (.pick (.t 44) (.t 56) (.c (.bool false))) .fin))))))))))))))))))) (.cond (.t 57) .skip (.exit 4))) (.block 5 (.plan (Z1 58 (.mv (.t 14)) (Z1 59 (.bin .add (.t 58) (.c (.int .i64 1))) (Z1 14 (.mv (.t 59)) .fin)))))))) (.seq (.plan (Z1 60 (.mv (.t 11)) (Z1 61 (.ia 1 (.t 60) (.c (.int .i64 0))) (Z1 62 (.ld (.t 61)) (Z1 63 (.mv (.t 12)) (Z1 64 (.call 150 [(.t 62),(.t 63)]) (Z1 65 (.call 160 [(.t 5),(.t 64)]) .fin))))))) (.seq (.plan (Z1 66 (.mv (.t 13)) (Z1 67 (.call 160 [(.t 7),(.t 66)]) .fin))) (.seq (.plan (Z1 13 (.mv (.c (.int .u8 48))) .fin)) (.seq (.seq (.plan (Z1 68 (.mv (.t 14)) (Z1 69 (.bin .gtr (.t 68) (.c (.int .i64 1))) .fin))) (.cond (.t 69) (.seq (.plan (Z1 70 (.call 160 [(.t 6),(.c (.int .u8 49))]) .fin)) (.plan (Z1 71 (.mv (.t 9)) (Z1 72 (.mv (.t 11)) (Z1 73 (.mv (.t 14)) (Z1 74 (.cut 1 (.t 72) none (some (.t 73))) (Z1 75 (.mv (.t 12)) (Z1 76 (.bin .add (.t 75) (.c (.int .i64 1))) (Z1 77 (.build [.nils,(.int .i64 0)] [(0,(1,(.t 74))),(1,(1,(.t 76)))]) (Z1 78 (.lit 169 2 1 [.nils,(.int .i64 0)] [(0,(2,(.t 77)))]) (Z1 79 (.app 169 2 32 (.t 71) (.t 78)) (Z1 9 (.mv (.t 79)) .fin)))))))))))) (.seq (.plan (Z1 80 (.call 160 [(.t 6),(.c (.int .u8 48))]) .fin)) (.seq (.plan (Z1 81 (.mv (.t 11)) (Z1 82 (.ia 1 (.t 81) (.c (.int .i64 0))) (Z1 83 (.ld (.t 82)) (Z1 84 (.mv (.t 12)) (Z1 85 (.bin .add (.t 84) (.c (.int .i64 1))) (Z1 86 (.mv (.t 11)) (Z1 87 (.ia 1 (.t 86) (.c (.int .i64 0))) (Z1 88 (.ld (.t 87)) (Z1 89 (.lns (.t 88)) (Z1 90 (.mn (.t 85) (.t 89)) (Z1 91 (.cuts (.t 83) (some (.t 90)) none) (Z1 15 (.mv (.t 91)) .fin))))))))))))) (.plan (Z1 92 (.fa 3 (.t 8)) (Z1 93 (.ld (.t 92)) (Z1 94 (.mv (.t 15)) (Z1 95 (.mv (.t 1)) (Z1 96 (.mv (.t 15)) (Z1 97 (.lns (.t 96)) (Z1 98 (.mn (.t 95) (.t 97)) (Z1 99 (.cuts (.t 94) none (some (.t 98))) (.st (some 100) (.lit 9 1 1 [(.str ⟨#[]⟩)] [(0,(1,(.t 99)))]) none [((some 93),((.ld (.t 92)),none))] (Z1 101 (.app 9 1 16 (.t 93) (.t 100)) (Z1 102 (.fa 3 (.t 8)) (.st none (.st 1 (.t 102) (.t 101)) none [] .fin))))))))))))))))) (.plan (Z1 103 (.mv (.t 11)) (Z1 104 (.mv (.t 14)) (Z1 105 (.cut 1 (.t 103) (some (.t 104)) none) (Z1 11 (.mv (.t 105)) .fin)))))))))))))))))) (.plan (Z1 25 (.mv (.t 10)) (Z1 26 (.bin .add (.t 25) (.c (.int .i64 1))) (Z1 10 (.mv (.t 26)) .fin))))))))) (.seq (.plan (Z1 106 (.call 161 [(.t 5)]) (Z1 107 (.call 161 [(.t 6)]) (Z1 108 (.call 161 [(.t 7)]) (Z1 109 (.fa 0 (.t 8)) (.st none (.st 1 (.t 109) (.t 106)) none [] (Z1 110 (.fa 1 (.t 8)) (.st none (.st 1 (.t 110) (.t 107)) none [] (Z1 111 (.fa 2 (.t 8)) (.st none (.st 1 (.t 111) (.t 108)) none [] .fin)))))))))) (.seq (.plan (Z1 112 (.lda 5 (.t 8)) (.st none (.st 5 (.t 4) (.t 112)) none [] .fin))) .ret))))))),[(.ca 4 5)]⟩
theorem h_impl_sieveOf:compF Tryz.prog 120=some c_impl_sieveOf:=by kernel_rfl
def c_impl_SieveOf:CF:=⟨18,(.seq (.plan (Z1 4 (.alloc 76 [(.str ⟨#[]⟩),(.str ⟨#[]⟩),(.str ⟨#[]⟩),.nils,(.int .i64 0)]) (Z1 5 (.mv (.c (.bool false))) .fin))) (.seq (.seq (.plan (Z1 6 (.mv (.t 0)) (Z1 7 (.call 118 [(.t 6)]) (Z1 8 (.not (.t 7)) (Z1 9 (.mv (.t 8)) (.st (some 10) (.mv (.t 1)) (some (9,false)) [] (.st (some 11) (.call 119 [(.t 10)]) (some (9,false)) [] (.st (some 12) (.not (.t 11)) (some (9,false)) [] (Z1 13 (.pick (.t 9) (.c (.bool true)) (.t 12)) .fin))))))))) (.cond (.t 13) (.seq (.plan (Z1 14 (.build [(.str ⟨#[]⟩),(.str ⟨#[]⟩),(.str ⟨#[]⟩),.nils,(.int .i64 0)] []) (.st none (.st 5 (.t 4) (.t 14)) none [] (Z1 5 (.mv (.c (.bool false))) .fin)))) .ret) .skip)) (.seq (.plan (Z1 15 (.mv (.t 0)) (Z1 16 (.mv (.t 1)) (Z1 17 (.call 120 [(.t 15),(.t 16)]) (.st none (.st 5 (.t 4) (.t 17)) none [] (Z1 5 (.mv (.c (.bool true))) .fin)))))) .ret))),[(.ca 4 5),(.t 5)]⟩
theorem h_impl_SieveOf:compF Tryz.prog 69=some c_impl_SieveOf:=by kernel_rfl
def c_impl_room:CF:=⟨6,(.seq (.plan (Z1 2 (.mv (.c (.int .i64 0))) .fin)) (.seq (.plan (Z1 3 (.mv (.t 0)) (Z1 4 (.bin .add (.t 3) (.c (.int .i64 1))) (Z1 5 (.bin .mul (.c (.int .i64 8)) (.t 4)) (Z1 2 (.mv (.t 5)) .fin))))) .ret)),[(.t 2)]⟩
theorem h_impl_room:compF Tryz.prog 71=some c_impl_room:=by kernel_rfl
def c_slices_Equal_Sstring_string:CF:=⟨26,(.seq (.plan (Z1 4 (.mv (.c (.bool false))) .fin)) (.seq (.seq (.plan (Z1 6 (.mv (.t 0)) (Z1 7 (.len (.t 6)) (Z1 8 (.mv (.t 1)) (Z1 9 (.len (.t 8)) (Z1 10 (.bin .neq (.t 7) (.t 9)) .fin)))))) (.cond (.t 10) (.seq (.plan (Z1 4 (.mv (.c (.bool false))) .fin)) .ret) .skip)) (.seq (.seq (.plan (Z1 11 (.mv (.t 0)) (Z1 12 (.len (.t 11)) (Z1 13 (.mv (.c (.int .i64 0))) .fin)))) (.block 0 (.loop (.seq (.plan (Z1 14 (.bin .lss (.t 13) (.t 12)) .fin)) (.seq (.cond (.t 14) .skip (.exit 0)) (.seq (.block 1 (.seq (.plan (Z1 15 (.mv (.t 13)) (Z1 5 (.mv (.t 15)) .fin))) (.seq (.plan (Z1 16 (.mv (.t 0)) (Z1 17 (.mv (.t 5)) (Z1 18 (.ia 1 (.t 16) (.t 17)) (Z1 19 (.ld (.t 18)) (Z1 20 (.mv (.t 1)) (Z1 21 (.mv (.t 5)) (Z1 22 (.ia 1 (.t 20) (.t 21)) (Z1 23 (.ld (.t 22)) (Z1 24 (.bin .neq (.t 19) (.t 23)) .fin)))))))))) (.cond (.t 24) (.seq (.plan (Z1 4 (.mv (.c (.bool false))) .fin)) .ret) .skip)))) (.plan (Z1 25 (.bin .add (.t 13) (.c (.int .i64 1))) (Z1 13 (.mv (.t 25)) .fin))))))))) (.seq (.plan (Z1 4 (.mv (.c (.bool true))) .fin)) .ret)))),[(.t 4)]⟩
theorem h_slices_Equal_Sstring_string:compF Tryz.prog 121=some c_slices_Equal_Sstring_string:=by kernel_rfl
def c_impl_Sieve_same:CF:=⟨38,(.seq (.plan (Z1 2 (.box 76 5 (.t 0)) (Z1 3 (.box 76 5 (.t 1)) (Z1 4 (.mv (.c (.bool false))) .fin)))) (.seq (.plan (Z1 5 (.fa 0 (.t 2)) (Z1 6 (.ld (.t 5)) (Z1 7 (.fa 0 (.t 3)) (Z1 8 (.ld (.t 7)) (Z1 9 (.bin .eql (.t 6) (.t 8)) (Z1 10 (.mv (.t 9)) (.st (some 11) (.fa 1 (.t 2)) (some (10,true)) [] (.st (some 12) (.ld (.t 11)) (some (10,true)) [] (.st (some 13) (.fa 1 (.t 3)) (some (10,true)) [] (.st (some 14) (.ld (.t 13)) (some (10,true)) [] (.st (some 15) (.bin .eql (.t 12) (.t 14)) (some (10,true)) [] (Z1 16 (.pick (.t 10) (.t 15) (.c (.bool false))) (Z1 17 (.mv (.t 16)) (.st (some 18) (.fa 2 (.t 2)) (some (17,true)) [] (.st (some 19) (.ld (.t 18)) (some (17,true)) [] (.st (some 20) (.fa 2 (.t 3)) (some (17,true)) [] (.st (some 21) (.ld (.t 20)) (some (17,true)) [] (.st (some 22) (.bin .eql (.t 19) (.t 21)) (some (17,true)) [] (Z1 23 (.pick (.t 17) (.t 22) (.c (.bool false))) (Z1 24 (.mv (.t 23)) (.st (some 25) (.fa 4 (.t 2)) (some (24,true)) [] (.st (some 26) (.ld (.t 25)) (some (24,true)) [] (.st (some 27) (.fa 4 (.t 3)) (some (24,true)) [] (.st (some 28) (.ld (.t 27)) (some (24,true)) [] (.st (some 29) (.bin .eql (.t 26) (.t 28)) (some (24,true)) [] (Z1 30 (.pick (.t 24) (.t 29) (.c (.bool false))) (Z1 31 (.mv (.t 30)) (.st (some 32) (.fa 3 (.t 2)) (some (31,true)) [] (.st (some 33) (.ld (.t 32)) (some (31,true)) [] (.st (some 34) (.fa 3 (.t 3)) (some (31,true)) [] (.st (some 35) (.ld (.t 34)) (some (31,true)) [] (.st (some 36) (.call 121 [(.t 33),(.t 35)]) (some (31,true)) [] (Z1 37 (.pick (.t 31) (.t 36) (.c (.bool false))) (Z1 4 (.mv (.t 37)) .fin))))))))))))))))))))))))))))))))))) .ret)),[(.t 4)]⟩
theorem h_impl_Sieve_same:compF Tryz.prog 72=some c_impl_Sieve_same:=by kernel_rfl
def c_impl_newer:CF:=⟨35,(.seq (.plan (Z1 4 (.mv (.c (.bool false))) .fin)) (.seq (.seq (.plan (Z1 9 (.mv (.t 0)) (Z1 10 (.len (.t 9)) (Z1 11 (.mv (.c (.int .i64 0))) .fin)))) (.block 0 (.loop (.seq (.plan (Z1 12 (.bin .lss (.t 11) (.t 10)) .fin)) (.seq (.cond (.t 12) .skip (.exit 0)) (.seq (.block 1 (.seq (.plan (Z1 13 (.ia 4 (.t 9) (.t 11)) (Z1 14 (.lda 4 (.t 13)) (Z1 6 (.alloc 45 [(.str ⟨#[]⟩),(.int .i64 0),(.bool false),(.int .i64 0)]) (.st none (.st 4 (.t 6) (.t 14)) none [] .fin))))) (.seq (.plan (Z1 15 (.mv (.t 1)) (Z1 16 (.len (.t 15)) (Z1 17 (.mv (.c (.int .i64 0))) .fin)))) (.block 2 (.loop (.seq (.plan (Z1 18 (.bin .lss (.t 17) (.t 16)) .fin)) (.seq (.cond (.t 18) .skip (.exit 2)) (.seq (.block 3 (.seq (.plan (Z1 19 (.ia 4 (.t 15) (.t 17)) (Z1 20 (.lda 4 (.t 19)) (Z1 8 (.alloc 45 [(.str ⟨#[]⟩),(.int .i64 0),(.bool false),(.int .i64 0)]) (.st none (.st 4 (.t 8) (.t 20)) none [] .fin))))) (.seq (.plan (Z1 21 (.fa 0 (.t 6)) (Z1 22 (.ld (.t 21)) (Z1 23 (.fa 0 (.t 8)) (Z1 24 (.ld (.t 23)) (Z1 25 (.bin .eql (.t 22) (.t 24)) (Z1 26 (.mv (.t 25)) (.st (some 27) (.fa 3 (.t 6)) (some (26,true)) [] (.st (some 28) (.ld (.t 27)) (some (26,true)) [] (.st (some 29) (.fa 3 (.t 8)) (some (26,true)) [] (.st (some 30) (.ld (.t 29)) (some (26,true)) [] (.st (some 31) (.bin .leq (.t 28) (.t 30)) (some (26,true)) [] (Z1 32 (.pick (.t 26) (.t 31) (.c (.bool false))) .fin))))))))))))) (.cond (.t 32) (.seq (.plan (Z1 4 (.mv (.c (.bool false))) .fin)) .ret) .skip)))) (.plan (Z1 33 (.bin .add (.t 17) (.c (.int .i64 1))) (Z1 17 (.mv (.t 33)) .fin))))))))))) (.plan (Z1 34 (.bin .add (.t 11) (.c (.int .i64 1))) (Z1 11 (.mv (.t 34)) .fin))))))))) (.seq (.plan (Z1 4 (.mv (.c (.bool true))) .fin)) .ret))),[(.t 4)]⟩
theorem h_impl_newer:compF Tryz.prog 73=some c_impl_newer:=by kernel_rfl
def c_impl_StoreOk_1:CF:=⟨9,(.seq (.plan (Z1 2 (.box 45 4 (.t 0)) (Z1 3 (.mv (.c (.bool false))) .fin))) (.seq (.plan (Z1 4 (.fa 3 (.t 2)) (Z1 5 (.ld (.t 4)) (Z1 6 (.fa 4 (.t 1)) (Z1 7 (.ld (.t 6)) (Z1 8 (.bin .gtr (.t 5) (.t 7)) (Z1 3 (.mv (.t 8)) .fin))))))) .ret)),[(.t 3)]⟩
theorem h_impl_StoreOk_1:compF Tryz.prog 75=some c_impl_StoreOk_1:=by kernel_rfl
def c_slices_IndexFunc_Simpl_Entry_impl_Entry:CF:=⟨19,(.seq (.plan (Z1 4 (.mv (.c (.int .i64 0))) .fin)) (.seq (.seq (.plan (Z1 6 (.mv (.t 0)) (Z1 7 (.len (.t 6)) (Z1 8 (.mv (.c (.int .i64 0))) .fin)))) (.block 0 (.loop (.seq (.plan (Z1 9 (.bin .lss (.t 8) (.t 7)) .fin)) (.seq (.cond (.t 9) .skip (.exit 0)) (.seq (.block 1 (.seq (.plan (Z1 10 (.mv (.t 8)) (Z1 5 (.mv (.t 10)) .fin))) (.seq (.plan (Z1 11 (.mv (.t 1)) (Z1 12 (.mv (.t 0)) (Z1 13 (.mv (.t 5)) (Z1 14 (.ia 4 (.t 12) (.t 13)) (Z1 15 (.lda 4 (.t 14)) (Z1 16 (.calv (.t 11) [(.t 15)]) .fin))))))) (.cond (.t 16) (.seq (.plan (Z1 17 (.mv (.t 5)) (Z1 4 (.mv (.t 17)) .fin))) .ret) .skip)))) (.plan (Z1 18 (.bin .add (.t 8) (.c (.int .i64 1))) (Z1 8 (.mv (.t 18)) .fin))))))))) (.seq (.plan (Z1 4 (.mv (.c (.int .i64 (-1)))) .fin)) .ret))),[(.t 4)]⟩
theorem h_slices_IndexFunc_Simpl_Entry_impl_Entry:compF Tryz.prog 122=some c_slices_IndexFunc_Simpl_Entry_impl_Entry:=by kernel_rfl
def c_slices_ContainsFunc_Simpl_Entry_impl_Entry:CF:=⟨9,(.seq (.plan (Z1 4 (.mv (.c (.bool false))) .fin)) (.seq (.plan (Z1 5 (.mv (.t 0)) (Z1 6 (.mv (.t 1)) (Z1 7 (.call 122 [(.t 5),(.t 6)]) (Z1 8 (.bin .geq (.t 7) (.c (.int .i64 0))) (Z1 4 (.mv (.t 8)) .fin)))))) .ret)),[(.t 4)]⟩
theorem h_slices_ContainsFunc_Simpl_Entry_impl_Entry:compF Tryz.prog 74=some c_slices_ContainsFunc_Simpl_Entry_impl_Entry:=by kernel_rfl
def c_slices_Grow_Simpl_Entry_impl_Entry:CF:=⟨27,(.seq (.plan (Z1 4 (.mv (.c .nils)) .fin)) (.seq (.seq (.plan (Z1 5 (.mv (.t 1)) (Z1 6 (.bin .lss (.t 5) (.c (.int .i64 0))) .fin))) (.cond (.t 6) (.plan (Z1 7 .bad (.st none .bad none [] .fin))) .skip)) (.seq (.seq (.plan (Z1 8 (.mv (.t 1)) (Z1 9 (.mv (.t 0)) (Z1 10 (.cap (.t 9)) (Z1 11 (.mv (.t 0)) (Z1 12 (.len (.t 11)) (Z1 13 (.bin .sub (.t 10) (.t 12)) (Z1 14 (.bin .sub (.t 8) (.t 13)) (Z1 1 (.mv (.t 14)) .fin))))))))) (.seq (.plan (Z1 15 (.mv (.t 1)) (Z1 16 (.bin .gtr (.t 15) (.c (.int .i64 0))) .fin))) (.cond (.t 16) (.plan (Z1 17 (.mv (.t 0)) (Z1 18 (.mv (.t 0)) (Z1 19 (.cap (.t 18)) (Z1 20 (.cut 4 (.t 17) none (some (.t 19))) (Z1 21 (.mv (.t 1)) (Z1 22 (.appz 45 4 40 [(.str ⟨#[]⟩),(.int .i64 0),(.bool false),(.int .i64 0)] (.t 20) (.t 21)) (Z1 23 (.mv (.t 0)) (Z1 24 (.len (.t 23)) (Z1 25 (.cut 4 (.t 22) none (some (.t 24))) (Z1 0 (.mv (.t 25)) .fin))))))))))) .skip))) (.seq (.plan (Z1 26 (.mv (.t 0)) (Z1 4 (.mv (.t 26)) .fin))) .ret)))),[(.t 4)]⟩
theorem h_slices_Grow_Simpl_Entry_impl_Entry:compF Tryz.prog 123=some c_slices_Grow_Simpl_Entry_impl_Entry:=by kernel_rfl
def c_slices_Concat_Simpl_Entry_impl_Entry:CF:=⟨36,(.seq (.plan (Z1 2 (.mv (.c .nils)) .fin)) (.seq (.plan (Z1 3 (.mv (.c (.int .i64 0))) .fin)) (.seq (.seq (.plan (Z1 9 (.mv (.t 0)) (Z1 10 (.len (.t 9)) (Z1 11 (.mv (.c (.int .i64 0))) .fin)))) (.block 0 (.loop (.seq (.plan (Z1 12 (.bin .lss (.t 11) (.t 10)) .fin)) (.seq (.cond (.t 12) .skip (.exit 0)) (.seq (.block 1 (.seq (.plan (Z1 13 (.ia 1 (.t 9) (.t 11)) (Z1 14 (.ld (.t 13)) (Z1 5 (.mv (.t 14)) .fin)))) (.seq (.plan (Z1 15 (.mv (.t 3)) (Z1 16 (.mv (.t 5)) (Z1 17 (.len (.t 16)) (Z1 18 (.bin .add (.t 15) (.t 17)) (Z1 3 (.mv (.t 18)) .fin)))))) (.seq (.plan (Z1 19 (.mv (.t 3)) (Z1 20 (.bin .lss (.t 19) (.c (.int .i64 0))) .fin))) (.cond (.t 20) (.plan (Z1 21 .bad (.st none .bad none [] .fin))) .skip))))) (.plan (Z1 22 (.bin .add (.t 11) (.c (.int .i64 1))) (Z1 11 (.mv (.t 22)) .fin))))))))) (.seq (.plan (Z1 23 (.mv (.t 3)) (Z1 24 (.call 123 [(.c .nils),(.t 23)]) (Z1 6 (.mv (.t 24)) .fin)))) (.seq (.seq (.plan (Z1 25 (.mv (.t 0)) (Z1 26 (.len (.t 25)) (Z1 27 (.mv (.c (.int .i64 0))) .fin)))) (.block 2 (.loop (.seq (.plan (Z1 28 (.bin .lss (.t 27) (.t 26)) .fin)) (.seq (.cond (.t 28) .skip (.exit 2)) (.seq (.block 3 (.seq (.plan (Z1 29 (.ia 1 (.t 25) (.t 27)) (Z1 30 (.ld (.t 29)) (Z1 8 (.mv (.t 30)) .fin)))) (.plan (Z1 31 (.mv (.t 6)) (Z1 32 (.mv (.t 8)) (Z1 33 (.app 45 4 40 (.t 31) (.t 32)) (Z1 6 (.mv (.t 33)) .fin))))))) (.plan (Z1 34 (.bin .add (.t 27) (.c (.int .i64 1))) (Z1 27 (.mv (.t 34)) .fin))))))))) (.seq (.plan (Z1 35 (.mv (.t 6)) (Z1 2 (.mv (.t 35)) .fin))) .ret)))))),[(.t 2)]⟩
theorem h_slices_Concat_Simpl_Entry_impl_Entry:compF Tryz.prog 76=some c_slices_Concat_Simpl_Entry_impl_Entry:=by kernel_rfl
def c_impl_StoreOk:CF:=⟨100,(.seq (.plan (Z1 1 (.box 28 6 (.t 0)) (Z1 2 (.mv (.c (.bool false))) .fin))) (.seq (.seq (.plan (Z1 8 (.fa 1 (.t 1)) (Z1 9 (.ld (.t 8)) (Z1 10 (.len (.t 9)) (Z1 11 (.bin .neq (.t 10) (.c (.int .i64 3))) (Z1 12 (.mv (.t 11)) (.st (some 13) (.fa 2 (.t 1)) (some (12,false)) [] (.st (some 14) (.ld (.t 13)) (some (12,false)) [] (.st (some 15) (.len (.t 14)) (some (12,false)) [] (.st (some 16) (.bin .neq (.t 15) (.c (.int .i64 3))) (some (12,false)) [] (Z1 17 (.pick (.t 12) (.c (.bool true)) (.t 16)) (Z1 18 (.mv (.t 17)) (.st (some 19) (.fa 0 (.t 1)) (some (18,false)) [] (.st (some 20) (.ld (.t 19)) (some (18,false)) [] (.st (some 21) (.call 67 [(.t 20)]) (some (18,false)) [] (.st (some 22) (.not (.t 21)) (some (18,false)) [] (Z1 23 (.pick (.t 18) (.c (.bool true)) (.t 22)) (Z1 24 (.mv (.t 23)) (.st (some 25) (.fa 0 (.t 1)) (some (24,false)) [] (.st (some 26) (.ld (.t 25)) (some (24,false)) [] (.st (some 27) (.len (.t 26)) (some (24,false)) [] (.st (some 28) (.bin .gtr (.t 27) (.c (.int .i64 4))) (some (24,false)) [] (Z1 29 (.pick (.t 24) (.c (.bool true)) (.t 28)) (Z1 30 (.mv (.t 29)) (.st (some 31) (.fa 4 (.t 1)) (some (30,false)) [] (.st (some 32) (.ld (.t 31)) (some (30,false)) [] (.st (some 33) (.call 64 [(.t 32),(.c (.int .i64 0)),(.c (.int .i64 999))]) (some (30,false)) [] (.st (some 34) (.not (.t 33)) (some (30,false)) [] (Z1 35 (.pick (.t 30) (.c (.bool true)) (.t 34)) (Z1 36 (.mv (.t 35)) (.st (some 37) (.fa 5 (.t 1)) (some (36,false)) [] (.st (some 38) (.ld (.t 37)) (some (36,false)) [] (.st (some 39) (.fa 4 (.t 1)) (some (36,false)) [] (.st (some 40) (.ld (.t 39)) (some (36,false)) [] (.st (some 41) (.call 68 [(.t 38),(.t 40)]) (some (36,false)) [] (.st (some 42) (.not (.t 41)) (some (36,false)) [] (Z1 43 (.pick (.t 36) (.c (.bool true)) (.t 42)) .fin))))))))))))))))))))))))))))))))))))) (.cond (.t 43) (.seq (.plan (Z1 2 (.mv (.c (.bool false))) .fin)) .ret) .skip)) (.seq (.plan (Z1 44 (.fa 0 (.t 1)) (Z1 45 (.ld (.t 44)) (Z1 3 (.mv (.t 45)) .fin)))) (.seq (.seq (.plan (Z1 46 (.fa 1 (.t 1)) (Z1 47 (.ld (.t 46)) (Z1 48 (.len (.t 47)) (Z1 49 (.mv (.c (.int .i64 0))) .fin))))) (.block 0 (.loop (.seq (.plan (Z1 50 (.bin .lss (.t 49) (.t 48)) .fin)) (.seq (.cond (.t 50) .skip (.exit 0)) (.seq (.block 1 (.seq (.plan (Z1 51 (.mv (.t 49)) (Z1 52 (.ia 1 (.t 47) (.t 49)) (Z1 53 (.ld (.t 52)) (Z1 4 (.mv (.t 51)) (Z1 5 (.mv (.t 53)) .fin)))))) (.seq (.plan (Z1 55 (.mv (.t 5)) (Z1 57 (.fa 3 (.t 1)) (Z1 58 (.ld (.t 57)) (.both (.st (some 56) (.call 70 [(.t 55)]) none [((some 58),((.ld (.t 57)),none))] (.both (Z1 59 (.call 69 [(.t 56),(.t 58)]) (Z1 54 (.mv (.t 59)) (Z1 60 (.ext 0 (.t 54)) (Z1 61 (.ext 1 (.t 54)) (.st (some 6) (.alloc 76 [(.str ⟨#[]⟩),(.str ⟨#[]⟩),(.str ⟨#[]⟩),.nils,(.int .i64 0)]) none [((some 58),((.ld (.t 57)),none))] (.st none (.st 5 (.t 6) (.t 60)) none [] (Z1 7 (.mv (.t 61)) .fin))))))) (.st (some 6) (.alloc 76 [(.str ⟨#[]⟩),(.str ⟨#[]⟩),(.str ⟨#[]⟩),.nils,(.int .i64 0)]) none [((some 58),((.ld (.t 57)),none))] (Z1 59 (.call 69 [(.t 56),(.t 58)]) (Z1 54 (.mv (.t 59)) (Z1 60 (.ext 0 (.t 54)) (Z1 61 (.ext 1 (.t 54)) (.st none (.st 5 (.t 6) (.t 60)) none [] (Z1 7 (.mv (.t 61)) .fin))))))))) (.st (some 6) (.alloc 76 [(.str ⟨#[]⟩),(.str ⟨#[]⟩),(.str ⟨#[]⟩),.nils,(.int .i64 0)]) none [((some 58),((.ld (.t 57)),none))] (.st (some 56) (.call 70 [(.t 55)]) none [((some 58),((.ld (.t 57)),none))] (Z1 59 (.call 69 [(.t 56),(.t 58)]) (Z1 54 (.mv (.t 59)) (Z1 60 (.ext 0 (.t 54)) (Z1 61 (.ext 1 (.t 54)) (.st none (.st 5 (.t 6) (.t 60)) none [] (Z1 7 (.mv (.t 61)) .fin))))))))))))) (.seq (.seq (.plan (Z1 62 (.mv (.t 5)) (Z1 63 (.call 67 [(.t 62)]) (Z1 64 (.not (.t 63)) (Z1 65 (.mv (.t 64)) (.st (some 66) (.mv (.t 5)) (some (65,false)) [] (.st (some 67) (.len (.t 66)) (some (65,false)) [] (.st (some 68) (.mv (.t 4)) (some (65,false)) [] (.st (some 69) (.call 71 [(.t 68)]) (some (65,false)) [] (.st (some 70) (.bin .gtr (.t 67) (.t 69)) (some (65,false)) [] (Z1 71 (.pick (.t 65) (.c (.bool true)) (.t 70)) (Z1 72 (.mv (.t 71)) (.st (some 73) (.mv (.t 7)) (some (72,false)) [] (.st (some 74) (.not (.t 73)) (some (72,false)) [] (Z1 75 (.pick (.t 72) (.c (.bool true)) (.t 74)) (Z1 76 (.mv (.t 75)) (.st (some 77) (.lda 5 (.t 6)) (some (76,false)) [] (.st (some 78) (.fa 2 (.t 1)) (some (76,false)) [] (.st (some 79) (.ld (.t 78)) (some (76,false)) [] (.st (some 80) (.mv (.t 4)) (some (76,false)) [] (.st (some 81) (.ia 5 (.t 79) (.t 80)) (some (76,false)) [] (.st (some 82) (.lda 5 (.t 81)) (some (76,false)) [] (.st (some 83) (.call 72 [(.t 77),(.t 82)]) (some (76,false)) [] (.st (some 84) (.not (.t 83)) (some (76,false)) [] (Z1 85 (.pick (.t 76) (.c (.bool true)) (.t 84)) (Z1 86 (.mv (.t 85)) (.st (some 87) (.mv (.t 3)) (some (86,false)) [] (.st (some 88) (.mv (.t 5)) (some (86,false)) [] (.st (some 89) (.call 73 [(.t 87),(.t 88)]) (some (86,false)) [] (.st (some 90) (.not (.t 89)) (some (86,false)) [] (Z1 91 (.pick (.t 86) (.c (.bool true)) (.t 90)) .fin))))))))))))))))))))))))))))))) (.cond (.t 91) (.seq (.plan (Z1 2 (.mv (.c (.bool false))) .fin)) .ret) .skip)) (.seq (.seq (.plan (Z1 92 (.mv (.t 3)) (Z1 93 (.fn 75 [(.t 1)]) (Z1 94 (.call 74 [(.t 92),(.t 93)]) .fin)))) (.cond (.t 94) (.seq (.plan (Z1 2 (.mv (.c (.bool false))) .fin)) .ret) .skip)) (.plan (Z1 95 (.mv (.t 3)) (Z1 96 (.mv (.t 5)) (Z1 97 (.lit 23 1 2 [.nils,.nils] [(0,(1,(.t 95))),(1,(1,(.t 96)))]) (Z1 98 (.call 76 [(.t 97)]) (Z1 3 (.mv (.t 98)) .fin))))))))))) (.plan (Z1 99 (.bin .add (.t 49) (.c (.int .i64 1))) (Z1 49 (.mv (.t 99)) .fin))))))))) (.seq (.plan (Z1 2 (.mv (.c (.bool true))) .fin)) .ret))))),[(.t 2)]⟩
theorem h_impl_StoreOk:compF Tryz.prog 24=some c_impl_StoreOk:=by kernel_rfl
def c_impl_cloneRun:CF:=⟨5,(.seq (.plan (Z1 2 (.mv (.c .nils)) .fin)) (.seq (.plan (Z1 3 (.mv (.t 0)) (Z1 4 (.app 45 4 40 (.c .nils) (.t 3)) (Z1 2 (.mv (.t 4)) .fin)))) .ret)),[(.t 2)]⟩
theorem h_impl_cloneRun:compF Tryz.prog 141=some c_impl_cloneRun:=by kernel_rfl
def c_impl_cloneInts:CF:=⟨5,(.seq (.plan (Z1 2 (.mv (.c .nils)) .fin)) (.seq (.plan (Z1 3 (.mv (.t 0)) (Z1 4 (.app 3 1 8 (.c .nils) (.t 3)) (Z1 2 (.mv (.t 4)) .fin)))) .ret)),[(.t 2)]⟩
theorem h_impl_cloneInts:compF Tryz.prog 142=some c_impl_cloneInts:=by kernel_rfl
def c_impl_Sieve_clone:CF:=⟨8,(.seq (.plan (Z1 1 (.box 76 5 (.t 0)) (Z1 2 (.alloc 76 [(.str ⟨#[]⟩),(.str ⟨#[]⟩),(.str ⟨#[]⟩),.nils,(.int .i64 0)]) .fin))) (.seq (.plan (Z1 3 (.fa 3 (.t 1)) (Z1 4 (.ld (.t 3)) (Z1 5 (.app 9 1 16 (.c .nils) (.t 4)) (Z1 6 (.fa 3 (.t 1)) (.st none (.st 1 (.t 6) (.t 5)) none [] .fin)))))) (.seq (.plan (Z1 7 (.lda 5 (.t 1)) (.st none (.st 5 (.t 2) (.t 7)) none [] .fin))) .ret))),[(.ca 2 5)]⟩
theorem h_impl_Sieve_clone:compF Tryz.prog 143=some c_impl_Sieve_clone:=by kernel_rfl
def c_impl_Store_clone:CF:=⟨45,(.seq (.plan (Z1 1 (.box 28 6 (.t 0)) (Z1 2 (.alloc 28 [.nils,.nils,.nils,(.int .i64 0),(.int .i64 0),.nils]) .fin))) (.seq (.plan (Z1 6 (.fa 0 (.t 1)) (Z1 7 (.ld (.t 6)) (Z1 9 (.fa 3 (.t 1)) (Z1 10 (.ld (.t 9)) (Z1 11 (.fa 4 (.t 1)) (Z1 12 (.ld (.t 11)) (Z1 13 (.fa 5 (.t 1)) (Z1 14 (.ld (.t 13)) (.both (.st (some 8) (.call 141 [(.t 7)]) none [((some 14),((.ld (.t 13)),none)),((some 12),((.ld (.t 11)),none)),((some 10),((.ld (.t 9)),none))] (.both (.st (some 15) (.call 142 [(.t 14)]) none [((some 12),((.ld (.t 11)),none)),((some 10),((.ld (.t 9)),none))] (Z1 16 (.build [.nils,.nils,.nils,(.int .i64 0),(.int .i64 0),.nils] [(0,(1,(.t 8))),(3,(1,(.t 10))),(4,(1,(.t 12))),(5,(1,(.t 15)))]) (.st (some 3) (.alloc 28 [.nils,.nils,.nils,(.int .i64 0),(.int .i64 0),.nils]) none [((some 14),((.ld (.t 13)),none)),((some 12),((.ld (.t 11)),none)),((some 10),((.ld (.t 9)),none)),((some 7),((.ld (.t 6)),none))] (.st none (.st 6 (.t 3) (.t 16)) none [] .fin)))) (.st (some 3) (.alloc 28 [.nils,.nils,.nils,(.int .i64 0),(.int .i64 0),.nils]) none [((some 14),((.ld (.t 13)),none)),((some 12),((.ld (.t 11)),none)),((some 10),((.ld (.t 9)),none)),((some 7),((.ld (.t 6)),none))] (.st (some 15) (.call 142 [(.t 14)]) none [((some 12),((.ld (.t 11)),none)),((some 10),((.ld (.t 9)),none))] (Z1 16 (.build [.nils,.nils,.nils,(.int .i64 0),(.int .i64 0),.nils] [(0,(1,(.t 8))),(3,(1,(.t 10))),(4,(1,(.t 12))),(5,(1,(.t 15)))]) (.st none (.st 6 (.t 3) (.t 16)) none [] .fin)))))) (.st (some 3) (.alloc 28 [.nils,.nils,.nils,(.int .i64 0),(.int .i64 0),.nils]) none [((some 14),((.ld (.t 13)),none)),((some 12),((.ld (.t 11)),none)),((some 10),((.ld (.t 9)),none)),((some 7),((.ld (.t 6)),none))] (.st (some 8) (.call 141 [(.t 7)]) none [((some 14),((.ld (.t 13)),none)),((some 12),((.ld (.t 11)),none)),((some 10),((.ld (.t 9)),none))] (.st (some 15) (.call 142 [(.t 14)]) none [((some 12),((.ld (.t 11)),none)),((some 10),((.ld (.t 9)),none))] (Z1 16 (.build [.nils,.nils,.nils,(.int .i64 0),(.int .i64 0),.nils] [(0,(1,(.t 8))),(3,(1,(.t 10))),(4,(1,(.t 12))),(5,(1,(.t 15)))]) (.st none (.st 6 (.t 3) (.t 16)) none [] .fin))))))))))))))) (.seq (.seq (.plan (Z1 17 (.fa 1 (.t 1)) (Z1 18 (.ld (.t 17)) (Z1 19 (.len (.t 18)) (Z1 20 (.mv (.c (.int .i64 0))) .fin))))) (.block 0 (.loop (.seq (.plan (Z1 21 (.bin .lss (.t 20) (.t 19)) .fin)) (.seq (.cond (.t 21) .skip (.exit 0)) (.seq (.block 1 (.seq (.plan (Z1 22 (.mv (.t 20)) (Z1 23 (.ia 1 (.t 18) (.t 20)) (Z1 24 (.ld (.t 23)) (Z1 4 (.mv (.t 22)) (Z1 5 (.mv (.t 24)) .fin)))))) (.seq (.plan (Z1 25 (.fa 1 (.t 3)) (Z1 26 (.ld (.t 25)) (Z1 27 (.mv (.t 5)) (.st (some 28) (.call 141 [(.t 27)]) none [((some 26),((.ld (.t 25)),none))] (.st (some 29) (.lit 23 1 1 [.nils] [(0,(1,(.t 28)))]) none [((some 26),((.ld (.t 25)),none))] (Z1 30 (.app 23 1 24 (.t 26) (.t 29)) (Z1 31 (.fa 1 (.t 3)) (.st none (.st 1 (.t 31) (.t 30)) none [] .fin))))))))) (.plan (Z1 32 (.fa 2 (.t 3)) (Z1 33 (.ld (.t 32)) (Z1 34 (.fa 2 (.t 1)) (Z1 35 (.ld (.t 34)) (Z1 36 (.mv (.t 4)) (Z1 37 (.ia 5 (.t 35) (.t 36)) (Z1 38 (.lda 5 (.t 37)) (.st (some 39) (.call 143 [(.t 38)]) none [((some 33),((.ld (.t 32)),none))] (.st (some 40) (.lit 76 5 1 [(.str ⟨#[]⟩),(.str ⟨#[]⟩),(.str ⟨#[]⟩),.nils,(.int .i64 0)] [(0,(5,(.t 39)))]) none [((some 33),((.ld (.t 32)),none))] (Z1 41 (.app 76 5 80 (.t 33) (.t 40)) (Z1 42 (.fa 2 (.t 3)) (.st none (.st 1 (.t 42) (.t 41)) none [] .fin)))))))))))))))) (.plan (Z1 43 (.bin .add (.t 20) (.c (.int .i64 1))) (Z1 20 (.mv (.t 43)) .fin))))))))) (.seq (.plan (Z1 44 (.lda 6 (.t 3)) (.st none (.st 6 (.t 2) (.t 44)) none [] .fin))) .ret)))),[(.ca 2 6)]⟩
theorem h_impl_Store_clone:compF Tryz.prog 102=some c_impl_Store_clone:=by kernel_rfl
end Go.Proofs.YtepeokaplbbpoaaGreat.B

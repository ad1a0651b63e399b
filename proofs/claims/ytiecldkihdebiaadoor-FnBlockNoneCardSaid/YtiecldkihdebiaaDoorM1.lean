/- A part of the proof: The program logic: the set of words for simp. The program logic: slices and what they hold. The program logic: the arguments of a law, as objects that are read alone. The program logic: a law's row out of what is known of its code. The program logic: memory of one's own, append, and calls that are read off a table. Strings, entries and runs, in plain Lean. Written by codes.py: the compact codes of functions; each is what compF makes of the program's own. There is no condition. -/
import Derived.SizedLaws
import Derived.ChangeArms
import Derived.WideShapes
import Derived.WalkKit
import Derived.ProofKit
import Derived.OpenShut
import Derived.ChangeOld
import Derived.Carry
import Derived.Lib.ItoaNum
import Derived.Test.YtiecldkihdebiaaDoorProg
import Derived.Test.YtiecldkihdebiaaDoorM0
namespace Go.Proofs.YtiecldkihdebiaaDoor.B
open Go.RowKit
set_option linter.unusedVariables false
set_option linter.unusedSimpArgs false

section
variable (C : CallP) (t : Tm) (H : Hp) (K : Tm → Hp → Prop) (Q : Ex → Tm → Hp → Prop)
@[simp] theorem W_seq (a b : CC) : W C (.seq a b) Q t H = W C a (thenX (W C b Q) Q) t H := rfl
@[simp] theorem W_skip : W C .skip Q t H = Q .normal t H := rfl
@[simp] theorem W_plan (p : Plan) : W C (.plan p) Q t H = RgP C p t H (Q .normal) := rfl
@[simp] theorem W_block_plan (id : Nat) (c : Plan) : W C (.block id (.plan c)) Q t H = W C (.plan c) (inB id Q) t H := rfl
@[simp] theorem W_block_seq (id : Nat) (a b : CC) : W C (.block id (.seq a b)) Q t H = W C (.seq a b) (inB id Q) t H := rfl
@[simp] theorem W_block_cond (id : Nat) (c : Od) (a b : CC) : W C (.block id (.cond c a b)) Q t H = W C (.cond c a b) (inB id Q) t H := rfl
@[simp] theorem W_block_block (id id2 : Nat) (c : CC) : W C (.block id (.block id2 c)) Q t H = W C (.block id2 c) (inB id Q) t H := rfl
@[simp] theorem W_block_skip (id : Nat) : W C (.block id .skip) Q t H = Q .normal t H := rfl
@[simp] theorem W_exit (id : Nat) : W C (.exit id) Q t H = Q (.exit id) t H := rfl
@[simp] theorem W_ret : W C .ret Q t H = Q .ret t H := rfl
@[simp] theorem RgP_fin : RgP C .fin t H K = K t H := rfl
@[simp] theorem RgP_both (a b : Plan) : RgP C (.both a b) t H K = (RgP C a t H K ∧ RgP C b t H K) := rfl
@[simp] theorem RgP_calv (d : Option Nat) (x : Od) (xs : List Od) (ag) (p : Plan) : RgP C (.st d (.calv x xs) none ag p) t H K = calvG (x.ev t) C (xs.map (·.ev t)) d ag p t H K := by
  simp only [RgP]
  show stepK C t H (.calv x xs) _ = _
  simp only [stepK, calvG]
  generalize x.ev t = v
  cases v <;> rfl
@[simp] theorem calvG_fn (f : Nat) (cs args : List AV) (d : Option Nat) (ag) (p : Plan) : calvG (.fn f cs) C args d ag p t H K = callG C f (args ++ cs) d ag p t H K := rfl
variable (g : Nat) (d : Option Nat) (op : AOp) (p : Plan)
@[simp] theorem gG_tt : gG (.bool true) g true C d op p t H K = RgP C (.st d op none [] p) t H K := by simp [gG]
@[simp] theorem gG_tf : gG (.bool true) g false C d op p t H K = RgP C p (updO t d .un) H K := by simp [gG]
@[simp] theorem gG_ft : gG (.bool false) g true C d op p t H K = RgP C p (updO t d .un) H K := by simp [gG]
@[simp] theorem gG_ff : gG (.bool false) g false C d op p t H K = RgP C (.st d op none [] p) t H K := by simp [gG]
@[simp] theorem gG_un (b : Bool) : gG .un g b C d op p t H K = RgP C p (updO t d .un) H K := rfl
variable (a b : CC)
@[simp] theorem cG_t : cG (.bool true) C a b Q t H = W C a Q t H := by simp [cG]
@[simp] theorem cG_f : cG (.bool false) C a b Q t H = W C b Q t H := by simp [cG]
end
/-! The operations one by one. -/
@[simp] theorem stepH_mv (t : Tm) (H : Hp) (x : Od) : stepH t H (.mv x) = H := rfl
@[simp] theorem stepH_pick (t : Tm) (H : Hp) (x y z : Od) : stepH t H (.pick x y z) = H := rfl
@[simp] theorem stepC_box (t : Tm) (H : Hp) (e n : Nat) (x : Od) : stepC t H (.box e n x) = ((stepA t H (.box e n x)).isSome = true) := rfl
@[simp] theorem stepV_box (t : Tm) (H : Hp) (e n : Nat) (x : Od) : stepV t H (.box e n x) = oV (stepA t H (.box e n x)) := rfl
@[simp] theorem stepH_box (t : Tm) (H : Hp) (e n : Nat) (x : Od) : stepH t H (.box e n x) = oH (stepA t H (.box e n x)) H := rfl
@[simp] theorem stepC_build (t : Tm) (H : Hp) (zs : List AV) (ps : List (Nat × Nat × Od)) : stepC t H (.build zs ps) = ((stepA t H (.build zs ps)).isSome = true) := rfl
@[simp] theorem stepV_build (t : Tm) (H : Hp) (zs : List AV) (ps : List (Nat × Nat × Od)) : stepV t H (.build zs ps) = oV (stepA t H (.build zs ps)) := rfl
@[simp] theorem stepH_build (t : Tm) (H : Hp) (zs : List AV) (ps : List (Nat × Nat × Od)) : stepH t H (.build zs ps) = oH (stepA t H (.build zs ps)) H := rfl
@[simp] theorem stepC_lit (t : Tm) (H : Hp) (e n m : Nat) (zs : List AV) (ps : List (Nat × Nat × Od)) : stepC t H (.lit e n m zs ps) = ((stepA t H (.lit e n m zs ps)).isSome = true) := rfl
@[simp] theorem stepV_lit (t : Tm) (H : Hp) (e n m : Nat) (zs : List AV) (ps : List (Nat × Nat × Od)) : stepV t H (.lit e n m zs ps) = oV (stepA t H (.lit e n m zs ps)) := rfl
@[simp] theorem stepH_lit (t : Tm) (H : Hp) (e n m : Nat) (zs : List AV) (ps : List (Nat × Nat × Od)) : stepH t H (.lit e n m zs ps) = oH (stepA t H (.lit e n m zs ps)) H := rfl
@[simp] theorem stepC_ld (t : Tm) (H : Hp) (x : Od) : stepC t H (.ld x) = ((stepA t H (.ld x)).isSome = true) := rfl
@[simp] theorem stepV_ld (t : Tm) (H : Hp) (x : Od) : stepV t H (.ld x) = oV (stepA t H (.ld x)) := rfl
@[simp] theorem stepH_ld (t : Tm) (H : Hp) (x : Od) : stepH t H (.ld x) = oH (stepA t H (.ld x)) H := rfl
@[simp] theorem stepC_lda (t : Tm) (H : Hp) (n : Nat) (x : Od) : stepC t H (.lda n x) = ((stepA t H (.lda n x)).isSome = true) := rfl
@[simp] theorem stepV_lda (t : Tm) (H : Hp) (n : Nat) (x : Od) : stepV t H (.lda n x) = oV (stepA t H (.lda n x)) := rfl
@[simp] theorem stepH_lda (t : Tm) (H : Hp) (n : Nat) (x : Od) : stepH t H (.lda n x) = oH (stepA t H (.lda n x)) H := rfl
@[simp] theorem stepC_st (t : Tm) (H : Hp) (n : Nat) (x y : Od) : stepC t H (.st n x y) = ((stepA t H (.st n x y)).isSome = true) := rfl
@[simp] theorem stepV_st (t : Tm) (H : Hp) (n : Nat) (x y : Od) : stepV t H (.st n x y) = oV (stepA t H (.st n x y)) := rfl
@[simp] theorem stepH_st (t : Tm) (H : Hp) (n : Nat) (x y : Od) : stepH t H (.st n x y) = oH (stepA t H (.st n x y)) H := rfl
@[simp] theorem stepC_nck (t : Tm) (H : Hp) (x : Od) : stepC t H (.nck x) = ((stepA t H (.nck x)).isSome = true) := rfl
@[simp] theorem stepV_nck (t : Tm) (H : Hp) (x : Od) : stepV t H (.nck x) = oV (stepA t H (.nck x)) := rfl
@[simp] theorem stepH_nck (t : Tm) (H : Hp) (x : Od) : stepH t H (.nck x) = oH (stepA t H (.nck x)) H := rfl
@[simp] theorem stepH_bin (t : Tm) (H : Hp) (b : BinOp) (x y : Od) : stepH t H (.bin b x y) = H := rfl
@[simp] theorem stepC_eqb (t : Tm) (H : Hp) (b : Bool) (x y : Od) : stepC t H (.eqb b x y) = ((stepA t H (.eqb b x y)).isSome = true) := rfl
@[simp] theorem stepV_eqb (t : Tm) (H : Hp) (b : Bool) (x y : Od) : stepV t H (.eqb b x y) = oV (stepA t H (.eqb b x y)) := rfl
@[simp] theorem stepH_eqb (t : Tm) (H : Hp) (b : Bool) (x y : Od) : stepH t H (.eqb b x y) = oH (stepA t H (.eqb b x y)) H := rfl
@[simp] theorem stepC_eqn (t : Tm) (H : Hp) (n : Nat) (b : Bool) (x y : Od) : stepC t H (.eqn n b x y) = ((stepA t H (.eqn n b x y)).isSome = true) := rfl
@[simp] theorem stepV_eqn (t : Tm) (H : Hp) (n : Nat) (b : Bool) (x y : Od) : stepV t H (.eqn n b x y) = oV (stepA t H (.eqn n b x y)) := rfl
@[simp] theorem stepH_eqn (t : Tm) (H : Hp) (n : Nat) (b : Bool) (x y : Od) : stepH t H (.eqn n b x y) = oH (stepA t H (.eqn n b x y)) H := rfl
@[simp] theorem stepC_eqs (t : Tm) (H : Hp) (b : Bool) (ks : List Nat) (x y : Od) : stepC t H (.eqs b ks x y) = ((stepA t H (.eqs b ks x y)).isSome = true) := rfl
@[simp] theorem stepV_eqs (t : Tm) (H : Hp) (b : Bool) (ks : List Nat) (x y : Od) : stepV t H (.eqs b ks x y) = oV (stepA t H (.eqs b ks x y)) := rfl
@[simp] theorem stepH_eqs (t : Tm) (H : Hp) (b : Bool) (ks : List Nat) (x y : Od) : stepH t H (.eqs b ks x y) = oH (stepA t H (.eqs b ks x y)) H := rfl
@[simp] theorem stepH_not (t : Tm) (H : Hp) (x : Od) : stepH t H (.not x) = H := rfl
@[simp] theorem stepC_neg (t : Tm) (H : Hp) (x : Od) : stepC t H (.neg x) = ((stepA t H (.neg x)).isSome = true) := rfl
@[simp] theorem stepV_neg (t : Tm) (H : Hp) (x : Od) : stepV t H (.neg x) = oV (stepA t H (.neg x)) := rfl
@[simp] theorem stepH_neg (t : Tm) (H : Hp) (x : Od) : stepH t H (.neg x) = oH (stepA t H (.neg x)) H := rfl
@[simp] theorem stepC_cv (t : Tm) (H : Hp) (k : IntKind) (x : Od) : stepC t H (.cv k x) = ((stepA t H (.cv k x)).isSome = true) := rfl
@[simp] theorem stepV_cv (t : Tm) (H : Hp) (k : IntKind) (x : Od) : stepV t H (.cv k x) = oV (stepA t H (.cv k x)) := rfl
@[simp] theorem stepH_cv (t : Tm) (H : Hp) (k : IntKind) (x : Od) : stepH t H (.cv k x) = oH (stepA t H (.cv k x)) H := rfl
@[simp] theorem stepC_mk (t : Tm) (H : Hp) (e n m : Nat) (zs : List AV) (x : Od) : stepC t H (.mk e n m zs x) = ((stepA t H (.mk e n m zs x)).isSome = true) := rfl
@[simp] theorem stepV_mk (t : Tm) (H : Hp) (e n m : Nat) (zs : List AV) (x : Od) : stepV t H (.mk e n m zs x) = oV (stepA t H (.mk e n m zs x)) := rfl
@[simp] theorem stepH_mk (t : Tm) (H : Hp) (e n m : Nat) (zs : List AV) (x : Od) : stepH t H (.mk e n m zs x) = oH (stepA t H (.mk e n m zs x)) H := rfl
@[simp] theorem stepC_cut (t : Tm) (H : Hp) (n : Nat) (x : Od) (y z : Option Od) : stepC t H (.cut n x y z) = ((stepA t H (.cut n x y z)).isSome = true) := rfl
@[simp] theorem stepV_cut (t : Tm) (H : Hp) (n : Nat) (x : Od) (y z : Option Od) : stepV t H (.cut n x y z) = oV (stepA t H (.cut n x y z)) := rfl
@[simp] theorem stepH_cut (t : Tm) (H : Hp) (n : Nat) (x : Od) (y z : Option Od) : stepH t H (.cut n x y z) = oH (stepA t H (.cut n x y z)) H := rfl
@[simp] theorem stepH_fa (t : Tm) (H : Hp) (n : Nat) (x : Od) : stepH t H (.fa n x) = H := rfl
@[simp] theorem stepC_fd (t : Tm) (H : Hp) (n m : Nat) (x : Od) : stepC t H (.fd n m x) = ((stepA t H (.fd n m x)).isSome = true) := rfl
@[simp] theorem stepV_fd (t : Tm) (H : Hp) (n m : Nat) (x : Od) : stepV t H (.fd n m x) = oV (stepA t H (.fd n m x)) := rfl
@[simp] theorem stepH_fd (t : Tm) (H : Hp) (n m : Nat) (x : Od) : stepH t H (.fd n m x) = oH (stepA t H (.fd n m x)) H := rfl
@[simp] theorem stepH_ix (t : Tm) (H : Hp) (x y : Od) : stepH t H (.ix x y) = H := rfl
@[simp] theorem stepH_ext (t : Tm) (H : Hp) (n : Nat) (x : Od) : stepH t H (.ext n x) = H := rfl
@[simp] theorem stepH_len (t : Tm) (H : Hp) (x : Od) : stepH t H (.len x) = H := rfl
@[simp] theorem stepH_lns (t : Tm) (H : Hp) (x : Od) : stepH t H (.lns x) = H := rfl
@[simp] theorem stepC_mx (t : Tm) (H : Hp) (x y : Od) : stepC t H (.mx x y) = ((stepA t H (.mx x y)).isSome = true) := rfl
@[simp] theorem stepV_mx (t : Tm) (H : Hp) (x y : Od) : stepV t H (.mx x y) = oV (stepA t H (.mx x y)) := rfl
@[simp] theorem stepH_mx (t : Tm) (H : Hp) (x y : Od) : stepH t H (.mx x y) = oH (stepA t H (.mx x y)) H := rfl
@[simp] theorem stepC_mn (t : Tm) (H : Hp) (x y : Od) : stepC t H (.mn x y) = ((stepA t H (.mn x y)).isSome = true) := rfl
@[simp] theorem stepV_mn (t : Tm) (H : Hp) (x y : Od) : stepV t H (.mn x y) = oV (stepA t H (.mn x y)) := rfl
@[simp] theorem stepH_mn (t : Tm) (H : Hp) (x y : Od) : stepH t H (.mn x y) = oH (stepA t H (.mn x y)) H := rfl
@[simp] theorem stepH_fn (t : Tm) (H : Hp) (n : Nat) (xs : List Od) : stepH t H (.fn n xs) = H := rfl
@[simp] theorem stepC_app (t : Tm) (H : Hp) (e n m : Nat) (x y : Od) : stepC t H (.app e n m x y) = ((stepA t H (.app e n m x y)).isSome = true) := rfl
@[simp] theorem stepV_app (t : Tm) (H : Hp) (e n m : Nat) (x y : Od) : stepV t H (.app e n m x y) = oV (stepA t H (.app e n m x y)) := rfl
@[simp] theorem stepH_app (t : Tm) (H : Hp) (e n m : Nat) (x y : Od) : stepH t H (.app e n m x y) = oH (stepA t H (.app e n m x y)) H := rfl
@[simp] theorem stepH_alloc (t : Tm) (H : Hp) (e : Nat) (zs : List AV) : stepH t H (.alloc e zs) = H ++ [some ⟨[zs], zs.length, e, false⟩] := rfl
@[simp] theorem stepV_mv (t : Tm) (H : Hp) (x : Od) : stepV t H (.mv x) = x.ev t := rfl
@[simp] theorem stepC_mv (t : Tm) (H : Hp) (x : Od) : stepC t H (.mv x) = True := rfl
@[simp] theorem stepV_alloc (t : Tm) (H : Hp) (e : Nat) (zs : List AV) : stepV t H (.alloc e zs) = .pt H.length 0 0 := rfl
@[simp] theorem stepC_alloc (t : Tm) (H : Hp) (e : Nat) (zs : List AV) : stepC t H (.alloc e zs) = True := rfl
@[simp] theorem stepV_fn (t : Tm) (H : Hp) (n : Nat) (xs : List Od) : stepV t H (.fn n xs) = .fn n (xs.map (·.ev t)) := rfl
@[simp] theorem stepC_fn (t : Tm) (H : Hp) (n : Nat) (xs : List Od) : stepC t H (.fn n xs) = True := rfl
@[simp] theorem stepV_bin (t : Tm) (H : Hp) (b : BinOp) (x y : Od) : stepV t H (.bin b x y) = binV b (x.ev t) (y.ev t) := rfl
@[simp] theorem stepC_bin (t : Tm) (H : Hp) (b : BinOp) (x y : Od) : stepC t H (.bin b x y) = binC b (x.ev t) (y.ev t) := rfl
@[simp] theorem R_mv (C : CallP) (t : Tm) (H : Hp) (K : Tm → Hp → Prop) (d : Option Nat) (pl : Plan) (x : Od) : RgP C (.st d (.mv x) none [] pl) t H K = (stepC t H (.mv x) ∧ RgP C pl (updO t d (stepV t H (.mv x))) (stepH t H (.mv x)) K) := RgP_op C t H K rfl d pl
@[simp] theorem RA_mv (C : CallP) (t : Tm) (H : Hp) (K : Tm → Hp → Prop) (d : Option Nat) (pl : Plan) (q) (ag) (x : Od) : RgP C (.st d (.mv x) none (q :: ag) pl) t H K = (stepC t H (.mv x) ∧ againG (q :: ag) (updO t d (stepV t H (.mv x))) (stepH t H (.mv x)) ∧ RgP C pl (updO t d (stepV t H (.mv x))) (stepH t H (.mv x)) K) := RgP_ag C t H K rfl d q ag pl
@[simp] theorem R_pick (C : CallP) (t : Tm) (H : Hp) (K : Tm → Hp → Prop) (d : Option Nat) (pl : Plan) (x y z : Od) : RgP C (.st d (.pick x y z) none [] pl) t H K = (stepC t H (.pick x y z) ∧ RgP C pl (updO t d (stepV t H (.pick x y z))) (stepH t H (.pick x y z)) K) := RgP_op C t H K rfl d pl
@[simp] theorem R_alloc (C : CallP) (t : Tm) (H : Hp) (K : Tm → Hp → Prop) (d : Option Nat) (pl : Plan) (e : Nat) (zs : List AV) : RgP C (.st d (.alloc e zs) none [] pl) t H K = (stepC t H (.alloc e zs) ∧ RgP C pl (updO t d (stepV t H (.alloc e zs))) (stepH t H (.alloc e zs)) K) := RgP_op C t H K rfl d pl
@[simp] theorem RA_alloc (C : CallP) (t : Tm) (H : Hp) (K : Tm → Hp → Prop) (d : Option Nat) (pl : Plan) (q) (ag) (e : Nat) (zs : List AV) : RgP C (.st d (.alloc e zs) none (q :: ag) pl) t H K = (stepC t H (.alloc e zs) ∧ againG (q :: ag) (updO t d (stepV t H (.alloc e zs))) (stepH t H (.alloc e zs)) ∧ RgP C pl (updO t d (stepV t H (.alloc e zs))) (stepH t H (.alloc e zs)) K) := RgP_ag C t H K rfl d q ag pl
@[simp] theorem R_box (C : CallP) (t : Tm) (H : Hp) (K : Tm → Hp → Prop) (d : Option Nat) (pl : Plan) (e n : Nat) (x : Od) : RgP C (.st d (.box e n x) none [] pl) t H K = (stepC t H (.box e n x) ∧ RgP C pl (updO t d (stepV t H (.box e n x))) (stepH t H (.box e n x)) K) := RgP_op C t H K rfl d pl
@[simp] theorem RA_box (C : CallP) (t : Tm) (H : Hp) (K : Tm → Hp → Prop) (d : Option Nat) (pl : Plan) (q) (ag) (e n : Nat) (x : Od) : RgP C (.st d (.box e n x) none (q :: ag) pl) t H K = (stepC t H (.box e n x) ∧ againG (q :: ag) (updO t d (stepV t H (.box e n x))) (stepH t H (.box e n x)) ∧ RgP C pl (updO t d (stepV t H (.box e n x))) (stepH t H (.box e n x)) K) := RgP_ag C t H K rfl d q ag pl
@[simp] theorem R_build (C : CallP) (t : Tm) (H : Hp) (K : Tm → Hp → Prop) (d : Option Nat) (pl : Plan) (zs : List AV) (ps : List (Nat × Nat × Od)) : RgP C (.st d (.build zs ps) none [] pl) t H K = (stepC t H (.build zs ps) ∧ RgP C pl (updO t d (stepV t H (.build zs ps))) (stepH t H (.build zs ps)) K) := RgP_op C t H K rfl d pl
@[simp] theorem R_lit (C : CallP) (t : Tm) (H : Hp) (K : Tm → Hp → Prop) (d : Option Nat) (pl : Plan) (e n m : Nat) (zs : List AV) (ps : List (Nat × Nat × Od)) : RgP C (.st d (.lit e n m zs ps) none [] pl) t H K = (stepC t H (.lit e n m zs ps) ∧ RgP C pl (updO t d (stepV t H (.lit e n m zs ps))) (stepH t H (.lit e n m zs ps)) K) := RgP_op C t H K rfl d pl
@[simp] theorem RA_lit (C : CallP) (t : Tm) (H : Hp) (K : Tm → Hp → Prop) (d : Option Nat) (pl : Plan) (q) (ag) (e n m : Nat) (zs : List AV) (ps : List (Nat × Nat × Od)) : RgP C (.st d (.lit e n m zs ps) none (q :: ag) pl) t H K = (stepC t H (.lit e n m zs ps) ∧ againG (q :: ag) (updO t d (stepV t H (.lit e n m zs ps))) (stepH t H (.lit e n m zs ps)) ∧ RgP C pl (updO t d (stepV t H (.lit e n m zs ps))) (stepH t H (.lit e n m zs ps)) K) := RgP_ag C t H K rfl d q ag pl
@[simp] theorem R_ld (C : CallP) (t : Tm) (H : Hp) (K : Tm → Hp → Prop) (d : Option Nat) (pl : Plan) (x : Od) : RgP C (.st d (.ld x) none [] pl) t H K = (stepC t H (.ld x) ∧ RgP C pl (updO t d (stepV t H (.ld x))) (stepH t H (.ld x)) K) := RgP_op C t H K rfl d pl
@[simp] theorem R_lda (C : CallP) (t : Tm) (H : Hp) (K : Tm → Hp → Prop) (d : Option Nat) (pl : Plan) (n : Nat) (x : Od) : RgP C (.st d (.lda n x) none [] pl) t H K = (stepC t H (.lda n x) ∧ RgP C pl (updO t d (stepV t H (.lda n x))) (stepH t H (.lda n x)) K) := RgP_op C t H K rfl d pl
@[simp] theorem R_st (C : CallP) (t : Tm) (H : Hp) (K : Tm → Hp → Prop) (d : Option Nat) (pl : Plan) (n : Nat) (x y : Od) : RgP C (.st d (.st n x y) none [] pl) t H K = (stepC t H (.st n x y) ∧ RgP C pl (updO t d (stepV t H (.st n x y))) (stepH t H (.st n x y)) K) := RgP_op C t H K rfl d pl
@[simp] theorem RA_st (C : CallP) (t : Tm) (H : Hp) (K : Tm → Hp → Prop) (d : Option Nat) (pl : Plan) (q) (ag) (n : Nat) (x y : Od) : RgP C (.st d (.st n x y) none (q :: ag) pl) t H K = (stepC t H (.st n x y) ∧ againG (q :: ag) (updO t d (stepV t H (.st n x y))) (stepH t H (.st n x y)) ∧ RgP C pl (updO t d (stepV t H (.st n x y))) (stepH t H (.st n x y)) K) := RgP_ag C t H K rfl d q ag pl
@[simp] theorem R_nck (C : CallP) (t : Tm) (H : Hp) (K : Tm → Hp → Prop) (d : Option Nat) (pl : Plan) (x : Od) : RgP C (.st d (.nck x) none [] pl) t H K = (stepC t H (.nck x) ∧ RgP C pl (updO t d (stepV t H (.nck x))) (stepH t H (.nck x)) K) := RgP_op C t H K rfl d pl
@[simp] theorem R_bin (C : CallP) (t : Tm) (H : Hp) (K : Tm → Hp → Prop) (d : Option Nat) (pl : Plan) (b : BinOp) (x y : Od) : RgP C (.st d (.bin b x y) none [] pl) t H K = (stepC t H (.bin b x y) ∧ RgP C pl (updO t d (stepV t H (.bin b x y))) (stepH t H (.bin b x y)) K) := RgP_op C t H K rfl d pl
@[simp] theorem R_eqb (C : CallP) (t : Tm) (H : Hp) (K : Tm → Hp → Prop) (d : Option Nat) (pl : Plan) (b : Bool) (x y : Od) : RgP C (.st d (.eqb b x y) none [] pl) t H K = (stepC t H (.eqb b x y) ∧ RgP C pl (updO t d (stepV t H (.eqb b x y))) (stepH t H (.eqb b x y)) K) := RgP_op C t H K rfl d pl
@[simp] theorem R_eqn (C : CallP) (t : Tm) (H : Hp) (K : Tm → Hp → Prop) (d : Option Nat) (pl : Plan) (n : Nat) (b : Bool) (x y : Od) : RgP C (.st d (.eqn n b x y) none [] pl) t H K = (stepC t H (.eqn n b x y) ∧ RgP C pl (updO t d (stepV t H (.eqn n b x y))) (stepH t H (.eqn n b x y)) K) := RgP_op C t H K rfl d pl
@[simp] theorem R_eqs (C : CallP) (t : Tm) (H : Hp) (K : Tm → Hp → Prop) (d : Option Nat) (pl : Plan) (b : Bool) (ks : List Nat) (x y : Od) : RgP C (.st d (.eqs b ks x y) none [] pl) t H K = (stepC t H (.eqs b ks x y) ∧ RgP C pl (updO t d (stepV t H (.eqs b ks x y))) (stepH t H (.eqs b ks x y)) K) := RgP_op C t H K rfl d pl
@[simp] theorem R_not (C : CallP) (t : Tm) (H : Hp) (K : Tm → Hp → Prop) (d : Option Nat) (pl : Plan) (x : Od) : RgP C (.st d (.not x) none [] pl) t H K = (stepC t H (.not x) ∧ RgP C pl (updO t d (stepV t H (.not x))) (stepH t H (.not x)) K) := RgP_op C t H K rfl d pl
@[simp] theorem R_neg (C : CallP) (t : Tm) (H : Hp) (K : Tm → Hp → Prop) (d : Option Nat) (pl : Plan) (x : Od) : RgP C (.st d (.neg x) none [] pl) t H K = (stepC t H (.neg x) ∧ RgP C pl (updO t d (stepV t H (.neg x))) (stepH t H (.neg x)) K) := RgP_op C t H K rfl d pl
@[simp] theorem R_cv (C : CallP) (t : Tm) (H : Hp) (K : Tm → Hp → Prop) (d : Option Nat) (pl : Plan) (k : IntKind) (x : Od) : RgP C (.st d (.cv k x) none [] pl) t H K = (stepC t H (.cv k x) ∧ RgP C pl (updO t d (stepV t H (.cv k x))) (stepH t H (.cv k x)) K) := RgP_op C t H K rfl d pl
@[simp] theorem R_mk (C : CallP) (t : Tm) (H : Hp) (K : Tm → Hp → Prop) (d : Option Nat) (pl : Plan) (e n m : Nat) (zs : List AV) (x : Od) : RgP C (.st d (.mk e n m zs x) none [] pl) t H K = (stepC t H (.mk e n m zs x) ∧ RgP C pl (updO t d (stepV t H (.mk e n m zs x))) (stepH t H (.mk e n m zs x)) K) := RgP_op C t H K rfl d pl
@[simp] theorem RA_mk (C : CallP) (t : Tm) (H : Hp) (K : Tm → Hp → Prop) (d : Option Nat) (pl : Plan) (q) (ag) (e n m : Nat) (zs : List AV) (x : Od) : RgP C (.st d (.mk e n m zs x) none (q :: ag) pl) t H K = (stepC t H (.mk e n m zs x) ∧ againG (q :: ag) (updO t d (stepV t H (.mk e n m zs x))) (stepH t H (.mk e n m zs x)) ∧ RgP C pl (updO t d (stepV t H (.mk e n m zs x))) (stepH t H (.mk e n m zs x)) K) := RgP_ag C t H K rfl d q ag pl
theorem R_cut (C : CallP) (t : Tm) (H : Hp) (K : Tm → Hp → Prop) (d : Option Nat) (pl : Plan) (n : Nat) (x : Od) (y z : Option Od) : RgP C (.st d (.cut n x y z) none [] pl) t H K = (stepC t H (.cut n x y z) ∧ RgP C pl (updO t d (stepV t H (.cut n x y z))) (stepH t H (.cut n x y z)) K) := RgP_op C t H K rfl d pl
@[simp] theorem R_cuts (C : CallP) (t : Tm) (H : Hp) (K : Tm → Hp → Prop) (d : Option Nat) (pl : Plan) (x : Od) (y z : Option Od) : RgP C (.st d (.cuts x y z) none [] pl) t H K = (stepC t H (.cuts x y z) ∧ RgP C pl (updO t d (stepV t H (.cuts x y z))) (stepH t H (.cuts x y z)) K) := RgP_op C t H K rfl d pl
@[simp] theorem R_fa (C : CallP) (t : Tm) (H : Hp) (K : Tm → Hp → Prop) (d : Option Nat) (pl : Plan) (n : Nat) (x : Od) : RgP C (.st d (.fa n x) none [] pl) t H K = (stepC t H (.fa n x) ∧ RgP C pl (updO t d (stepV t H (.fa n x))) (stepH t H (.fa n x)) K) := RgP_op C t H K rfl d pl
@[simp] theorem R_fd (C : CallP) (t : Tm) (H : Hp) (K : Tm → Hp → Prop) (d : Option Nat) (pl : Plan) (n m : Nat) (x : Od) : RgP C (.st d (.fd n m x) none [] pl) t H K = (stepC t H (.fd n m x) ∧ RgP C pl (updO t d (stepV t H (.fd n m x))) (stepH t H (.fd n m x)) K) := RgP_op C t H K rfl d pl
@[simp] theorem R_ia (C : CallP) (t : Tm) (H : Hp) (K : Tm → Hp → Prop) (d : Option Nat) (pl : Plan) (n : Nat) (x y : Od) : RgP C (.st d (.ia n x y) none [] pl) t H K = (stepC t H (.ia n x y) ∧ RgP C pl (updO t d (stepV t H (.ia n x y))) (stepH t H (.ia n x y)) K) := RgP_op C t H K rfl d pl
@[simp] theorem R_ix (C : CallP) (t : Tm) (H : Hp) (K : Tm → Hp → Prop) (d : Option Nat) (pl : Plan) (x y : Od) : RgP C (.st d (.ix x y) none [] pl) t H K = (stepC t H (.ix x y) ∧ RgP C pl (updO t d (stepV t H (.ix x y))) (stepH t H (.ix x y)) K) := RgP_op C t H K rfl d pl
@[simp] theorem R_ext (C : CallP) (t : Tm) (H : Hp) (K : Tm → Hp → Prop) (d : Option Nat) (pl : Plan) (n : Nat) (x : Od) : RgP C (.st d (.ext n x) none [] pl) t H K = (stepC t H (.ext n x) ∧ RgP C pl (updO t d (stepV t H (.ext n x))) (stepH t H (.ext n x)) K) := RgP_op C t H K rfl d pl
@[simp] theorem R_len (C : CallP) (t : Tm) (H : Hp) (K : Tm → Hp → Prop) (d : Option Nat) (pl : Plan) (x : Od) : RgP C (.st d (.len x) none [] pl) t H K = (stepC t H (.len x) ∧ RgP C pl (updO t d (stepV t H (.len x))) (stepH t H (.len x)) K) := RgP_op C t H K rfl d pl
@[simp] theorem R_lns (C : CallP) (t : Tm) (H : Hp) (K : Tm → Hp → Prop) (d : Option Nat) (pl : Plan) (x : Od) : RgP C (.st d (.lns x) none [] pl) t H K = (stepC t H (.lns x) ∧ RgP C pl (updO t d (stepV t H (.lns x))) (stepH t H (.lns x)) K) := RgP_op C t H K rfl d pl
@[simp] theorem R_mx (C : CallP) (t : Tm) (H : Hp) (K : Tm → Hp → Prop) (d : Option Nat) (pl : Plan) (x y : Od) : RgP C (.st d (.mx x y) none [] pl) t H K = (stepC t H (.mx x y) ∧ RgP C pl (updO t d (stepV t H (.mx x y))) (stepH t H (.mx x y)) K) := RgP_op C t H K rfl d pl
@[simp] theorem R_mn (C : CallP) (t : Tm) (H : Hp) (K : Tm → Hp → Prop) (d : Option Nat) (pl : Plan) (x y : Od) : RgP C (.st d (.mn x y) none [] pl) t H K = (stepC t H (.mn x y) ∧ RgP C pl (updO t d (stepV t H (.mn x y))) (stepH t H (.mn x y)) K) := RgP_op C t H K rfl d pl
@[simp] theorem R_fn (C : CallP) (t : Tm) (H : Hp) (K : Tm → Hp → Prop) (d : Option Nat) (pl : Plan) (n : Nat) (xs : List Od) : RgP C (.st d (.fn n xs) none [] pl) t H K = (stepC t H (.fn n xs) ∧ RgP C pl (updO t d (stepV t H (.fn n xs))) (stepH t H (.fn n xs)) K) := RgP_op C t H K rfl d pl
theorem R_app (C : CallP) (t : Tm) (H : Hp) (K : Tm → Hp → Prop) (d : Option Nat) (pl : Plan) (e n m : Nat) (x y : Od) : RgP C (.st d (.app e n m x y) none [] pl) t H K = (stepC t H (.app e n m x y) ∧ RgP C pl (updO t d (stepV t H (.app e n m x y))) (stepH t H (.app e n m x y)) K) := RgP_op C t H K rfl d pl
theorem RA_app (C : CallP) (t : Tm) (H : Hp) (K : Tm → Hp → Prop) (d : Option Nat) (pl : Plan) (q) (ag) (e n m : Nat) (x y : Od) : RgP C (.st d (.app e n m x y) none (q :: ag) pl) t H K = (stepC t H (.app e n m x y) ∧ againG (q :: ag) (updO t d (stepV t H (.app e n m x y))) (stepH t H (.app e n m x y)) ∧ RgP C pl (updO t d (stepV t H (.app e n m x y))) (stepH t H (.app e n m x y)) K) := RgP_ag C t H K rfl d q ag pl
@[simp] theorem stepA_box (t : Tm) (H : Hp) (ety : Nat) (esz : Nat) (x : Od) : stepA t H (.box ety esz x) = (if (x.ev t).cells.length = esz ∧ cells1 (x.ev t) = true then some (.pt H.length 0 0, H ++ [some ⟨[(x.ev t).cells], esz, ety, false⟩]) else none) := rfl
@[simp] theorem stepA_build (t : Tm) (H : Hp) (zs : List AV) (ps : List (Nat × Nat × Od)) : stepA t H (.build zs ps) = ((fillA t zs ps).map fun cs => (.ag cs, H)) := rfl
@[simp] theorem stepA_lit (t : Tm) (H : Hp) (ety : Nat) (esz : Nat) (n : Nat) (zs : List AV) (ps : List (Nat × Nat × Od)) : stepA t H (.lit ety esz n zs ps) = ((fillA t zs ps).map fun cs => (.sl H.length 0 n, H ++ [some ⟨chunk esz n cs, esz, ety, false⟩])) := rfl
@[simp] theorem stepA_ld (t : Tm) (H : Hp) (x : Od) : stepA t H (.ld x) = (match x.ev t with
      | .pt o i f => (H.at o).bind fun ob => (ob.rows[i]?).bind fun r => (r[f]?).map fun v => (v, H)
      | _ => none) := rfl
@[simp] theorem stepA_lda (t : Tm) (H : Hp) (n : Nat) (x : Od) : stepA t H (.lda n x) = (match x.ev t with
      | .pt o i f => (H.at o).bind fun ob => (ob.rows[i]?).bind fun r => if f + n ≤ r.length then some (.ag ((r.drop f).take n), H) else none
      | _ => none) := rfl
@[simp] theorem stepA_st (t : Tm) (H : Hp) (n : Nat) (x : Od) (y : Od) : stepA t H (.st n x y) = (match x.ev t with
      | .pt o i f => (H.at o).bind fun ob => (ob.rows[i]?).bind fun r =>
          if ob.ro = false ∧ (y.ev t).cells.length = n ∧ f + n ≤ r.length ∧ cells1 (y.ev t) = true then some (.un, H.set o (some { ob with rows := ob.rows.set i (putAt r f (y.ev t).cells) })) else none
      | _ => none) := rfl
@[simp] theorem stepA_nck (t : Tm) (H : Hp) (x : Od) : stepA t H (.nck x) = (match x.ev t with
      | .pt o i f => some (.pt o i f, H)
      | .fn f cs => some (.fn f cs, H)
      | _ => none) := rfl
@[simp] theorem stepA_eqb (t : Tm) (H : Hp) (ne : Bool) (x : Od) (y : Od) : stepA t H (.eqb ne x y) = (match x.ev t, y.ev t with
      | .bool p, .bool q => some (.bool ((p == q) != ne), H)
      | _, _ => none) := rfl
@[simp] theorem stepA_eqn (t : Tm) (H : Hp) (k : Nat) (ne : Bool) (x : Od) (y : Od) : stepA t H (.eqn k ne x y) = ((eqnA k (x.ev t) (y.ev t)).map fun r => (.bool (r != ne), H)) := rfl
@[simp] theorem stepA_eqs (t : Tm) (H : Hp) (ne : Bool) (ks : List Nat) (x : Od) (y : Od) : stepA t H (.eqs ne ks x y) = (match x.ev t, y.ev t with
      | .ag p, .ag q => (eqcs ks p q).map fun r => (.bool (r != ne), H)
      | _, _ => none) := rfl
@[simp] theorem stepA_neg (t : Tm) (H : Hp) (x : Od) : stepA t H (.neg x) = (match x.ev t with
      | .int k n => some (.int k (k.wrap (0 - n)), H)
      | _ => none) := rfl
@[simp] theorem stepA_cv (t : Tm) (H : Hp) (k : IntKind) (x : Od) : stepA t H (.cv k x) = (match x.ev t with
      | .int _ n => some (.int k (k.wrap n), H)
      | _ => none) := rfl
@[simp] theorem stepA_mk (t : Tm) (H : Hp) (ety : Nat) (esz : Nat) (bytes : Nat) (zs : List AV) (x : Od) : stepA t H (.mk ety esz bytes zs x) = (match x.ev t with
      | .int .i64 n => if 0 ≤ n ∧ n * bytes ≤ 140737488355328 then some (.sl H.length 0 n.toNat, H ++ [some ⟨List.replicate n.toNat zs, esz, ety, false⟩]) else none
      | _ => none) := rfl
@[simp] theorem stepA_cut (t : Tm) (H : Hp) (esz : Nat) (x : Od) (lo : Option Od) (hi : Option Od) : stepA t H (.cut esz x lo hi) = (match x.ev t with
      | .sl o i n => (H.at o).bind fun ob => if ob.esz = esz then (optI t 0 lo).bind fun l => (optI t n hi).bind fun h =>
          if 0 ≤ l ∧ l ≤ h ∧ h ≤ n then some (.sl o (i + l.toNat) (h.toNat - l.toNat), H) else none else none
      | .nils => (optI t 0 lo).bind fun l => (optI t 0 hi).bind fun h => if l = 0 ∧ h = 0 then some (.nils, H) else none
      | .sz => (optI t 0 lo).bind fun l => (optI t 0 hi).bind fun h => if l = 0 ∧ h = 0 then some (.sz, H) else none
      | _ => none) := rfl
@[simp] theorem stepA_cuts (t : Tm) (H : Hp) (x : Od) (lo : Option Od) (hi : Option Od) : stepA t H (.cuts x lo hi) = (match x.ev t with
      | .str s => (optI t 0 lo).bind fun l => (optI t s.size hi).bind fun h => if 0 ≤ l ∧ l ≤ h ∧ h ≤ s.size then some (.str (s.extract l.toNat h.toNat), H) else none
      | _ => none) := rfl
@[simp] theorem stepA_fd (t : Tm) (H : Hp) (off : Nat) (n : Nat) (x : Od) : stepA t H (.fd off n x) = (match x.ev t with
      | .ag cs => if n = 0 then (cs[off]?).map (·, H) else some (.ag ((cs.drop off).take n), H)
      | _ => none) := rfl
@[simp] theorem stepA_ia (t : Tm) (H : Hp) (esz : Nat) (x : Od) (y : Od) : stepA t H (.ia esz x y) = (match x.ev t, y.ev t with
      | .sl o i n, .int _ j => (H.at o).bind fun ob => if ob.esz = esz ∧ 0 ≤ j ∧ j < n then some (.pt o (i + j.toNat) 0, H) else none
      | _, _ => none) := rfl
@[simp] theorem stepA_mx (t : Tm) (H : Hp) (x : Od) (y : Od) : stepA t H (.mx x y) = (match x.ev t, y.ev t with
      | .int k a, .int _ b => some (.int k (if b > a then b else a), H)
      | _, _ => none) := rfl
@[simp] theorem stepA_mn (t : Tm) (H : Hp) (x : Od) (y : Od) : stepA t H (.mn x y) = (match x.ev t, y.ev t with
      | .int k a, .int _ b => some (.int k (if b < a then b else a), H)
      | _, _ => none) := rfl
@[simp] theorem stepA_app (t : Tm) (H : Hp) (ety : Nat) (esz : Nat) (bytes : Nat) (x : Od) (y : Od) : stepA t H (.app ety esz bytes x y) = (match y.ev t with
      | .nils => match x.ev t with
        | .nils => some (.nils, H)
        | .sz => some (.sz, H)
        | .sl o i n => some (.sl o i n, H)
        | _ => none
      | .sz => match x.ev t with
        | .nils => some (.nils, H)
        | .sz => some (.sz, H)
        | .sl o i n => some (.sl o i n, H)
        | _ => none
      | .sl o2 i2 m => (H.at o2).bind fun ob2 => if ob2.esz = esz ∧ m * bytes ≤ 140737488355328 ∧ i2 + m ≤ ob2.rows.length then match x.ev t with
        | .nils => some (if m = 0 then (.nils, H) else (.sl H.length 0 m, H ++ [some ⟨(ob2.rows.drop i2).take m, esz, ety, false⟩]))
        | .sz => some (if m = 0 then (.sz, H) else (.sl H.length 0 m, H ++ [some ⟨(ob2.rows.drop i2).take m, esz, ety, false⟩]))
        | .sl o 0 n => (H.at o).bind fun ob =>
          if ob.ro = false ∧ ob.esz = esz ∧ ob.ety = ety ∧ (n + m) * bytes ≤ 140737488355328 ∧ n ≤ ob.rows.length then
            some (.sl H.length 0 (n + m), (H.set o none) ++ [some ⟨ob.rows.take n ++ (ob2.rows.drop i2).take m, esz, ety, false⟩]) else none
        | _ => none else none
      | _ => none) := rfl
@[simp] theorem stepA_cvs (t : Tm) (H : Hp) (x : Od) : stepA t H (.cvs x) = (match x.ev t with
      | .sl o i n => (H.at o).bind fun ob => if ob.esz = 1 ∧ i + n ≤ ob.rows.length then (u8s ((ob.rows.drop i).take n)).map fun ns => (.str (strOf ns), H) else none
      | _ => none) := rfl
@[simp] theorem stepC_cvs (t : Tm) (H : Hp) (x : Od) : stepC t H (.cvs x) = ((stepA t H (.cvs x)).isSome = true) := rfl
@[simp] theorem stepV_cvs (t : Tm) (H : Hp) (x : Od) : stepV t H (.cvs x) = oV (stepA t H (.cvs x)) := rfl
@[simp] theorem stepH_cvs (t : Tm) (H : Hp) (x : Od) : stepH t H (.cvs x) = oH (stepA t H (.cvs x)) H := rfl
@[simp] theorem R_cvs (C : CallP) (t : Tm) (H : Hp) (K : Tm → Hp → Prop) (d : Option Nat) (pl : Plan) (x : Od) : RgP C (.st d (.cvs x) none [] pl) t H K = (stepC t H (.cvs x) ∧ RgP C pl (updO t d (stepV t H (.cvs x))) (stepH t H (.cvs x)) K) := RgP_op C t H K rfl d pl
attribute [simp] u8s
attribute [simp] againG_nil againG_cons pend1_n optI intA RgP_g RgP_call W_cond
attribute [simp] Od.ev updO resA rvA rvsA endX AV.plain AV.plains eqcs eqc eqnA fillA putAt chunk oV oH
@[simp] theorem cells_int (k : IntKind) (n : Int) : AV.cells (.int k n) = [.int k n] := rfl
@[simp] theorem cells1_int (k : IntKind) (n : Int) : cells1 (.int k n) = true := rfl
@[simp] theorem one_int (k : IntKind) (n : Int) : one (.int k n) = true := rfl
@[simp] theorem cells_bool (b : Bool) : AV.cells (.bool b) = [.bool b] := rfl
@[simp] theorem cells1_bool (b : Bool) : cells1 (.bool b) = true := rfl
@[simp] theorem one_bool (b : Bool) : one (.bool b) = true := rfl
@[simp] theorem cells_str (s : ByteArray) : AV.cells (.str s) = [.str s] := rfl
@[simp] theorem cells1_str (s : ByteArray) : cells1 (.str s) = true := rfl
@[simp] theorem one_str (s : ByteArray) : one (.str s) = true := rfl
@[simp] theorem cells_nilp : AV.cells (.nilp) = [.nilp] := rfl
@[simp] theorem cells1_nilp : cells1 (.nilp) = true := rfl
@[simp] theorem one_nilp : one (.nilp) = true := rfl
@[simp] theorem cells_nils : AV.cells (.nils) = [.nils] := rfl
@[simp] theorem cells1_nils : cells1 (.nils) = true := rfl
@[simp] theorem one_nils : one (.nils) = true := rfl
@[simp] theorem cells_sz : AV.cells (.sz) = [.sz] := rfl
@[simp] theorem cells1_sz : cells1 (.sz) = true := rfl
@[simp] theorem one_sz : one (.sz) = true := rfl
@[simp] theorem cells_nilf : AV.cells (.nilf) = [.nilf] := rfl
@[simp] theorem cells1_nilf : cells1 (.nilf) = true := rfl
@[simp] theorem one_nilf : one (.nilf) = true := rfl
@[simp] theorem cells_nili : AV.cells (.nili) = [.nili] := rfl
@[simp] theorem cells1_nili : cells1 (.nili) = true := rfl
@[simp] theorem one_nili : one (.nili) = true := rfl
@[simp] theorem cells_un : AV.cells (.un) = [.un] := rfl
@[simp] theorem cells1_un : cells1 (.un) = false := rfl
@[simp] theorem one_un : one (.un) = false := rfl
@[simp] theorem cells_any : AV.cells (.any) = [.any] := rfl
@[simp] theorem cells1_any : cells1 (.any) = false := rfl
@[simp] theorem one_any : one (.any) = false := rfl
@[simp] theorem cells_sl (o i n : Nat) : AV.cells (.sl o i n) = [.sl o i n] := rfl
@[simp] theorem cells1_sl (o i n : Nat) : cells1 (.sl o i n) = true := rfl
@[simp] theorem one_sl (o i n : Nat) : one (.sl o i n) = true := rfl
@[simp] theorem cells_pt (o i f : Nat) : AV.cells (.pt o i f) = [.pt o i f] := rfl
@[simp] theorem cells1_pt (o i f : Nat) : cells1 (.pt o i f) = true := rfl
@[simp] theorem one_pt (o i f : Nat) : one (.pt o i f) = true := rfl
@[simp] theorem cells_tu (vs : List AV) : AV.cells (.tu vs) = [.tu vs] := rfl
@[simp] theorem cells1_tu (vs : List AV) : cells1 (.tu vs) = false := rfl
@[simp] theorem one_tu (vs : List AV) : one (.tu vs) = false := rfl
@[simp] theorem cells_fn (f : Nat) (vs : List AV) : AV.cells (.fn f vs) = [.fn f vs] := rfl
@[simp] theorem cells1_fn (f : Nat) (vs : List AV) : cells1 (.fn f vs) = true := rfl
@[simp] theorem one_fn (f : Nat) (vs : List AV) : one (.fn f vs) = true := rfl
@[simp] theorem cells_er (c : Nat) : AV.cells (.er c) = [.er c] := rfl
@[simp] theorem cells1_er (c : Nat) : cells1 (.er c) = true := rfl
@[simp] theorem one_er (c : Nat) : one (.er c) = true := rfl
@[simp] theorem cells_ag (cs : List AV) : AV.cells (.ag cs) = cs := rfl
@[simp] theorem cells1_ag (cs : List AV) : cells1 (.ag cs) = cs.all one := rfl
@[simp] theorem one_ag (cs : List AV) : one (.ag cs) = false := rfl
@[simp] theorem thenX_n (K : Tm → Hp → Prop) (Q : Ex → Tm → Hp → Prop) (t : Tm) (H : Hp) : thenX K Q .normal t H = K t H := rfl
@[simp] theorem thenX_e (K : Tm → Hp → Prop) (Q : Ex → Tm → Hp → Prop) (id : Nat) (t : Tm) (H : Hp) : thenX K Q (.exit id) t H = Q (.exit id) t H := rfl
@[simp] theorem thenX_r (K : Tm → Hp → Prop) (Q : Ex → Tm → Hp → Prop) (t : Tm) (H : Hp) : thenX K Q .ret t H = Q .ret t H := rfl
@[simp] theorem inB_n (id : Nat) (Q : Ex → Tm → Hp → Prop) (t : Tm) (H : Hp) : inB id Q .normal t H = Q .normal t H := rfl
@[simp] theorem inB_e (id id' : Nat) (Q : Ex → Tm → Hp → Prop) (t : Tm) (H : Hp) : inB id Q (.exit id') t H = if id' = id then Q .normal t H else Q (.exit id') t H := rfl
@[simp] theorem inB_r (id : Nat) (Q : Ex → Tm → Hp → Prop) (t : Tm) (H : Hp) : inB id Q .ret t H = Q .ret t H := rfl
@[simp] theorem upd_app (t : Tm) (d : Nat) (v : AV) (x : Nat) : upd t d v x = if x = d then v else t x := rfl
@[simp] theorem initT_app (args : List AV) (x : Nat) : initT args x = args.getD x .un := rfl
attribute [simp] Hp.at_app_0 Hp.at_app_ge Hp.at_0 Hp.at_s Hp.set_app Hp.set_app_0 HLe.refl HLe.self List.append_assoc List.getD_cons_zero List.getD_cons_succ

section
variable {t : Tm} {H : Hp} {x y z : Od}
@[simp] theorem stepC_ix (t : Tm) (H : Hp) (x y : Od) : stepC t H (.ix x y) = ixC (x.ev t) (y.ev t) := rfl
@[simp] theorem stepV_ix (t : Tm) (H : Hp) (x y : Od) : stepV t H (.ix x y) = ixV (x.ev t) (y.ev t) := rfl
@[simp] theorem stepC_pick (t : Tm) (H : Hp) (x y z : Od) : stepC t H (.pick x y z) = boolC (x.ev t) := rfl
@[simp] theorem stepV_pick (t : Tm) (H : Hp) (x y z : Od) : stepV t H (.pick x y z) = pickV (x.ev t) (y.ev t) (z.ev t) := rfl
@[simp] theorem stepC_lns (t : Tm) (H : Hp) (x : Od) : stepC t H (.lns x) = strC (x.ev t) := rfl
@[simp] theorem stepV_lns (t : Tm) (H : Hp) (x : Od) : stepV t H (.lns x) = lnsV (x.ev t) := rfl
@[simp] theorem stepC_len (t : Tm) (H : Hp) (x : Od) : stepC t H (.len x) = slC (x.ev t) := rfl
@[simp] theorem stepV_len (t : Tm) (H : Hp) (x : Od) : stepV t H (.len x) = lenV (x.ev t) := rfl
@[simp] theorem stepC_not (t : Tm) (H : Hp) (x : Od) : stepC t H (.not x) = boolC (x.ev t) := rfl
@[simp] theorem stepV_not (t : Tm) (H : Hp) (x : Od) : stepV t H (.not x) = notV (x.ev t) := rfl
@[simp] theorem stepC_ext (t : Tm) (H : Hp) (i : Nat) (x : Od) : stepC t H (.ext i x) = extC i (x.ev t) := rfl
@[simp] theorem stepV_ext (t : Tm) (H : Hp) (i : Nat) (x : Od) : stepV t H (.ext i x) = extV i (x.ev t) := rfl
@[simp] theorem stepC_fa (t : Tm) (H : Hp) (n : Nat) (x : Od) : stepC t H (.fa n x) = ptC (x.ev t) := rfl
@[simp] theorem stepV_fa (t : Tm) (H : Hp) (n : Nat) (x : Od) : stepV t H (.fa n x) = faV n (x.ev t) := rfl
end

@[simp] theorem ixC_c (s : ByteArray) (k : IntKind) (j : Int) : ixC (.str s) (.int k j) = (0 ≤ j ∧ j < s.size) := rfl
@[simp] theorem ixV_c (s : ByteArray) (k : IntKind) (j : Int) : ixV (.str s) (.int k j) = .int .u8 (bt s j) := rfl
@[simp] theorem boolC_c (q : Bool) : boolC (.bool q) = True := rfl
@[simp] theorem pickV_c (q : Bool) (a b : AV) : pickV (.bool q) a b = if q = true then a else b := rfl
@[simp] theorem strC_c (s : ByteArray) : strC (.str s) = True := rfl
@[simp] theorem lnsV_c (s : ByteArray) : lnsV (.str s) = .int .i64 s.size := rfl
@[simp] theorem slC_1 (o i n : Nat) : slC (.sl o i n) = True := rfl
@[simp] theorem slC_2 : slC .nils = True := rfl
@[simp] theorem slC_3 : slC .sz = True := rfl
@[simp] theorem lenV_1 (o i n : Nat) : lenV (.sl o i n) = .int .i64 n := rfl
@[simp] theorem lenV_2 : lenV .nils = .int .i64 0 := rfl
@[simp] theorem lenV_3 : lenV .sz = .int .i64 0 := rfl
@[simp] theorem notV_c (q : Bool) : notV (.bool q) = .bool (!q) := rfl
@[simp] theorem extC_c (i : Nat) (vs : List AV) : extC i (.tu vs) = (i < vs.length) := rfl
@[simp] theorem extV_c (i : Nat) (vs : List AV) : extV i (.tu vs) = vs.getD i .un := rfl
@[simp] theorem ptC_c (o i f : Nat) : ptC (.pt o i f) = True := rfl
@[simp] theorem faV_c (n o i f : Nat) : faV n (.pt o i f) = .pt o i (f + n) := rfl
@[simp] theorem binC_iadd (k k' : IntKind) (x y : Int) : binC .add (.int k x) (.int k' y) = (k = k') := by simp [binC]
@[simp] theorem binC_isub (k k' : IntKind) (x y : Int) : binC .sub (.int k x) (.int k' y) = (k = k') := by simp [binC]
@[simp] theorem binC_imul (k k' : IntKind) (x y : Int) : binC .mul (.int k x) (.int k' y) = (k = k') := by simp [binC]
@[simp] theorem binC_ixor (k k' : IntKind) (x y : Int) : binC .xor (.int k x) (.int k' y) = (k = k') := by simp [binC]
@[simp] theorem binC_ieql (k k' : IntKind) (x y : Int) : binC .eql (.int k x) (.int k' y) = (k = k') := by simp [binC]
@[simp] theorem binC_ineq (k k' : IntKind) (x y : Int) : binC .neq (.int k x) (.int k' y) = (k = k') := by simp [binC]
@[simp] theorem binC_ilss (k k' : IntKind) (x y : Int) : binC .lss (.int k x) (.int k' y) = (k = k') := by simp [binC]
@[simp] theorem binC_ileq (k k' : IntKind) (x y : Int) : binC .leq (.int k x) (.int k' y) = (k = k') := by simp [binC]
@[simp] theorem binC_igtr (k k' : IntKind) (x y : Int) : binC .gtr (.int k x) (.int k' y) = (k = k') := by simp [binC]
@[simp] theorem binC_igeq (k k' : IntKind) (x y : Int) : binC .geq (.int k x) (.int k' y) = (k = k') := by simp [binC]
@[simp] theorem binC_iquo (k k' : IntKind) (x y : Int) : binC .quo (.int k x) (.int k' y) = (k = k' ∧ y ≠ 0) := by simp [binC]
@[simp] theorem binC_irem (k k' : IntKind) (x y : Int) : binC .rem (.int k x) (.int k' y) = (k = k' ∧ y ≠ 0) := by simp [binC]
@[simp] theorem binC_seql (x y : ByteArray) : binC .eql (.str x) (.str y) = True := rfl
@[simp] theorem binC_sneq (x y : ByteArray) : binC .neq (.str x) (.str y) = True := rfl
@[simp] theorem binC_slss (x y : ByteArray) : binC .lss (.str x) (.str y) = True := rfl
@[simp] theorem binC_sleq (x y : ByteArray) : binC .leq (.str x) (.str y) = True := rfl
@[simp] theorem binC_sgtr (x y : ByteArray) : binC .gtr (.str x) (.str y) = True := rfl
@[simp] theorem binC_sgeq (x y : ByteArray) : binC .geq (.str x) (.str y) = True := rfl
@[simp] theorem binC_sadd (x y : ByteArray) : binC .add (.str x) (.str y) = (x.size + y.size ≤ 9223372036854775807) := rfl
@[simp] theorem binV_iadd (k k' : IntKind) (x y : Int) : binV .add (.int k x) (.int k' y) = .int k (k.wrap (x + y)) := rfl
@[simp] theorem binV_isub (k k' : IntKind) (x y : Int) : binV .sub (.int k x) (.int k' y) = .int k (k.wrap (x - y)) := rfl
@[simp] theorem binV_imul (k k' : IntKind) (x y : Int) : binV .mul (.int k x) (.int k' y) = .int k (k.wrap (x * y)) := rfl
@[simp] theorem binV_iquo (k k' : IntKind) (x y : Int) : binV .quo (.int k x) (.int k' y) = .int k (k.wrap (x.tdiv y)) := rfl
@[simp] theorem binV_irem (k k' : IntKind) (x y : Int) : binV .rem (.int k x) (.int k' y) = .int k (x.tmod y) := rfl
@[simp] theorem binV_ixor (k k' : IntKind) (x y : Int) : binV .xor (.int k x) (.int k' y) = .int k (k.wrap ((BitVec.ofInt k.bits x ^^^ BitVec.ofInt k.bits y).toNat)) := rfl
@[simp] theorem binV_ieql (k k' : IntKind) (x y : Int) : binV .eql (.int k x) (.int k' y) = .bool (decide (x = y)) := rfl
@[simp] theorem binV_ineq (k k' : IntKind) (x y : Int) : binV .neq (.int k x) (.int k' y) = .bool (!decide (x = y)) := rfl
@[simp] theorem binV_ilss (k k' : IntKind) (x y : Int) : binV .lss (.int k x) (.int k' y) = .bool (decide (x < y)) := rfl
@[simp] theorem binV_ileq (k k' : IntKind) (x y : Int) : binV .leq (.int k x) (.int k' y) = .bool (decide (x ≤ y)) := rfl
@[simp] theorem binV_igtr (k k' : IntKind) (x y : Int) : binV .gtr (.int k x) (.int k' y) = .bool (decide (y < x)) := rfl
@[simp] theorem binV_igeq (k k' : IntKind) (x y : Int) : binV .geq (.int k x) (.int k' y) = .bool (decide (y ≤ x)) := rfl
@[simp] theorem binV_sadd (x y : ByteArray) : binV .add (.str x) (.str y) = .str (x ++ y) := rfl
@[simp] theorem binV_seql (x y : ByteArray) : binV .eql (.str x) (.str y) = .bool (decide (x = y)) := rfl
@[simp] theorem binV_sneq (x y : ByteArray) : binV .neq (.str x) (.str y) = .bool (!decide (x = y)) := rfl
@[simp] theorem binV_slss (x y : ByteArray) : binV .lss (.str x) (.str y) = .bool (sless x y) := rfl
@[simp] theorem binV_sleq (x y : ByteArray) : binV .leq (.str x) (.str y) = .bool (!sless y x) := congrArg AV.bool (sless_le x y)
@[simp] theorem binV_sgtr (x y : ByteArray) : binV .gtr (.str x) (.str y) = .bool (sless y x) := congrArg AV.bool (sless_gt x y)
@[simp] theorem binV_sgeq (x y : ByteArray) : binV .geq (.str x) (.str y) = .bool (!sless x y) := rfl

@[simp] theorem stepC_ia (t : Tm) (H : Hp) (n : Nat) (x y : Od) : stepC t H (.ia n x y) = iaC H n (x.ev t) (y.ev t) := rfl
@[simp] theorem stepV_ia (t : Tm) (H : Hp) (n : Nat) (x y : Od) : stepV t H (.ia n x y) = iaV (x.ev t) (y.ev t) := rfl
@[simp] theorem stepH_ia (t : Tm) (H : Hp) (n : Nat) (x y : Od) : stepH t H (.ia n x y) = H := rfl
@[simp] theorem iaC_c (H : Hp) (esz o i n : Nat) (k : IntKind) (j : Int) : iaC H esz (.sl o i n) (.int k j) = ((∃ ob, H.at o = some ob ∧ ob.esz = esz) ∧ 0 ≤ j ∧ j < n) := rfl
@[simp] theorem iaV_c (o i n : Nat) (k : IntKind) (j : Int) : iaV (.sl o i n) (.int k j) = .pt o (i + j.toNat) 0 := rfl
@[simp] theorem stepC_cuts (t : Tm) (H : Hp) (x : Od) (l h : Option Od) : stepC t H (.cuts x l h) = cutsC (fun d => optI t d l) (fun d => optI t d h) (x.ev t) := rfl
@[simp] theorem stepV_cuts (t : Tm) (H : Hp) (x : Od) (l h : Option Od) : stepV t H (.cuts x l h) = cutsV (fun d => optI t d l) (fun d => optI t d h) (x.ev t) := rfl
@[simp] theorem stepH_cuts (t : Tm) (H : Hp) (x : Od) (l h : Option Od) : stepH t H (.cuts x l h) = H := rfl
@[simp] theorem cutsC_c (d e : Int → Option Int) (s : ByteArray) : cutsC d e (.str s) = ∃ l h, d 0 = some l ∧ e s.size = some h ∧ 0 ≤ l ∧ l ≤ h ∧ h ≤ s.size := rfl
@[simp] theorem cutsV_c (d e : Int → Option Int) (s : ByteArray) : cutsV d e (.str s) = .str (s.extract ((d 0).getD 0).toNat ((e s.size).getD 0).toNat) := rfl

/-- Where a guard is not known: both. -/
theorem g_split {q : Bool} {g : Nat} {b : Bool} {C : CallP} {d : Option Nat} {op : AOp} {p : Plan} {t : Tm} {H : Hp} {K : Tm → Hp → Prop}
    (h1 : q = true → gG (.bool true) g b C d op p (upd t g (.bool true)) H K) (h2 : q = false → gG (.bool false) g b C d op p (upd t g (.bool false)) H K) (ht : t g = .bool q) : gG (.bool q) g b C d op p t H K := by
  have e : upd t g (.bool q) = t := by
    funext x
    simp only [upd]
    split
    · rename_i e
      rw [e, ht]
    · rfl
  cases q
  · have := h2 rfl
    rwa [e] at this
  · have := h1 rfl
    rwa [e] at this
theorem c_split {q : Bool} {C : CallP} {a b : CC} {Q : Ex → Tm → Hp → Prop} {t : Tm} {H : Hp} (h1 : q = true → W C a Q t H) (h2 : q = false → W C b Q t H) : cG (.bool q) C a b Q t H := ⟨h1, h2⟩

theorem wrap64 {n : Int} (h1 : -9223372036854775808 ≤ n) (h2 : n < 9223372036854775808) : IntKind.i64.wrap n = n := by rw [IntKind.wrap_i64]; omega

end Go.Proofs.YtiecldkihdebiaaDoor.B

namespace Go.Proofs.YtiecldkihdebiaaDoor.B
open Go.RowKit
set_option linter.unusedVariables false
set_option linter.unusedSimpArgs false

/-- A slice holds these rows. -/
def Rows (esz : Nat) (H : Hp) (v : AV) (rows : List (List AV)) : Prop :=
  (v = .nils ∧ rows = []) ∨ (v = .sz ∧ rows = []) ∨
    ∃ o i ob, v = .sl o i rows.length ∧ H.at o = some ob ∧ ob.esz = esz ∧ i + rows.length ≤ ob.rows.length ∧ (ob.rows.drop i).take rows.length = rows

theorem Rows.le {esz : Nat} {H H' : Hp} {v : AV} {rows : List (List AV)} (h : Rows esz H v rows) (hle : HLe H H') : Rows esz H' v rows := by
  rcases h with h | h | ⟨o, i, ob, h1, h2, h3⟩
  · exact .inl h
  · exact .inr (.inl h)
  · exact .inr (.inr ⟨o, i, ob, h1, hle.2 _ _ h2, h3⟩)

theorem Rows.len {esz : Nat} {H : Hp} {v : AV} {rows : List (List AV)} (h : Rows esz H v rows) : lenV v = .int .i64 rows.length := by
  rcases h with ⟨rfl, rfl⟩ | ⟨rfl, rfl⟩ | ⟨o, i, ob, rfl, _⟩ <;> rfl
theorem Rows.slc {esz : Nat} {H : Hp} {v : AV} {rows : List (List AV)} (h : Rows esz H v rows) : slC v := by
  rcases h with ⟨rfl, rfl⟩ | ⟨rfl, rfl⟩ | ⟨o, i, ob, rfl, _⟩ <;> trivial

theorem Rows.cells {esz : Nat} {H : Hp} {v : AV} {rows : List (List AV)} (h : Rows esz H v rows) : v.cells = [v] := by
  rcases h with ⟨rfl, rfl⟩ | ⟨rfl, rfl⟩ | ⟨o, i, ob, rfl, _⟩ <;> rfl
theorem Rows.cells1 {esz : Nat} {H : Hp} {v : AV} {rows : List (List AV)} (h : Rows esz H v rows) : cells1 v = true := by
  rcases h with ⟨rfl, rfl⟩ | ⟨rfl, rfl⟩ | ⟨o, i, ob, rfl, _⟩ <;> rfl
theorem Rows.one {esz : Nat} {H : Hp} {v : AV} {rows : List (List AV)} (h : Rows esz H v rows) : one v = true := by
  rcases h with ⟨rfl, rfl⟩ | ⟨rfl, rfl⟩ | ⟨o, i, ob, rfl, _⟩ <;> rfl

theorem Rows.get {esz : Nat} {H : Hp} {v : AV} {rows : List (List AV)} (h : Rows esz H v rows) {j : Nat} (hj : j < rows.length) :
    ∃ o i ob, v = .sl o i rows.length ∧ H.at o = some ob ∧ ob.esz = esz ∧ ob.rows[i + j]? = some rows[j] := by
  rcases h with ⟨rfl, rfl⟩ | ⟨rfl, rfl⟩ | ⟨o, i, ob, rfl, h2, h3, h4, h5⟩
  · simp at hj
  · simp at hj
  · refine ⟨o, i, ob, rfl, h2, h3, ?_⟩
    have : ((ob.rows.drop i).take rows.length)[j]? = rows[j]? := by rw [h5]
    rw [List.getElem?_take, if_pos hj, List.getElem?_drop, List.getElem?_eq_getElem hj] at this
    exact this

/-- An object of rows, whole. -/
theorem Rows.whole {H : Hp} {o : Nat} {ob : Ob} (h : H.at o = some ob) : Rows ob.esz H (.sl o 0 ob.rows.length) ob.rows :=
  .inr (.inr ⟨o, 0, ob, rfl, h, rfl, by omega, by simp⟩)

/-- Strings. -/
def Strs (H : Hp) (v : AV) (xs : List ByteArray) : Prop := Rows 1 H v (xs.map fun s => [.str s])
theorem Strs.le {H H' : Hp} {v : AV} {xs : List ByteArray} (h : Strs H v xs) (hle : HLe H H') : Strs H' v xs := Rows.le h hle
theorem Strs.len {H : Hp} {v : AV} {xs : List ByteArray} (h : Strs H v xs) : lenV v = .int .i64 xs.length := by simpa using Rows.len h
theorem Strs.slc {H : Hp} {v : AV} {xs : List ByteArray} (h : Strs H v xs) : slC v := Rows.slc h
theorem Strs.get {H : Hp} {v : AV} {xs : List ByteArray} (h : Strs H v xs) {j : Nat} (hj : j < xs.length) :
    ∃ o i ob, v = .sl o i xs.length ∧ H.at o = some ob ∧ ob.esz = 1 ∧ ob.rows[i + j]? = some [.str xs[j]] := by
  obtain ⟨o, i, ob, h1, h2, h3, h4⟩ := Rows.get h (j := j) (by simpa using hj)
  exact ⟨o, i, ob, by simpa using h1, h2, h3, by simpa using h4⟩

def strRow (s : ByteArray) : List AV := [.str s]

/-- A row of rows that is filled from its head on. -/
def fillR {α : Type} (f : α → List AV) (z : List AV) (xs : List α) (i : Nat) : List (List AV) := (xs.take i).map f ++ List.replicate (xs.length - i) z
theorem fillR_0 {α : Type} (f : α → List AV) (z : List AV) (xs : List α) : fillR f z xs 0 = List.replicate xs.length z := by simp [fillR]
theorem fillR_n {α : Type} (f : α → List AV) (z : List AV) (xs : List α) : fillR f z xs xs.length = xs.map f := by simp [fillR]
theorem fillR_get {α : Type} {f : α → List AV} {z : List AV} {xs : List α} {i : Nat} (h : i < xs.length) : (fillR f z xs i)[i]? = some z := by
  unfold fillR
  have hl : ((xs.take i).map f).length = i := by rw [List.length_map, List.length_take]; omega
  rw [List.getElem?_append_right (by omega), hl, Nat.sub_self, List.getElem?_replicate, if_pos (by omega)]
theorem fillR_set {α : Type} {f : α → List AV} {z : List AV} {xs : List α} {i : Nat} (h : i < xs.length) : (fillR f z xs i).set i (f xs[i]) = fillR f z xs (i + 1) := by
  unfold fillR
  have hl : ((xs.take i).map f).length = i := by rw [List.length_map, List.length_take]; omega
  rw [List.set_append_right _ _ (by omega), hl, Nat.sub_self, show xs.length - i = (xs.length - (i + 1)) + 1 by omega, List.replicate_succ, List.set_cons_zero, List.take_succ_eq_append_getElem h]
  simp only [List.map_append, List.map_cons, List.map_nil, List.append_assoc, List.singleton_append]

/-- A row of rows that is written over from its head on. -/
def overR (f : Nat → List AV) (R : List (List AV)) (i : Nat) : List (List AV) := (List.range i).map f ++ R.drop i
theorem overR_0 (f : Nat → List AV) (R : List (List AV)) : overR f R 0 = R := by simp [overR]
theorem overR_n (f : Nat → List AV) (R : List (List AV)) : overR f R R.length = (List.range R.length).map f := by simp [overR]
theorem overR_get {f : Nat → List AV} {R : List (List AV)} {i : Nat} (h : i < R.length) : (overR f R i)[i]? = some R[i] := by
  unfold overR
  have hl : ((List.range i).map f).length = i := by simp
  rw [List.getElem?_append_right (by omega), hl, Nat.sub_self, List.getElem?_drop, Nat.add_zero, List.getElem?_eq_getElem h]
theorem overR_set {f : Nat → List AV} {R : List (List AV)} {i : Nat} (h : i < R.length) : (overR f R i).set i (f i) = overR f R (i + 1) := by
  unfold overR
  have hl : ((List.range i).map f).length = i := by simp
  rw [List.set_append_right _ _ (by omega), hl, Nat.sub_self, List.drop_eq_getElem_cons h, List.set_cons_zero, List.range_succ, List.map_append]
  simp only [List.map_cons, List.map_nil, List.append_assoc, List.singleton_append]
theorem Hp.at_set {H : Hp} {o : Nat} (x : Option Ob) (h : o < H.length) : Hp.at (List.set H o x) o = x := by simp [Hp.at, h]
theorem Hp.set_self {H : Hp} {o : Nat} {ob : Ob} (h : H.at o = some ob) : List.set H o (some ob) = H := by
  apply List.ext_getElem?
  intro j
  rw [List.getElem?_set]
  split
  · rename_i e
    subst e
    rw [if_pos (Hp.at_lt h), Hp.at_some h]
  · rfl

/-- What a slice holds stays where another object is written. -/
theorem Rows.set_ne {esz : Nat} {H : Hp} {o i n : Nat} {rows : List (List AV)} (h : Rows esz H (.sl o i n) rows) {o' : Nat} (x : Option Ob) (hne : o' ≠ o) : Rows esz (List.set H o' x) (.sl o i n) rows := by
  rcases h with ⟨h, _⟩ | ⟨h, _⟩ | ⟨o1, i1, ob, h1, h2, h3⟩
  · cases h
  · cases h
  · cases h1
    exact .inr (.inr ⟨o, i, ob, rfl, by rw [Hp.at_set_ne hne]; exact h2, h3⟩)
theorem Rows.nil {esz : Nat} {H : Hp} : Rows esz H .nils [] := .inl ⟨rfl, rfl⟩

/-- A slice of one's own: nothing, or all of an object. -/
def OwnR (esz e : Nat) (H : Hp) (v : AV) (R : List (List AV)) : Prop := (v = .nils ∧ R = []) ∨ ∃ o, v = .sl o 0 R.length ∧ H.at o = some ⟨R, esz, e, false⟩
/-- Is it of this object. -/
def AV.of : AV → Nat → Prop
  | .sl o _ _, o' => o = o'
  | _, _ => False
/-- Memory is as it was but for what a slice holds. -/
def But (v : AV) (H H' : Hp) : Prop := H'.length = H.length ∧ ∀ o, ¬ v.of o → H'.at o = H.at o
theorem But.refl (v : AV) (H : Hp) : But v H H := ⟨rfl, fun _ _ => rfl⟩
theorem But.le {v : AV} {H0 H H' : Hp} (h : But v H H') (hle : HLe H0 H) (hv : ∀ o, v.of o → H0.length ≤ o) : HLe H0 H' := ⟨by rw [h.1]; exact hle.1, fun o ob ho => by
  rw [h.2 o (fun hh => by have := hv o hh; have := Hp.at_lt ho; omega)]
  exact hle.2 o ob ho⟩
theorem But.set (o i n : Nat) (H : Hp) (x : Option Ob) : But (.sl o i n) H (List.set H o x) := ⟨by simp, fun o' h => Hp.at_set_ne (fun e => h e)⟩
theorem OwnR.rows {esz e : Nat} {H : Hp} {v : AV} {R : List (List AV)} (h : OwnR esz e H v R) : Rows esz H v R := by
  rcases h with ⟨rfl, rfl⟩ | ⟨o, rfl, h⟩
  · exact Rows.nil
  · exact Rows.whole h
theorem OwnR.but {esz e : Nat} {H H' : Hp} {u v : AV} {R : List (List AV)} (h : OwnR esz e H v R) (hb : But u H H') (hn : ∀ o, u.of o → ¬ v.of o) : OwnR esz e H' v R := by
  rcases h with ⟨rfl, rfl⟩ | ⟨o, rfl, h⟩
  · exact .inl ⟨rfl, rfl⟩
  · exact .inr ⟨o, rfl, by rw [hb.2 o (fun hh => hn o hh rfl)]; exact h⟩
theorem OwnR.le {esz e : Nat} {H H' : Hp} {v : AV} {R : List (List AV)} (h : OwnR esz e H v R) (hle : HLe H H') : OwnR esz e H' v R := by
  rcases h with ⟨rfl, rfl⟩ | ⟨o, rfl, h⟩
  · exact .inl ⟨rfl, rfl⟩
  · exact .inr ⟨o, rfl, hle.2 _ _ h⟩
theorem Rows.but {esz : Nat} {H H' : Hp} {u v : AV} {R : List (List AV)} (h : Rows esz H v R) (hb : But u H H') (hn : ∀ o, u.of o → ¬ v.of o) : Rows esz H' v R := by
  rcases h with h | h | ⟨o, i, ob, rfl, h2, h3⟩
  · exact .inl h
  · exact .inr (.inl h)
  · exact .inr (.inr ⟨o, i, ob, rfl, by rw [hb.2 o (fun hh => hn o hh rfl)]; exact h2, h3⟩)

/-- What a call has made. -/
def Fresh (H : Hp) (ob : Ob) (v : AV) (H' : Hp) : Prop := HLe H H' ∧ ∃ o, v = .sl o 0 ob.rows.length ∧ H.length ≤ o ∧ H'.at o = some ob

end Go.Proofs.YtiecldkihdebiaaDoor.B

namespace Go.Proofs.YtiecldkihdebiaaDoor.B
open Go.RowKit
set_option linter.unusedVariables false
set_option linter.unusedSimpArgs false

/-- The shape of a cell. -/
inductive Sh where
  | ki (k : IntKind)
  | kb
  | ks
  | kl (e : List Sh)

mutual
def Ty (H : Hp) : Sh → AV → Prop
  | .ki k, v => ∃ n, v = .int k n ∧ (Lit.int k n).wf = true
  | .kb, v => ∃ q, v = .bool q
  | .ks, v => ∃ s, v = .str s ∧ s.size ≤ reachBytes
  | .kl e, v => ∃ rows, Rows e.length H v rows ∧ rows.length ≤ reachBytes ∧ ∀ r ∈ rows, Tys H e r
def Tys (H : Hp) : List Sh → List AV → Prop
  | [], vs => vs = []
  | s :: ss, vs => ∃ v us, vs = v :: us ∧ Ty H s v ∧ Tys H ss us
end

mutual
theorem Ty.le {H H' : Hp} (hle : HLe H H') : ∀ (s : Sh) (v : AV), Ty H s v → Ty H' s v
  | .ki k, v, h => h
  | .kb, v, h => h
  | .ks, v, h => h
  | .kl e, v, h => by
    obtain ⟨rows, h1, h2, h3⟩ := h
    exact ⟨rows, h1.le hle, h2, fun r hr => Tys.le hle e r (h3 r hr)⟩
theorem Tys.le {H H' : Hp} (hle : HLe H H') : ∀ (s : List Sh) (v : List AV), Tys H s v → Tys H' s v
  | [], v, h => h
  | s :: ss, v, h => by
    obtain ⟨v, us, h1, h2, h3⟩ := h
    exact ⟨v, us, h1, Ty.le hle s v h2, Tys.le hle ss us h3⟩
end
theorem Tys.length {H : Hp} : ∀ {s : List Sh} {v : List AV}, Tys H s v → v.length = s.length
  | [], _, h => by rw [show _ = _ from h]; rfl
  | _ :: _, _, ⟨_, _, h1, _, h3⟩ => by rw [h1, List.length_cons, Tys.length h3, List.length_cons]
theorem Tys.append {H : Hp} : ∀ {s s2 : List Sh} {v v2 : List AV}, Tys H s v → Tys H s2 v2 → Tys H (s ++ s2) (v ++ v2)
  | [], _, _, _, h, k => by rw [show _ = ([] : List AV) from h]; exact k
  | _ :: _, _, _, _, ⟨v, vs, h1, h2, h3⟩, k => by
    subst h1
    exact ⟨v, vs ++ _, rfl, h2, Tys.append h3 k⟩
theorem Ty.one {H : Hp} : ∀ {s : Sh} {v : AV}, Ty H s v → one v = true
  | .ki _, _, ⟨_, h, _⟩ => by rw [h]; rfl
  | .kb, _, ⟨_, h⟩ => by rw [h]; rfl
  | .ks, _, ⟨_, h, _⟩ => by rw [h]; rfl
  | .kl _, _, ⟨_, h, _⟩ => by rcases h with ⟨h, _⟩ | ⟨h, _⟩ | ⟨_, _, _, h, _⟩ <;> rw [h] <;> rfl
theorem Tys.ones {H : Hp} : ∀ {s : List Sh} {v : List AV}, Tys H s v → ∀ a ∈ v, B.one a = true
  | [], _, h, a, ha => by rw [show _ = _ from h] at ha; simp at ha
  | _ :: _, _, ⟨v, us, h1, h2, h3⟩, a, ha => by
    subst h1
    rcases List.mem_cons.1 ha with rfl | ha
    · exact Ty.one h2
    · exact Tys.ones h3 a ha

def shF (P : Program) (g : TypeId → Option (List Sh)) : List Field → Nat → Option (List Sh)
  | [], _ => some []
  | f :: fs, off => if f.offset = off then (g f.type).bind fun l => if P.cellsOf f.type = l.length then (shF P g fs (off + l.length)).map (l ++ ·) else none else none
/-- The shapes of a type's cells. -/
def shT (P : Program) : Nat → TypeId → Option (List Sh)
  | 0, _ => none
  | n + 1, t => match P.underlying t with
    | some .bool => some [.kb]
    | some (.int k) => some [.ki k]
    | some .string => some [.ks]
    | some (.slice e) => (shT P n e).bind fun l => if P.cellsOf e = l.length ∧ 0 < l.length ∧ 0 < P.bytesOf e then some [.kl l] else none
    | some (.struct fs) => (shF P (shT P n) fs.toList 0).bind fun l => if P.cellsOf t = l.length then some l else none
    | _ => none

section
variable {HH : Type} {enc : TypeId × Value → HH} {P : Program} {w : World} {E : Env}

def AllRo (H : Hp) : Prop := ∀ (o : Nat) (ob : Ob), H[o]? = some (some ob) → ob.ro = true
theorem AllRo.app {H : Hp} (h : AllRo H) {ob : Ob} (hr : ob.ro = true) : AllRo (H ++ [some ob]) := by
  intro o ob' ho
  rcases Nat.lt_or_ge o H.length with hl | hl
  · rw [List.getElem?_append_left hl] at ho
    exact h o ob' ho
  · rw [List.getElem?_append_right hl] at ho
    cases hk : o - H.length with
    | zero =>
      rw [hk] at ho
      have : ob = ob' := by simpa using ho
      rw [← this]
      exact hr
    | succ k => rw [hk] at ho; simp at ho

/-- What is read is in memory, abstractly. -/
def Got (P : Program) (E : Env) (w : World) (φ : Phi) (H : Hp) (sh : List Sh) (cs : List Value) : Prop :=
  ∃ φ' K avs, PLe φ φ' ∧ HR E φ' (H ++ K) w ∧ AllRo (H ++ K) ∧ VRs φ' avs cs ∧ Tys (H ++ K) sh avs

theorem mapM_get {α β : Type} {f : α → Option β} : ∀ {l : List α} {r : List β}, l.mapM f = some r → r.length = l.length ∧ ∀ (i : Nat) (a : α), l[i]? = some a → f a = r[i]?
  | [], r, h => by
    simp at h
    subst h
    simp
  | a :: l, r, h => by
    simp only [List.mapM_cons, Option.bind_eq_bind, Option.pure_def, Option.bind_eq_some_iff, Option.some.injEq] at h
    obtain ⟨b, hb, rs, hrs, rfl⟩ := h
    obtain ⟨h1, h2⟩ := mapM_get hrs
    refine ⟨by simp [h1], fun i x hx => ?_⟩
    cases i with
    | zero =>
      have : a = x := by simpa using hx
      subst this
      simpa using hb
    | succ i => simpa using h2 i x (by simpa using hx)

theorem cells_get {a : Addr} {n : Nat} {cs : List Value} {base : Nat} (h : w.cells? base a n = some cs) : cs.length = n ∧ ∀ i, i < n → w.cell? (a.add i) = cs[i]? := by
  unfold World.cells? at h
  split at h
  · obtain ⟨h1, h2⟩ := mapM_get h
    exact ⟨by simpa using h1, fun i hi => h2 i i (by simp [hi])⟩
  · cases h

/-- Rows one behind the other. -/
theorem got_rows {c : Nat} {sh : List Sh} {cs : Nat → List Value} {m : Nat} (each : ∀ i, i < m → ∀ φ H, HR E φ H w → AllRo H → Got P E w φ H sh (cs i)) :
    ∀ φ H, HR E φ H w → AllRo H → ∃ φ' K, ∃ rows : List (List AV), PLe φ φ' ∧ HR E φ' (H ++ K) w ∧ AllRo (H ++ K) ∧ rows.length = m ∧ ∀ (i : Nat) (r : List AV), rows[i]? = some r → VRs φ' r (cs i) ∧ Tys (H ++ K) sh r := by
  induction m with
  | zero =>
    intro φ H hH hro
    exact ⟨φ, [], [], PLe.refl _, by simpa using hH, by simpa using hro, rfl, by simp⟩
  | succ m ih =>
    intro φ H hH hro
    obtain ⟨φ1, K1, rows, p1, h1, r1, l1, g1⟩ := ih (fun i hi => each i (by omega)) φ H hH hro
    obtain ⟨φ2, K2, avs, p2, h2, r2, v2, t2⟩ := each m (by omega) φ1 (H ++ K1) h1 r1
    refine ⟨φ2, K1 ++ K2, rows ++ [avs], p1.trans p2, by rw [← List.append_assoc]; exact h2, by rw [← List.append_assoc]; exact r2, by simp [l1], fun i r hr => ?_⟩
    rw [← List.append_assoc]
    rcases Nat.lt_or_ge i rows.length with hl | hl
    · rw [List.getElem?_append_left hl] at hr
      obtain ⟨a1, a2⟩ := g1 i r hr
      exact ⟨VRs.mono p2 _ _ a1, Tys.le (HLe.self _ _) _ _ a2⟩
    · rw [List.getElem?_append_right hl] at hr
      cases hk : i - rows.length with
      | zero =>
        rw [hk] at hr
        have : avs = r := by simpa using hr
        subst this
        have : i = m := by omega
        subst this
        exact ⟨v2, t2⟩
      | succ k => rw [hk] at hr; simp at hr

theorem add_spot {a : Addr} {k : Nat} {v : Value} (h : w.cell? (a.add k) = some v) (h0 : k = 0 → True) : ∃ cells e fr, w.heap[a.block]? = some (.cells cells e fr) ∧ cells[a.off + k]? = some v ∧ (k = 0 → a.spot = none) := by
  unfold World.cell? at h
  have hb : (a.add k).block = a.block := by unfold Addr.add; split <;> rfl
  have ho : (a.add k).off = a.off + k := by unfold Addr.add; split <;> simp_all
  rw [hb] at h
  split at h
  · rename_i c e fr hc
    split at h
    · cases h
    · rename_i hs
      rw [ho] at h
      refine ⟨c, e, fr, hc, h, fun hk => ?_⟩
      subst hk
      simpa [Addr.add] using hs
  · cases h

theorem got_fields {n : Nat} {g : TypeId → Option (List Sh)} {W : TypeId → DataW HH → Prop} {cs : List Value}
    (each : ∀ t sh, g t = some sh → ∀ cs x, DataW.trod enc P w 0 (fun _ => true) true n t cs = some x → W t x.1 → ∀ φ H, HR E φ H w → AllRo H → Got P E w φ H sh cs) :
    ∀ (fs : List Field) (off : Nat) (sh : List Sh) (xs : List (DataW HH × List MemPlace)), shF P g fs off = some sh → xs.length = fs.length → cs.length = off + sh.length →
      (∀ (i : Nat) (f : Field), fs[i]? = some f → DataW.trod enc P w 0 (fun _ => true) true n f.type ((cs.drop f.offset).take (P.cellsOf f.type)) = xs[i]?) →
      (∀ (i : Nat) (f : Field) x, fs[i]? = some f → xs[i]? = some x → W f.type x.1) → ∀ φ H, HR E φ H w → AllRo H → Got P E w φ H sh (cs.drop off)
  | [], off, sh, xs, hs, hl, hc, hx, hw, φ, H, hH, hro => by
    simp only [shF, Option.some.injEq] at hs
    subst hs
    simp at hc
    refine ⟨φ, [], [], PLe.refl _, by simpa using hH, by simpa using hro, ?_, rfl⟩
    rw [List.drop_of_length_le (by omega)]
    rfl
  | f :: fs, off, sh, xs, hs, hl, hc, hx, hw, φ, H, hH, hro => by
    simp only [shF] at hs
    split at hs
    · rename_i ho
      simp only [Option.bind_eq_some_iff] at hs
      obtain ⟨l, hl1, hs⟩ := hs
      split at hs
      · rename_i hcl
        simp only [Option.map_eq_some_iff] at hs
        obtain ⟨l2, hl2, rfl⟩ := hs
        cases xs with
        | nil => simp at hl
        | cons x xs =>
          have h0 := hx 0 f rfl
          simp only [List.getElem?_cons_zero] at h0
          rw [ho, hcl] at h0
          obtain ⟨φ1, K1, avs, p1, h1, r1, v1, t1⟩ := each f.type l hl1 _ _ h0 (hw 0 f x rfl rfl) φ H hH hro
          simp only [List.length_append] at hc
          obtain ⟨φ2, K2, bs, p2, h2, r2, v2, t2⟩ := got_fields each fs (off + l.length) l2 xs hl2 (by simpa using hl) (by rw [hc, Nat.add_assoc]) (fun i f' hf => by simpa using hx (i + 1) f' (by simpa using hf)) (fun i f' x' hf hx' => hw (i + 1) f' x' (by simpa using hf) (by simpa using hx')) φ1 (H ++ K1) h1 r1
          refine ⟨φ2, K1 ++ K2, avs ++ bs, p1.trans p2, by rw [← List.append_assoc]; exact h2, by rw [← List.append_assoc]; exact r2, ?_, ?_⟩
          · have e : cs.drop off = (cs.drop off).take l.length ++ cs.drop (off + l.length) := by
              rw [← List.drop_drop, List.take_append_drop]
            rw [e]
            exact (VRs.mono p2 _ _ v1).append v2
          · rw [← List.append_assoc]
            exact (Tys.le (HLe.self _ _) _ _ t1).append t2
      · cases hs
    · cases hs

theorem weights_all_mem {e : TypeId} : ∀ {ds : List (DataW HH)} {d : DataW HH}, d ∈ ds → ∀ n ∈ d.weights P e, n ∈ DataW.weightsAll P e ds
  | d0 :: ds, d, hd, n, hn => by
    simp only [DataW.weightsAll, List.mem_append]
    rcases List.mem_cons.1 hd with rfl | hd
    · exact .inl hn
    · exact .inr (weights_all_mem hd n hn)
  | [], _, hd, _, _ => by simp at hd

theorem got : ∀ (k : Nat) (t : TypeId) (sh : List Sh), shT P k t = some sh → ∀ (n : Nat) (cs : List Value) (x : DataW HH × List MemPlace), DataW.trod enc P w 0 (fun _ => true) true n t cs = some x →
    (∀ m ∈ x.1.weights P t, m ≤ reachBytes) → ∀ φ H, HR E φ H w → AllRo H → Got P E w φ H sh cs
  | 0, t, sh, hs, n, cs, x, hx, hw, φ, H, hH, hro => by cases hs
  | k + 1, t, sh, hs, n, cs, x, hx, hw, φ, H, hH, hro => by
    simp only [shT] at hs
    split at hs
    · rename_i hu
      cases hs
      obtain ⟨b, rfl, _⟩ := DataW.trod_bool hu hx
      exact ⟨φ, [], [.bool b], PLe.refl _, by simpa using hH, by simpa using hro, ⟨_, _, rfl, rfl, rfl⟩, ⟨_, _, rfl, ⟨b, rfl⟩, rfl⟩⟩
    · rename_i q hu
      cases hs
      obtain ⟨m, rfl, _, hwf⟩ := DataW.trod_int hu hx
      exact ⟨φ, [], [.int q m], PLe.refl _, by simpa using hH, by simpa using hro, ⟨_, _, rfl, rfl, rfl⟩, ⟨_, _, rfl, ⟨m, rfl, hwf⟩, rfl⟩⟩
    · rename_i hu
      cases hs
      obtain ⟨s, rfl, rfl, hsz⟩ := DataW.trod_string hu hx
      have : s.size ≤ reachBytes := hw s.size (by simp [DataW.weights])
      exact ⟨φ, [], [.str s], PLe.refl _, by simpa using hH, by simpa using hro, ⟨_, _, rfl, rfl, rfl⟩, ⟨_, _, rfl, ⟨s, rfl, this⟩, rfl⟩⟩
    · rename_i e hu
      simp only [Option.bind_eq_some_iff] at hs
      obtain ⟨l, hl, hs⟩ := hs
      split at hs
      · rename_i hc
        obtain ⟨hc1, hc2, hc3⟩ := hc
        cases hs
        rcases DataW.trod_slice hu hx with ⟨rfl, rfl⟩ | ⟨a, len, cap, elems, rest, n', rfl, rfl, rfl, hb, hlc, hm, hlen, hel, hsp, _⟩
        · exact ⟨φ, [], [.nils], PLe.refl _, by simpa using hH, by simpa using hro, ⟨_, _, rfl, rfl, rfl⟩, ⟨_, _, rfl, ⟨[], Rows.nil, by simp, by simp⟩, rfl⟩⟩
        · obtain ⟨hrl, hre⟩ := hsp rfl
          have hwt : (elems.length + rest.length) * P.bytesOf e ≤ reachBytes := hw _ (by simp [DataW.weights, hu])
          have hlenr : len ≤ reachBytes := by
            have : elems.length + rest.length ≤ (elems.length + rest.length) * P.bytesOf e := Nat.le_mul_of_pos_right _ hc3
            omega
          have all : ∀ i, i < cap → ∃ cs' y, w.cells? 0 (a.add (i * P.cellsOf e)) (P.cellsOf e) = some cs' ∧ DataW.trod enc P w 0 (fun _ => true) true n' e cs' = some y ∧ (∀ m ∈ y.1.weights P e, m ≤ reachBytes) := by
            intro i hi
            have key : ∀ y, y ∈ elems ∨ y ∈ rest → ∀ m ∈ y.1.weights P e, m ≤ reachBytes := by
              intro y hy m hm
              refine hw m ?_
              simp only [DataW.weights, hu, List.mem_cons, List.mem_append]
              rcases hy with hy | hy
              · exact .inr (.inl (weights_all_mem (List.mem_map_of_mem hy) m hm))
              · exact .inr (.inr (weights_all_mem (List.mem_map_of_mem hy) m hm))
            rcases Nat.lt_or_ge i len with hil | hil
            · have h1 := hel i hil
              rw [List.getElem?_eq_getElem (by omega)] at h1
              simp only [Option.bind_eq_some_iff] at h1
              obtain ⟨cs', h1, h2⟩ := h1
              exact ⟨cs', _, h1, h2, key _ (.inl (List.getElem_mem _))⟩
            · have h1 := hre (i - len) (by omega)
              rw [List.getElem?_eq_getElem (by omega), show len + (i - len) = i by omega] at h1
              simp only [Option.bind_eq_some_iff] at h1
              obtain ⟨cs', h1, h2⟩ := h1
              exact ⟨cs', _, h1, h2, key _ (.inr (List.getElem_mem _))⟩
          rcases Nat.eq_zero_or_pos cap with hc0 | hcp
          · subst hc0
            obtain rfl : len = 0 := by omega
            exact ⟨φ, [], [.sz], PLe.refl _, by simpa using hH, by simpa using hro, ⟨_, _, rfl, ⟨a, rfl⟩, rfl⟩, ⟨_, _, rfl, ⟨[], .inr (.inl ⟨rfl, rfl⟩), by simp, by simp⟩, rfl⟩⟩
          · have hch : ∃ cs' : Nat → List Value, ∀ i, i < cap → ∃ y, w.cells? 0 (a.add (i * P.cellsOf e)) (P.cellsOf e) = some (cs' i) ∧ DataW.trod enc P w 0 (fun _ => true) true n' e (cs' i) = some y ∧ (∀ m ∈ y.1.weights P e, m ≤ reachBytes) := by
              classical
              refine ⟨fun i => if h : i < cap then (all i h).choose else [], fun i hi => ?_⟩
              simp only [dif_pos hi]
              exact (all i hi).choose_spec
            obtain ⟨cs', hcs⟩ := hch
            obtain ⟨φ1, K, rows, p1, h1, r1, l1, g1⟩ := got_rows (c := l.length) (sh := l) (cs := cs') (m := cap) (fun i hi φ H hH hro => by
              obtain ⟨y, _, h2, h3⟩ := hcs i hi
              exact got k e l hl n' (cs' i) y h2 h3 φ H hH hro) φ H hH hro
            have hcell : ∀ i f, i < cap → f < l.length → ∃ cells ee fr, w.heap[a.block]? = some (.cells cells ee fr) ∧ cells[a.off + i * l.length + f]? = (cs' i)[f]? := by
              intro i f hi hf
              obtain ⟨y, h2, _, _⟩ := hcs i hi
              obtain ⟨e1, e2⟩ := cells_get h2
              have h3 := e2 f (by omega)
              rw [List.getElem?_eq_getElem (by omega)] at h3
              have hadd : ((a.add (i * P.cellsOf e)).add f) = (a.add (i * P.cellsOf e)).add f := rfl
              obtain ⟨cells, ee, fr, b1, b2, _⟩ := add_spot h3 (fun _ => trivial)
              have hb' : (a.add (i * P.cellsOf e)).block = a.block := by unfold Addr.add; split <;> rfl
              have ho' : (a.add (i * P.cellsOf e)).off = a.off + i * P.cellsOf e := by unfold Addr.add; split <;> simp_all
              rw [hb'] at b1
              rw [ho', hc1] at b2
              exact ⟨cells, ee, fr, b1, by rw [b2, List.getElem?_eq_getElem (by omega)]⟩
            obtain ⟨c0, e0, fr0, hblk, _⟩ := hcell 0 0 hcp hc2
            have hspot : a.spot = none := by
              obtain ⟨y, h2, _, _⟩ := hcs 0 hcp
              obtain ⟨e1, e2⟩ := cells_get h2
              have h3 := e2 0 (by omega)
              rw [List.getElem?_eq_getElem (by omega)] at h3
              obtain ⟨_, _, _, _, _, b3⟩ := add_spot h3 (fun _ => trivial)
              have := b3 rfl
              simpa [Addr.add] using this
            have hcell2 : ∀ i f, i < cap → f < l.length → c0[a.off + i * l.length + f]? = (cs' i)[f]? := by
              intro i f hi hf
              obtain ⟨c1, e1, fr1, hb1, hc⟩ := hcell i f hi hf
              rw [hblk] at hb1
              cases hb1
              exact hc
            have hlt : a.block < w.heap.size := (Array.getElem?_eq_some_iff.1 hblk).1
            let p : Pl := ⟨a.block, a.off, l.length, 0, true⟩
            let ob : Ob := ⟨rows, l.length, 0, true⟩
            have hlen2 : rows.length = cap := l1
            have hnone : φ1 (H ++ K).length = none := h1.none_at
            have hadd := HR.add h1 ob p rfl (fun h => by cases h) (fun o' ob' p' ho' _ hro' => by
                have := r1 o' ob' ho'
                rw [hro'] at this
                cases this) ⟨rfl, rfl, c0, e0, fr0, hblk, (fun h => by cases h), fun i row hr => by
                  obtain ⟨g2, g3⟩ := g1 i row hr
                  have hi : i < cap := by
                    have h9 : i < rows.length := (List.getElem?_eq_some_iff.1 hr).1
                    omega
                  refine ⟨g3.length, fun f v hv => ⟨Tys.ones g3 v (List.mem_of_getElem? hv), ?_⟩⟩
                  have hf : f < l.length := by have := (List.getElem?_eq_some_iff.1 hv).1; rw [g3.length] at this; exact this
                  obtain ⟨u, hu1, hu2⟩ := g2.get f v hv
                  exact ⟨u, by show c0[a.off + i * l.length + f]? = _; rw [hcell2 i f hi hf]; exact hu1, VR.mono (Phi.put_le hnone) _ _ hu2⟩⟩ hlt
            refine ⟨φ1.put (H ++ K).length p, K ++ [some ob], [.sl (H ++ K).length 0 len], p1.trans (Phi.put_le hnone), by rw [← List.append_assoc]; exact hadd, by rw [← List.append_assoc]; exact r1.app rfl, ⟨_, _, rfl, ?_, rfl⟩, ⟨_, _, rfl, ⟨rows.take len, .inr (.inr ⟨(H ++ K).length, 0, ob, ?_, ?_, rfl, ?_, ?_⟩), ?_, ?_⟩, rfl⟩⟩
            · refine ⟨p, a, cap, by simp [Phi.put], rfl, hlc, .inr ⟨?_, .inl rfl⟩⟩
              obtain ⟨b, o, sp⟩ := a
              simp only at hspot
              subst hspot
              simp [p]
            · simp [hlen2, Nat.min_eq_left hlc]
            · rw [← List.append_assoc, Hp.at_app_0]
              rfl
            · simp [ob, hlen2, Nat.min_eq_left hlc]
              omega
            · simp [ob, hlen2, Nat.min_eq_left hlc]
            · simp [hlen2, Nat.min_eq_left hlc]
              omega
            · intro r hr
              obtain ⟨i, hi⟩ := List.getElem?_of_mem (List.mem_of_mem_take hr)
              rw [← List.append_assoc]
              exact Tys.le (HLe.self _ _) _ _ (g1 i r hi).2
      · cases hs
    · rename_i fs hu
      simp only [Option.bind_eq_some_iff] at hs
      obtain ⟨l, hl, hs⟩ := hs
      split at hs
      · rename_i hc
        cases hs
        obtain ⟨xs, n', rfl, rfl, hcl, hxl, hxs⟩ := DataW.trod_struct hu hx
        have := got_fields (enc := enc) (P := P) (w := w) (E := E) (n := n') (g := shT P k) (W := fun t d => ∀ m ∈ d.weights P t, m ≤ reachBytes) (cs := cs)
          (fun t sh hs cs x hx hw φ H hH hro => got k t sh hs n' cs x hx hw φ H hH hro) fs.toList 0 sh xs hl (by simpa using hxl) (by rw [hcl, hc, Nat.zero_add]) (fun i f hf => hxs i f (by simpa using hf))
          (fun i f x hf hx m hm => hw m (by
            simp only [DataW.weights, hu]
            exact DataW.weights_mem_each (j := i) (by simp [hf]) (by simp [hx]) m hm)) φ H hH hro
        simpa using this
      · cases hs
    · cases hs

/-! ### The arguments -/

/-- An argument: its abstract value. -/
def ArgOf (H : Hp) (sh : List Sh) (agg : Bool) (v : AV) : Prop :=
  match agg with
  | true => ∃ avs, v = .ag avs ∧ Tys H sh avs
  | false => ∃ s, sh = [s] ∧ Ty H s v
def isAgg (P : Program) (t : TypeId) : Bool := match P.underlying t with | some (.struct _) => true | _ => false
def ArgsOf (P : Program) (H : Hp) : List TypeId → List AV → Prop
  | [], vs => vs = []
  | t :: ts, vs => ∃ v us sh, vs = v :: us ∧ shT P 6 t = some sh ∧ ArgOf H sh (isAgg P t) v ∧ ArgsOf P H ts us
theorem ArgsOf.le {H H' : Hp} (hle : HLe H H') : ∀ (ts : List TypeId) (vs : List AV), ArgsOf P H ts vs → ArgsOf P H' ts vs
  | [], _, h => h
  | t :: ts, _, ⟨v, us, sh, h1, h2, h3, h4⟩ => ⟨v, us, sh, h1, h2, by
      unfold ArgOf at h3 ⊢
      split at h3
      · obtain ⟨avs, a1, a2⟩ := h3
        exact ⟨avs, a1, a2.le hle⟩
      · obtain ⟨s, a1, a2⟩ := h3
        exact ⟨s, a1, a2.le hle⟩, ArgsOf.le hle ts us h4⟩

theorem got_args {base : Nat} : ∀ (ts : List TypeId) (vs : List Value) (ds : List (DataW HH)) (ps : List MemPlace), (ts.all fun t => (shT P 6 t).isSome) = true →
    DataW.TrodAll enc P w 0 (fun _ => true) true ts vs ds ps → (∀ (j : Nat) t v, ts[j]? = some t → vs[j]? = some v → Value.okWide P w .any base t v) →
    (DataW.weightsEach P ts ds).all (· ≤ reachBytes) = true → ∀ φ H, HR E φ H w → AllRo H →
    ∃ φ' K avs, PLe φ φ' ∧ HR E φ' (H ++ K) w ∧ AllRo (H ++ K) ∧ VRs φ' avs vs ∧ ArgsOf P (H ++ K) ts avs ∧ ds.length = ts.length
  | [], [], [], ps, _, _, _, _, φ, H, hH, hro => ⟨φ, [], [], PLe.refl _, by simpa using hH, by simpa using hro, rfl, rfl, rfl⟩
  | t :: ts, v :: vs, d :: ds, ps, hts, ⟨p, q, h0, hr, _⟩, hok, hw, φ, H, hH, hro => by
    simp only [List.all_cons, Bool.and_eq_true] at hts
    obtain ⟨hs, hts⟩ := hts
    obtain ⟨sh, hs⟩ := Option.isSome_iff_exists.1 hs
    obtain ⟨n, h0⟩ := h0
    simp only [DataW.weightsEach, List.all_append, Bool.and_eq_true] at hw
    obtain ⟨φ1, K1, avs, p1, h1, r1, v1, t1⟩ := got 6 t sh hs n _ _ h0 (fun m hm => by simpa using List.all_eq_true.1 hw.1 m hm) φ H hH hro
    obtain ⟨φ2, K2, bs, p2, h2, r2, v2, t2, l2⟩ := got_args ts vs ds q hts hr (fun j t v ht hv => hok (j + 1) t v (by simpa using ht) (by simpa using hv)) hw.2 φ1 (H ++ K1) h1 r1
    have hv := hok 0 t v rfl rfl
    have arg : ∃ a, ArgOf (H ++ K1) sh (isAgg P t) a ∧ VR φ1 a v := by
      have hs' := hs
      simp only [shT] at hs'
      have sing : ∀ s, sh = [s] → v.cells.toList = [v] → isAgg P t = false → ∃ a, ArgOf (H ++ K1) sh (isAgg P t) a ∧ VR φ1 a v := by
        intro s hsh hvc hag
        rw [hag]
        subst hsh
        obtain ⟨a, us, rfl, ta, tu⟩ := t1
        rw [hvc] at v1
        obtain ⟨v', vs', hvv, hR, _⟩ := v1
        cases hvv
        exact ⟨a, ⟨s, rfl, ta⟩, hR⟩
      split at hs'
      · rename_i hu
        cases hs'
        obtain ⟨b, rfl⟩ := Go.WideShapes.okWide_bool hu hv
        exact sing .kb rfl rfl (by simp [isAgg, hu])
      · rename_i k hu
        cases hs'
        obtain ⟨b, rfl⟩ := Go.WideShapes.okWide_int hu hv
        exact sing (.ki k) rfl rfl (by simp [isAgg, hu])
      · rename_i hu
        cases hs'
        obtain ⟨b, rfl⟩ := Go.WideShapes.okWide_string hu hv
        exact sing .ks rfl rfl (by simp [isAgg, hu])
      · rename_i e hu
        simp only [Option.bind_eq_some_iff] at hs'
        obtain ⟨l, hl, hs'⟩ := hs'
        split at hs'
        · cases hs'
          obtain ⟨a, b, c, rfl⟩ := Go.WideShapes.okWide_slice hu hv
          exact sing (.kl l) rfl rfl (by simp [isAgg, hu])
        · cases hs'
      · rename_i fs hu
        obtain ⟨cs, rfl, _⟩ := Go.WideShapes.okWide_struct hu hv
        refine ⟨.ag avs, ?_, cs.toList, by simp, v1⟩
        have : isAgg P t = true := by simp [isAgg, hu]
        rw [this]
        exact ⟨avs, rfl, t1⟩
      · cases hs'
    obtain ⟨a, ha, hR⟩ := arg
    refine ⟨φ2, K1 ++ K2, a :: bs, p1.trans p2, by rw [← List.append_assoc]; exact h2, by rw [← List.append_assoc]; exact r2, ⟨v, vs, rfl, VR.mono p2 _ _ hR, v2⟩, ?_, by simp [l2]⟩
    rw [← List.append_assoc]
    have ha' : ArgOf (H ++ K1 ++ K2) sh (isAgg P t) a := by
      unfold ArgOf at ha ⊢
      split at ha
      · obtain ⟨avs, a1, a2⟩ := ha
        exact ⟨avs, a1, a2.le (HLe.self _ _)⟩
      · obtain ⟨s, a1, a2⟩ := ha
        exact ⟨s, a1, a2.le (HLe.self _ _)⟩
    exact ⟨a, bs, sh, rfl, hs, ha', t2⟩
end

end Go.Proofs.YtiecldkihdebiaaDoor.B

namespace Go.Proofs.YtiecldkihdebiaaDoor.B
open Go.RowKit Go.ChangeShapes
set_option linter.unusedVariables false
set_option linter.unusedSimpArgs false

section
variable {HH : Type} {enc : TypeId × Value → HH} {P : Program}

/-- Nothing is known of the world but where it begins. -/
def topE (W : World) : Env := ⟨W.heap.size, fun _ => True, fun _ _ _ _ => trivial⟩

theorem args_again (hl : laidOutB P = true) {W W' : World} (hb : Below W.heap.size W W') : ∀ (ts : List TypeId) (vs : List Value) (ds : List (DataW HH)) (ps : List MemPlace),
    (ts.all fun t => P.readableRec t && decide (t < P.types.size)) = true → DataW.TrodAll enc P W 0 (fun _ => true) true ts vs ds ps → (∀ x ∈ ps, x.block < W.heap.size) →
    DataW.TrodAll enc P W' 0 (fun b => decide (b < W.heap.size)) true ts vs ds ps
  | [], [], [], _, _, h, _ => h
  | t :: ts, v :: vs, d :: ds, ps, hr, ⟨p, q, h0, h1, e⟩, hlt => by
    simp only [List.all_cons, Bool.and_eq_true] at hr
    obtain ⟨⟨r1, r2⟩, hr⟩ := hr
    subst e
    exact ⟨p, q, Below.trod hl r1 (of_decide_eq_true r2) h0 hb (fun x hx => hlt x (List.mem_append_left _ hx)), args_again hl hb ts vs ds q hr h1 (fun x hx => hlt x (List.mem_append_right _ hx)), rfl⟩

/-- A law that returns true and leaves its arguments avs they were. -/
theorem row_of_AC (hl : laidOutB P = true) {f : Nat} {fn : Func} {s : ChangeSpec} {W : World} {base : Nat} {args : Array Value} {ds gs : List (DataW HH)} {before : List MemPlace} {tb : TypeId}
    (hts : (fn.params.toList.all fun t => (shT P 6 t).isSome && (P.readableRec t && decide (t < P.types.size))) = true) (hres : fn.resultTypes = #[tb]) (htb : P.underlying tb = some .bool)
    (hval : ∀ (j : Nat) t v, fn.params[j]? = some t → args[j]? = some v → Value.okWide P W .any base t v) (hv : s.vars = [])
    (hW : DataW.Whole enc P fn.params.toList s.vars false W args.toList ds gs before)
    (hsz : (DataW.weightsEach P (fn.params.toList ++ s.plain.varTypes P) (ds ++ gs)).all (· ≤ reachBytes) = true)
    (hspec : ds.length = fn.params.size → s.fn HH (ds ++ []) = { results := [.lit (.bool true)], args := ds })
    (hac : ∀ avs H, ArgsOf P H fn.params.toList avs → AC P (topE W) f avs H (fun v _ => v = .bool true)) :
    Calls P f args W fun e W' => ∃ v, e = .returned v ∧ s.post enc P fn false true false false W args v W' := by
  have hlt := hW.lt
  have hW0 := hW
  obtain ⟨p, q, hA, hV, rfl, hfz, hnd⟩ := hW
  rw [hv] at hV
  cases gs with
  | cons g gs => exact hV.elim
  | nil =>
    have hq : q = [] := hV
    have hts1 : (fn.params.toList.all fun t => (shT P 6 t).isSome) = true := by
      rw [List.all_eq_true] at hts ⊢
      intro t ht
      have := hts t ht
      simp only [Bool.and_eq_true] at this
      exact this.1
    have hts2 : (fn.params.toList.all fun t => P.readableRec t && decide (t < P.types.size)) = true := by
      rw [List.all_eq_true] at hts ⊢
      intro t ht
      have := hts t ht
      simp only [Bool.and_eq_true] at this ⊢
      exact this.2
    have hvt : s.plain.varTypes P = [] := by simp [hv, ChangeSpec.plain, DataSpec.varTypes]
    rw [hvt] at hsz
    simp only [List.append_nil] at hsz
    have hE : HR (topE W) (fun _ => none) [] W := ⟨by simp, by simp, by simp, by simp, Nat.le_refl _, trivial⟩
    obtain ⟨φ, K, avs, p1, h1, r1, v1, t1, l1⟩ := got_args (enc := enc) (P := P) (w := W) (E := topE W) (base := base) fn.params.toList args.toList ds p hts1 hA (fun j t v ht hv => hval j t v (by simpa using ht) (by simpa using hv)) hsz _ _ hE (by intro o ob ho; simp at ho)
    have hsp := hspec (by simpa using l1)
    have hcall := (hac avs ([] ++ K) t1).2 φ W args.toList v1 h1
    rw [Array.toArray_toList] at hcall
    refine hcall.mono (fun e W' he => ?_)
    cases e with
    | panicked c => exact he.elim
    | outgrown => exact he.elim
    | returned u =>
      obtain ⟨φ', H', v, _, _, bel, hvu, hvv⟩ := he
      have hu : u = .bool true := by
        rw [hvv] at hvu
        exact hvu
      subst hu
      have bel' : Below W.heap.size W W' := bel
      refine ⟨_, rfl, ds, [], _, [], p, [], hW0, ?_, ?_, ?_, bel'.frame _, fun h => by cases h⟩
      · rw [hsp, hres]
        exact trodAll_mk1 (shut_bool htb true)
      · rw [hsp]
        exact args_again hl bel' _ _ _ _ hts2 hA (fun x hx => hlt x (List.mem_append_left _ hx))
      · rw [hsp, hv]
        rfl
end

/-! ### The arguments, kind by kind -/

theorem ArgsOf.cons {P : Program} {H : Hp} {t : TypeId} {ts : List TypeId} {vs : List AV} (h : ArgsOf P H (t :: ts) vs) {sh : List Sh} {b : Bool} (hs : shT P 6 t = some sh) (hb : isAgg P t = b) :
    ∃ v us, vs = v :: us ∧ ArgOf H sh b v ∧ ArgsOf P H ts us := by
  obtain ⟨v, us, sh', h1, h2, h3, h4⟩ := h
  rw [hs] at h2
  cases h2
  rw [hb] at h3
  exact ⟨v, us, h1, h3, h4⟩

theorem rows_map {α : Type} {f : α → List AV} {Q : α → Prop} : ∀ {rows : List (List AV)}, (∀ r ∈ rows, ∃ x, r = f x ∧ Q x) → ∃ xs : List α, rows = xs.map f ∧ ∀ x ∈ xs, Q x
  | [], _ => ⟨[], rfl, by simp⟩
  | r :: rows, h => by
    obtain ⟨x, hx, hq⟩ := h r (by simp)
    obtain ⟨xs, h1, h2⟩ := rows_map (fun r hr => h r (List.mem_cons_of_mem _ hr))
    refine ⟨x :: xs, by rw [h1, hx]; rfl, fun y hy => ?_⟩
    rcases List.mem_cons.1 hy with rfl | hy
    · exact hq
    · exact h2 y hy

theorem reach_eq : reachBytes = 140737488351232 := rfl
theorem Ty.str {H : Hp} {v : AV} (h : Ty H .ks v) : ∃ s, v = .str s ∧ s.size ≤ 140737488351232 := h
theorem Ty.int {H : Hp} {v : AV} (h : Ty H (.ki .i64) v) : ∃ n, v = .int .i64 n ∧ -9223372036854775808 ≤ n ∧ n < 9223372036854775808 := by
  obtain ⟨n, h1, h2⟩ := h
  refine ⟨n, h1, ?_⟩
  have h3 : IntKind.i64.min ≤ n ∧ n ≤ IntKind.i64.max := by simpa [Lit.wf] using h2
  have e1 : IntKind.i64.min = -9223372036854775808 := rfl
  have e2 : IntKind.i64.max = 9223372036854775807 := rfl
  omega
theorem Ty.bool {H : Hp} {v : AV} (h : Ty H .kb v) : ∃ q, v = .bool q := h
theorem Ty.u8 {H : Hp} {v : AV} (h : Ty H (.ki .u8) v) : ∃ n : Int, v = .int .u8 n ∧ 0 ≤ n ∧ n < 256 := by
  obtain ⟨n, h1, h2⟩ := h
  refine ⟨n, h1, ?_⟩
  have h3 : IntKind.u8.min ≤ n ∧ n ≤ IntKind.u8.max := by simpa [Lit.wf] using h2
  have e1 : IntKind.u8.min = 0 := rfl
  have e2 : IntKind.u8.max = 255 := rfl
  omega
theorem Tys.cons {H : Hp} {s : Sh} {ss : List Sh} {vs : List AV} (h : Tys H (s :: ss) vs) : ∃ v us, vs = v :: us ∧ Ty H s v ∧ Tys H ss us := h
theorem Tys.nil {H : Hp} {vs : List AV} (h : Tys H [] vs) : vs = [] := h
theorem Ty.sl {H : Hp} {e : List Sh} {v : AV} (h : Ty H (.kl e) v) : ∃ rows, Rows e.length H v rows ∧ rows.length ≤ 140737488351232 ∧ ∀ r ∈ rows, Tys H e r := h
theorem ArgOf.one {H : Hp} {s : Sh} {v : AV} (h : ArgOf H [s] false v) : Ty H s v := by
  obtain ⟨s', h1, h2⟩ := h
  cases h1
  exact h2
theorem ArgOf.ag {H : Hp} {sh : List Sh} {v : AV} (h : ArgOf H sh true v) : ∃ avs, v = .ag avs ∧ Tys H sh avs := h
theorem ArgsOf.nil {P : Program} {H : Hp} {vs : List AV} (h : ArgsOf P H [] vs) : vs = [] := h

theorem Ty.strs {H : Hp} {v : AV} (h : Ty H (.kl [.ks]) v) : ∃ xs : List ByteArray, Strs H v xs ∧ xs.length ≤ 140737488351232 ∧ ∀ s ∈ xs, s.size ≤ 140737488351232 := by
  obtain ⟨rows, h1, h2, h3⟩ := h.sl
  obtain ⟨xs, rfl, hq⟩ := rows_map (f := fun s => [AV.str s]) (Q := fun s => s.size ≤ 140737488351232) (fun r hr => by
    obtain ⟨v, us, rfl, a1, a2⟩ := (h3 r hr).cons
    obtain ⟨s, rfl, hs⟩ := a1.str
    rw [a2.nil]
    exact ⟨s, rfl, hs⟩)
  exact ⟨xs, h1, by simpa using h2, hq⟩

end Go.Proofs.YtiecldkihdebiaaDoor.B

namespace Go.Proofs.YtiecldkihdebiaaDoor.B
open Go.RowKit
set_option linter.unusedVariables false
set_option linter.unusedSimpArgs false

/-- Memory has grown, and is as it was but for some objects. -/
def Fr (S : Nat → Prop) (H H' : Hp) : Prop := H.length ≤ H'.length ∧ ∀ o ob, ¬ S o → H.at o = some ob → H'.at o = some ob
theorem Fr.refl (S : Nat → Prop) (H : Hp) : Fr S H H := ⟨Nat.le_refl _, fun _ _ _ h => h⟩
theorem Fr.len {S : Nat → Prop} {H H' : Hp} (h : Fr S H H') : H.length ≤ H'.length := h.1
theorem Fr.trans {S S' : Nat → Prop} {a b c : Hp} (h : Fr S a b) (k : Fr S' b c) (hs : ∀ o, S' o → S o ∨ a.length ≤ o) : Fr S a c :=
  ⟨Nat.le_trans h.1 k.1, fun o ob hn ho => k.2 o ob (fun hk => (hs o hk).elim hn (fun hl => by have := Hp.at_lt ho; omega)) (h.2 o ob hn ho)⟩
theorem Fr.same {S : Nat → Prop} {a b c : Hp} (h : Fr S a b) (k : Fr S b c) : Fr S a c := h.trans k (fun o h => .inl h)
theorem Fr.mono {S S' : Nat → Prop} {a b : Hp} (h : Fr S a b) (hs : ∀ o, S o → S' o ∨ a.length ≤ o) : Fr S' a b :=
  ⟨h.1, fun o ob hn ho => h.2 o ob (fun hk => (hs o hk).elim hn (fun hl => by have := Hp.at_lt ho; omega)) ho⟩
theorem HLe.fr {S : Nat → Prop} {a b : Hp} (h : HLe a b) : Fr S a b := ⟨h.1, fun o ob _ ho => h.2 o ob ho⟩
theorem Fr.le {S : Nat → Prop} {a b : Hp} (h : Fr S a b) (hs : ∀ o, S o → a.length ≤ o) : HLe a b :=
  ⟨h.1, fun o ob ho => h.2 o ob (fun hk => by have := Hp.at_lt ho; have := hs o hk; omega) ho⟩
theorem HLe.fr_le {S : Nat → Prop} {a b c : Hp} (h : HLe a b) (k : Fr S b c) (hs : ∀ o, S o → a.length ≤ o) : HLe a c :=
  ⟨Nat.le_trans h.1 k.1, fun o ob ho => k.2 o ob (fun hk => by have := Hp.at_lt ho; have := hs o hk; omega) (h.2 o ob ho)⟩
theorem Fr.le_fr {S : Nat → Prop} {a b c : Hp} (h : Fr S a b) (k : HLe b c) : Fr S a c := ⟨Nat.le_trans h.1 k.1, fun o ob hn ho => k.2 o ob (h.2 o ob hn ho)⟩
theorem Fr.set {S : Nat → Prop} {a b : Hp} (h : Fr S a b) {o : Nat} (ho : S o ∨ a.length ≤ o) (x : Option Ob) : Fr S a (List.set b o x) :=
  ⟨by rw [List.length_set]; exact h.1, fun o' ob hn h' => by
    rw [Hp.at_set_ne (fun e => by subst e; exact ho.elim hn (fun hl => by have := Hp.at_lt h'; omega))]
    exact h.2 o' ob hn h'⟩
theorem Fr.app {S : Nat → Prop} {a b : Hp} (h : Fr S a b) (l : Hp) : Fr S a (b ++ l) := h.le_fr (HLe.self _ _)

theorem Rows.fr {S : Nat → Prop} {esz : Nat} {H H' : Hp} {v : AV} {rows : List (List AV)} (h : Rows esz H v rows) (hf : Fr S H H') (hs : ∀ o, v.of o → ¬ S o) : Rows esz H' v rows := by
  rcases h with h | h | ⟨o, i, ob, h1, h2, h3⟩
  · exact .inl h
  · exact .inr (.inl h)
  · subst h1
    exact .inr (.inr ⟨o, i, ob, rfl, hf.2 o ob (hs o rfl) h2, h3⟩)

/-- A slice of one's own, its content: it may be appended to. -/
def Own (esz ety : Nat) (H : Hp) (v : AV) (R : List (List AV)) : Prop :=
  (v = .nils ∧ R = []) ∨ (v = .sz ∧ R = []) ∨ ∃ o ob, v = .sl o 0 R.length ∧ H.at o = some ob ∧ ob.ro = false ∧ ob.esz = esz ∧ ob.ety = ety ∧ R.length ≤ ob.rows.length ∧ ob.rows.take R.length = R
theorem Own.rows {esz ety : Nat} {H : Hp} {v : AV} {R : List (List AV)} (h : Own esz ety H v R) : Rows esz H v R := by
  rcases h with h | h | ⟨o, ob, rfl, h2, h3, h4, h5, h6, h7⟩
  · exact .inl h
  · exact .inr (.inl h)
  · exact .inr (.inr ⟨o, 0, ob, rfl, h2, h4, by omega, by simpa using h7⟩)
theorem Own.fr {S : Nat → Prop} {esz ety : Nat} {H H' : Hp} {v : AV} {R : List (List AV)} (h : Own esz ety H v R) (hf : Fr S H H') (hs : ∀ o, v.of o → ¬ S o) : Own esz ety H' v R := by
  rcases h with h | h | ⟨o, ob, h1, h2, h3⟩
  · exact .inl h
  · exact .inr (.inl h)
  · subst h1
    exact .inr (.inr ⟨o, ob, rfl, hf.2 o ob (hs o rfl) h2, h3⟩)
theorem Own.le {esz ety : Nat} {H H' : Hp} {v : AV} {R : List (List AV)} (h : Own esz ety H v R) (hf : HLe H H') : Own esz ety H' v R := h.fr (hf.fr (S := fun _ => False)) (fun _ _ h => h)
theorem Own.nils {esz ety : Nat} {H : Hp} : Own esz ety H .nils [] := .inl ⟨rfl, rfl⟩
theorem Own.obj {esz ety : Nat} {H : Hp} {o n : Nat} {R : List (List AV)} (h : H.at o = some ⟨R, esz, ety, false⟩) (hn : n = R.length) : Own esz ety H (.sl o 0 n) R :=
  .inr (.inr ⟨o, _, by rw [hn], h, rfl, rfl, rfl, Nat.le_refl _, by simp⟩)
theorem Own.lt {esz ety : Nat} {H : Hp} {v : AV} {R : List (List AV)} (h : Own esz ety H v R) {o : Nat} (ho : v.of o) : o < H.length := by
  rcases h with ⟨rfl, _⟩ | ⟨rfl, _⟩ | ⟨o', ob, rfl, h2, _⟩
  · exact ho.elim
  · exact ho.elim
  · have : o' = o := ho
    subst this
    exact Hp.at_lt h2
theorem Rows.lt {esz : Nat} {H : Hp} {v : AV} {R : List (List AV)} (h : Rows esz H v R) {o : Nat} (ho : v.of o) : o < H.length := by
  rcases h with ⟨rfl, _⟩ | ⟨rfl, _⟩ | ⟨o', i, ob, rfl, h2, _⟩
  · exact ho.elim
  · exact ho.elim
  · have : o' = o := ho
    subst this
    exact Hp.at_lt h2
@[simp] theorem AV.of_sl (o i n o' : Nat) : AV.of (.sl o i n) o' = (o = o') := rfl
@[simp] theorem AV.of_nils (o' : Nat) : AV.of .nils o' = False := rfl
@[simp] theorem AV.of_sz (o' : Nat) : AV.of .sz o' = False := rfl

/-- What append does. -/
def appA (ety esz bytes : Nat) (x y : AV) (H : Hp) : Option (AV × Hp) := stepA (fun _ => .un) H (.app ety esz bytes (.c x) (.c y))

theorem appA_own {ety esz bytes : Nat} {x y : AV} {H : Hp} {R R2 : List (List AV)} (hx : Own esz ety H x R) (hy : Rows esz H y R2) (hb : (R.length + R2.length) * bytes ≤ 140737488355328) :
    ∃ v H', appA ety esz bytes x y H = some (v, H') ∧ Own esz ety H' v (R ++ R2) ∧ Fr x.of H H' ∧ (∀ o, v.of o → x.of o ∨ H.length ≤ o) := by
  have hb2 : R2.length * bytes ≤ 140737488355328 := Nat.le_trans (Nat.mul_le_mul_right _ (by omega)) hb
  rcases hy with ⟨rfl, rfl⟩ | ⟨rfl, rfl⟩ | ⟨o2, i2, ob2, rfl, h2, h3, h4, h5⟩
  · refine ⟨x, H, ?_, by simpa using hx, Fr.refl _ _, fun o h => .inl h⟩
    rcases hx with ⟨rfl, rfl⟩ | ⟨rfl, rfl⟩ | ⟨o, ob, rfl, _⟩ <;> simp [appA]
  · refine ⟨x, H, ?_, by simpa using hx, Fr.refl _ _, fun o h => .inl h⟩
    rcases hx with ⟨rfl, rfl⟩ | ⟨rfl, rfl⟩ | ⟨o, ob, rfl, _⟩ <;> simp [appA]
  · rcases hx with ⟨rfl, rfl⟩ | ⟨rfl, rfl⟩ | ⟨o, ob, rfl, k1, k2, k3, k4, k5, k6⟩
    · by_cases hz : R2.length = 0
      · obtain rfl := List.length_eq_zero_iff.1 hz
        exact ⟨.nils, H, by simp [appA, h2, h3] at h4 ⊢; exact h4, Own.nils, Fr.refl _ _, fun o h => .inl h⟩
      · refine ⟨.sl H.length 0 R2.length, H ++ [some ⟨R2, esz, ety, false⟩], by simp [appA, h2, h3, hz, h4, h5, hb2], Own.obj (by simp) rfl, (HLe.self _ _).fr, fun o h => .inr (Nat.le_of_eq h)⟩
    · by_cases hz : R2.length = 0
      · obtain rfl := List.length_eq_zero_iff.1 hz
        exact ⟨.sz, H, by simp [appA, h2, h3] at h4 ⊢; exact h4, .inr (.inl ⟨rfl, rfl⟩), Fr.refl _ _, fun o h => .inl h⟩
      · refine ⟨.sl H.length 0 R2.length, H ++ [some ⟨R2, esz, ety, false⟩], by simp [appA, h2, h3, hz, h4, h5, hb2], Own.obj (by simp) rfl, (HLe.self _ _).fr, fun o h => .inr (Nat.le_of_eq h)⟩
    · refine ⟨.sl H.length 0 (R ++ R2).length, (List.set H o none) ++ [some ⟨R ++ R2, esz, ety, false⟩], ?_, Own.obj ?_ rfl, ?_, fun o h => .inr (Nat.le_of_eq h)⟩
      · simp [appA, h2, h3, h4, h5, hb2, k1, k2, k3, k4, k5, k6, hb]
      · have : (List.set H o none).length = H.length := by simp
        rw [← this, Hp.at_app_0]
        rfl
      · refine ((Fr.refl _ H).set (.inl rfl) none).app _

/-- Behind append. -/
def appG (x y : AV) (ety esz bytes : Nat) (C : CallP) (d : Option Nat) (ag : List (Option Nat × AOp × Option (Nat × Bool))) (p : Plan) (t : Tm) (H : Hp) (K : Tm → Hp → Prop) : Prop :=
  optK (appA ety esz bytes x y H) (fun v H' => againG ag (updO t d v) H' ∧ RgP C p (updO t d v) H' K)
@[simp] theorem R_appG (C : CallP) (t : Tm) (H : Hp) (K : Tm → Hp → Prop) (d : Option Nat) (pl : Plan) (ag) (e n m : Nat) (x y : Od) :
    RgP C (.st d (.app e n m x y) none ag pl) t H K = appG (x.ev t) (y.ev t) e n m C d ag pl t H K := rfl

theorem appG_own {ety esz bytes : Nat} {x y : AV} {H : Hp} {R R2 : List (List AV)} {C : CallP} {d : Option Nat} {ag : List (Option Nat × AOp × Option (Nat × Bool))} {p : Plan} {t : Tm} {K : Tm → Hp → Prop}
    (hx : Own esz ety H x R) (hy : Rows esz H y R2) (hb : (R.length + R2.length) * bytes ≤ 140737488355328)
    (hk : ∀ v H', Own esz ety H' v (R ++ R2) → Fr x.of H H' → (∀ o, v.of o → x.of o ∨ H.length ≤ o) → againG ag (updO t d v) H' ∧ RgP C p (updO t d v) H' K) : appG x y ety esz bytes C d ag p t H K := by
  obtain ⟨v, H', h1, h2, h3, h4⟩ := appA_own hx hy hb
  unfold appG
  rw [h1]
  exact hk v H' h2 h3 h4

/-- One element is appended. -/
theorem appG_one {ety esz bytes : Nat} {x : AV} {row : List AV} {H : Hp} {R : List (List AV)} {C : CallP} {d : Option Nat} {ag : List (Option Nat × AOp × Option (Nat × Bool))} {p : Plan} {t : Tm} {K : Tm → Hp → Prop}
    (hx : Own esz ety H x R) (hb : (R.length + 1) * bytes ≤ 140737488355328)
    (hk : ∀ v H', Own esz ety H' v (R ++ [row]) → Fr x.of H H' → (∀ o, v.of o → x.of o ∨ H.length ≤ o) → againG ag (updO t d v) H' ∧ RgP C p (updO t d v) H' K) :
    appG x (.sl H.length 0 1) ety esz bytes C d ag p t (H ++ [some ⟨[row], esz, ety, false⟩]) K := by
  refine appG_own (R2 := [row]) (hx.le (HLe.self _ _)) (Own.rows (ety := ety) (Own.obj (by simp) rfl)) hb (fun v H' h1 h2 h3 => hk v H' h1 ?_ ?_)
  · exact ⟨Nat.le_trans (by simp) h2.1, fun o ob hn ho => h2.2 o ob hn ((HLe.self _ _).2 o ob ho)⟩
  · intro o ho
    rcases h3 o ho with h | h
    · exact .inl h
    · simp at h
      exact .inr (by omega)

/-- Elements of one's own, in memory that has been made since. -/
def OwnM {α : Type} (esz ety : Nat) (row : α → List AV) (H0 H : Hp) (v : AV) (xs : List α) : Prop := Own esz ety H v (xs.map row) ∧ ∀ o, v.of o → H0.length ≤ o
section
variable {α : Type} {esz ety bytes : Nat} {row : α → List AV} {H0 H H' : Hp} {v x : AV} {xs : List α} {C : CallP} {d : Option Nat} {ag : List (Option Nat × AOp × Option (Nat × Bool))} {p : Plan} {t : Tm} {K : Tm → Hp → Prop}
theorem OwnM.rows (h : OwnM esz ety row H0 H v xs) : Rows esz H v (xs.map row) := h.1.rows
theorem OwnM.len (h : OwnM esz ety row H0 H v xs) : lenV v = .int .i64 xs.length := by simpa using h.rows.len
theorem OwnM.slc (h : OwnM esz ety row H0 H v xs) : slC v := h.rows.slc
theorem OwnM.le (h : OwnM esz ety row H0 H v xs) (hle : HLe H H') : OwnM esz ety row H0 H' v xs := ⟨h.1.le hle, h.2⟩
theorem OwnM.fr {S : Nat → Prop} (h : OwnM esz ety row H0 H v xs) (hf : Fr S H H') (hs : ∀ o, v.of o → ¬ S o) : OwnM esz ety row H0 H' v xs := ⟨h.1.fr hf hs, h.2⟩
theorem OwnM.nils : OwnM esz ety row H0 H .nils [] := ⟨Own.nils, by simp⟩
theorem OwnM.base {H1 : Hp} (h : OwnM esz ety row H0 H v xs) (hl : H1.length ≤ H0.length) : OwnM esz ety row H1 H v xs := ⟨h.1, fun o ho => Nat.le_trans hl (h.2 o ho)⟩
/-- An empty slice that was just made. -/
theorem OwnM.lit0 (hle : HLe H0 H) : OwnM esz ety row H0 (H ++ [some ⟨[], esz, ety, false⟩]) (.sl H.length 0 0) [] := ⟨Own.obj (by simp) rfl, fun o ho => by have := hle.1; simp at ho; omega⟩
theorem appG_add {r : List AV} {y : α} (hx : OwnM esz ety row H0 H x xs) (hle : HLe H0 H) (hb : (xs.length + 1) * bytes ≤ 140737488355328) (hr : r = row y)
    (hk : ∀ v H', HLe H0 H' → OwnM esz ety row H0 H' v (xs ++ [y]) → Fr x.of H H' → (∀ o, v.of o → x.of o ∨ H.length ≤ o) → againG ag (updO t d v) H' ∧ RgP C p (updO t d v) H' K) :
    appG x (.sl H.length 0 1) ety esz bytes C d ag p t (H ++ [some ⟨[r], esz, ety, false⟩]) K := by
  subst hr
  exact appG_one hx.1 (by simpa using hb) (fun v H' g1 g2 g3 => hk v H' (hle.fr_le g2 hx.2) ⟨by simpa using g1, fun o ho => (g3 o ho).elim (hx.2 o) (fun h => Nat.le_trans hle.1 h)⟩ g2 g3)
theorem appG_cat {y : AV} {ys : List α} (hx : OwnM esz ety row H0 H x xs) (hy : Rows esz H y (ys.map row)) (hle : HLe H0 H) (hb : (xs.length + ys.length) * bytes ≤ 140737488355328)
    (hk : ∀ v H', HLe H0 H' → OwnM esz ety row H0 H' v (xs ++ ys) → Fr x.of H H' → (∀ o, v.of o → x.of o ∨ H.length ≤ o) → againG ag (updO t d v) H' ∧ RgP C p (updO t d v) H' K) :
    appG x y ety esz bytes C d ag p t H K :=
  appG_own hx.1 hy (by simpa using hb) (fun v H' g1 g2 g3 => hk v H' (hle.fr_le g2 hx.2) ⟨by simpa using g1, fun o ho => (g3 o ho).elim (hx.2 o) (fun h => Nat.le_trans hle.1 h)⟩ g2 g3)
/-- Part of a slice. -/
theorem Rows.drop {rows : List (List AV)} (h : Rows esz H v rows) (k : Nat) (hk : k ≤ rows.length) : ∃ u, stepA (fun _ => .un) H (.cut esz (.c v) (some (.c (.int .i64 k))) none) = some (u, H) ∧ Rows esz H u (rows.drop k) ∧ (∀ o, u.of o → v.of o) := by
  rcases h with ⟨rfl, rfl⟩ | ⟨rfl, rfl⟩ | ⟨o, i, ob, rfl, h2, h3, h4, h5⟩
  · have : k = 0 := by simpa using hk
    subst this
    exact ⟨.nils, by simp, Rows.nil, fun o ho => ho⟩
  · have : k = 0 := by simpa using hk
    subst this
    exact ⟨.sz, by simp, .inr (.inl ⟨rfl, rfl⟩), fun o ho => ho⟩
  · refine ⟨.sl o (i + k) (rows.length - k), ?_, .inr (.inr ⟨o, i + k, ob, by simp, h2, h3, by simp; omega, ?_⟩), fun o ho => ho⟩
    · simp [h2, h3]
      omega
    · rw [List.length_drop, ← List.drop_drop, ← List.drop_take, h5]
end

/-- Behind a cut. -/
def cutG (v : AV) (lo hi : Option AV) (esz : Nat) (C : CallP) (d : Option Nat) (p : Plan) (t : Tm) (H : Hp) (K : Tm → Hp → Prop) : Prop :=
  optK (stepA (fun _ => .un) H (.cut esz (.c v) (lo.map .c) (hi.map .c))) (fun u H' => RgP C p (updO t d u) H' K)
@[simp] theorem R_cutG (C : CallP) (t : Tm) (H : Hp) (K : Tm → Hp → Prop) (d : Option Nat) (pl : Plan) (esz : Nat) (x : Od) (lo hi : Option Od) :
    RgP C (.st d (.cut esz x lo hi) none [] pl) t H K = cutG (x.ev t) (lo.map (·.ev t)) (hi.map (·.ev t)) esz C d pl t H K := by
  have e : stepA t H (.cut esz x lo hi) = stepA (fun _ => .un) H (.cut esz (.c (x.ev t)) ((lo.map (·.ev t)).map .c) ((hi.map (·.ev t)).map .c)) := by
    cases lo <;> cases hi <;> rfl
  simp only [RgP, cutG, ← e]
  show stepK C t H (.cut esz x lo hi) _ = _
  rw [stepK_opt rfl]
  simp
section
variable {esz ety : Nat} {H : Hp} {v : AV} {rows : List (List AV)} {C : CallP} {d : Option Nat} {p : Plan} {t : Tm} {K : Tm → Hp → Prop}
theorem cut_rows (h : Rows esz H v rows) (lo hi : Option AV) (l k : Nat) (hlo : lo = none ∧ l = 0 ∨ ∃ q, lo = some (.int q l)) (hhi : hi = none ∧ k = rows.length ∨ ∃ q, hi = some (.int q k)) (h1 : l ≤ k) (h2 : k ≤ rows.length) :
    ∃ u, stepA (fun _ => .un) H (.cut esz (.c v) (lo.map .c) (hi.map .c)) = some (u, H) ∧ Rows esz H u ((rows.drop l).take (k - l)) ∧ (∀ o, u.of o → v.of o) ∧ (l = 0 → ∀ ety, Own esz ety H v rows → Own esz ety H u (rows.take k)) := by
  have el : ∀ z, optI (fun _ => AV.un) z (lo.map .c) = some (if lo = none then z else l) := by
    intro z
    rcases hlo with ⟨rfl, _⟩ | ⟨q, rfl⟩ <;> simp
  have eh : optI (fun _ => AV.un) rows.length (hi.map .c) = some (k : Int) := by
    rcases hhi with ⟨rfl, rfl⟩ | ⟨q, rfl⟩ <;> simp
  have el0 : optI (fun _ => AV.un) 0 (lo.map .c) = some (l : Int) := by
    rcases hlo with ⟨rfl, rfl⟩ | ⟨q, rfl⟩ <;> simp
  rcases h with ⟨rfl, rfl⟩ | ⟨rfl, rfl⟩ | ⟨o, i, ob, rfl, a2, a3, a4, a5⟩
  · have hk : k = 0 := by simpa using h2
    subst hk
    have hl : l = 0 := by omega
    subst hl
    refine ⟨.nils, ?_, by simpa using Rows.nil, fun o ho => ho, fun _ ety h => by simpa using h⟩
    have eh' : optI (fun _ => AV.un) 0 (hi.map .c) = some 0 := by simpa using eh
    simp only [stepA, Od.ev, el0, eh', Option.bind_some]
    simp
  · have hk : k = 0 := by simpa using h2
    subst hk
    have hl : l = 0 := by omega
    subst hl
    refine ⟨.sz, ?_, .inr (.inl ⟨rfl, by simp⟩), fun o ho => ho, fun _ ety h => by simpa using h⟩
    have eh' : optI (fun _ => AV.un) 0 (hi.map .c) = some 0 := by simpa using eh
    simp only [stepA, Od.ev, el0, eh', Option.bind_some]
    simp
  · refine ⟨.sl o (i + l) (k - l), ?_, .inr (.inr ⟨o, i + l, ob, ?_, a2, a3, ?_, ?_⟩), fun o ho => ho, ?_⟩
    · simp only [stepA, Od.ev, el0, eh, Option.bind_some, a2, a3, if_true]
      rw [if_pos ⟨by omega, by omega, by omega⟩]
      simp
    · congr 1
      simp
      omega
    · simp
      omega
    · have e5 : (ob.rows.drop i).take rows.length = rows := a5
      have : ((ob.rows.drop i).take rows.length).drop l = rows.drop l := by rw [e5]
      rw [List.drop_take, List.drop_drop] at this
      have hlen : ((rows.drop l).take (k - l)).length = k - l := by simp; omega
      rw [hlen, ← this, List.take_take, Nat.min_eq_left (by omega)]
    · intro hl0 ety ho
      subst hl0
      rcases ho with ⟨ho, _⟩ | ⟨ho, _⟩ | ⟨o', ob', ho, b2, b3, b4, b5, b6, b7⟩
      · cases ho
      · cases ho
      · cases ho
        refine .inr (.inr ⟨o, ob', ?_, b2, b3, b4, b5, ?_, ?_⟩)
        · simp
          omega
        · simp
          omega
        · have : (ob'.rows.take rows.length).take k = rows.take k := by rw [b7]
          rw [List.take_take, Nat.min_eq_left h2] at this
          rw [List.length_take, Nat.min_eq_left h2, this]
theorem cutG_rows (h : Rows esz H v rows) {lo hi : Option AV} (l k : Nat) (hlo : lo = none ∧ l = 0 ∨ ∃ q, lo = some (.int q l)) (hhi : hi = none ∧ k = rows.length ∨ ∃ q, hi = some (.int q k)) (h1 : l ≤ k) (h2 : k ≤ rows.length)
    (hk : ∀ u, Rows esz H u ((rows.drop l).take (k - l)) → (∀ o, u.of o → v.of o) → (l = 0 → ∀ ety, Own esz ety H v rows → Own esz ety H u (rows.take k)) → RgP C p (updO t d u) H K) : cutG v lo hi esz C d p t H K := by
  obtain ⟨u, e1, e2, e3, e4⟩ := cut_rows h lo hi l k hlo hhi h1 h2
  unfold cutG
  rw [e1]
  exact hk u e2 e3 e4
/-- From a place on. -/
theorem cutG_from (h : Rows esz H v rows) {z : Int} (l : Nat) (hz : z = l) (h2 : l ≤ rows.length) (hk : ∀ u, Rows esz H u (rows.drop l) → (∀ o, u.of o → v.of o) → RgP C p (updO t d u) H K) : cutG v (some (.int .i64 z)) none esz C d p t H K :=
  cutG_rows h l rows.length (.inr ⟨_, by rw [hz]⟩) (.inl ⟨rfl, rfl⟩) h2 (Nat.le_refl _) (fun u h1 h2 _ => hk u (by
    rw [List.take_of_length_le (by simp)] at h1
    exact h1) h2)
/-- Up to a place. -/
theorem cutG_upto (h : Rows esz H v rows) {z : Int} (k : Nat) (hz : z = k) (h2 : k ≤ rows.length) (hk : ∀ u, Rows esz H u (rows.take k) → (∀ o, u.of o → v.of o) → (∀ ety, Own esz ety H v rows → Own esz ety H u (rows.take k)) → RgP C p (updO t d u) H K) : cutG v none (some (.int .i64 z)) esz C d p t H K :=
  cutG_rows h 0 k (.inl ⟨rfl, rfl⟩) (.inr ⟨_, by rw [hz]⟩) (Nat.zero_le _) h2 (fun u h1 h2 h3 => hk u (by simpa using h1) h2 (h3 rfl))
end

end Go.Proofs.YtiecldkihdebiaaDoor.B

namespace Go.Proofs.YtiecldkihdebiaaDoor.B
open Go.RowKit
set_option linter.unusedVariables false
set_option linter.unusedSimpArgs false

/-- A number in decimals. -/
def dec (n : Int) : ByteArray := ⟨(Lib.itoa n).toArray⟩

/-- A key: letters a to d, five at most. -/
def keyOk (k : ByteArray) : Bool := decide ((∀ i : Nat, i < k.size → 97 ≤ bt k i ∧ bt k i ≤ 100) ∧ k.size ≤ 5)
def keysOk (ks : List ByteArray) : Bool := decide ((∀ i : Nat, ∀ h : i < ks.length, keyOk ks[i] = true ∧ ∀ h0 : 0 < i, sless ks[i - 1] ks[i] = true) ∧ ks.length ≤ 24)

structure Ent where
  key : ByteArray
  val : Int
  gone : Bool
  time : Int
deriving DecidableEq, Inhabited

def entRow (e : Ent) : List AV := [.str e.key, .int .i64 e.val, .bool e.gone, .int .i64 e.time]
def entOk (e : Ent) : Bool := keyOk e.key && decide (0 ≤ e.val ∧ e.val ≤ 99) && (!e.gone || decide (e.val = 0)) && decide (1 ≤ e.time ∧ e.time ≤ 999)
/-- One entry stands ahead of another one. -/
def ahead (a b : Ent) : Bool := sless a.key b.key || decide (a.key = b.key) && decide (b.time < a.time)
def runOk (r : List Ent) : Bool := decide ((∀ i : Nat, ∀ h : i < r.length, entOk r[i] = true ∧ ∀ h0 : 0 < i, ahead r[i - 1] r[i] = true) ∧ r.length ≤ 40)

/-- Entries in a slice; their keys are not too long for any machine. -/
def Ents (H : Hp) (v : AV) (es : List Ent) : Prop := Rows 4 H v (es.map entRow)
theorem Ents.len {H : Hp} {v : AV} {es : List Ent} (h : Ents H v es) : lenV v = .int .i64 es.length := by simpa using Rows.len h
theorem Ents.slc {H : Hp} {v : AV} {es : List Ent} (h : Ents H v es) : slC v := Rows.slc h
theorem Ents.le {H H' : Hp} {v : AV} {es : List Ent} (h : Ents H v es) (hle : HLe H H') : Ents H' v es := Rows.le h hle
theorem Ents.get {H : Hp} {v : AV} {es : List Ent} (h : Ents H v es) {j : Nat} (hj : j < es.length) :
    ∃ o i ob, v = .sl o i es.length ∧ H.at o = some ob ∧ ob.esz = 4 ∧ ob.rows[i + j]? = some [.str es[j].key, .int .i64 es[j].val, .bool es[j].gone, .int .i64 es[j].time] := by
  obtain ⟨o, i, ob, h1, h2, h3, h4⟩ := Rows.get h (j := j) (by simpa using hj)
  exact ⟨o, i, ob, by simpa using h1, h2, h3, by simpa [entRow] using h4⟩
/-- The keys of entries are not too long. -/
def Short (es : List Ent) : Prop := ∀ e ∈ es, e.key.size < 4611686018427387904
theorem Short.get {es : List Ent} (h : Short es) {j : Nat} (hj : j < es.length) : es[j].key.size < 4611686018427387904 := h _ (List.getElem_mem hj)

/-- Is one of these behind a key. -/
def putD (k : ByteArray) (ks : List ByteArray) : Bool := ks.any (fun x => sless k x)
/-- The first of some keys, a key among them, if one of these is behind it. -/
def putP (k : ByteArray) (ks : List ByteArray) : List ByteArray := ks.takeWhile (fun x => !sless k x) ++ (if putD k ks = true then k :: ks.dropWhile (fun x => !sless k x) else [])
/-- A key is put among others, if it is not there. -/
def putK (k : ByteArray) (ks : List ByteArray) : List ByteArray := if ks.any (fun x => decide (x = k)) = true then ks else putP k ks ++ (if putD k ks = true then [] else [k])
theorem putD_app (k x : ByteArray) (ks : List ByteArray) : putD k (ks ++ [x]) = (putD k ks || sless k x) := by simp [putD]
theorem putP_none {k : ByteArray} {ks : List ByteArray} (h : putD k ks = false) : putP k ks = ks := by
  have hl : ∀ ys : List ByteArray, (∀ x ∈ ys, sless k x = false) → ys.takeWhile (fun x => !sless k x) = ys := by
    intro ys hy
    induction ys with
    | nil => rfl
    | cons y ys ih => rw [List.takeWhile_cons, hy y (by simp), ih (fun x hx => hy x (List.mem_cons_of_mem _ hx))]; rfl
  have h2 : ∀ x ∈ ks, sless k x = false := by
    intro x hx
    simp only [putD, List.any_eq_false] at h
    simpa using h x hx
  simp [putP, h, hl ks h2]
theorem tw_app {p : ByteArray → Bool} {ks : List ByteArray} (x : ByteArray) (h : ∃ y ∈ ks, p y = false) : (ks ++ [x]).takeWhile p = ks.takeWhile p ∧ (ks ++ [x]).dropWhile p = ks.dropWhile p ++ [x] := by
  induction ks with
  | nil => simp at h
  | cons y ys ih =>
    simp only [List.cons_append, List.takeWhile_cons, List.dropWhile_cons]
    cases hy : p y with
    | false => simp
    | true =>
      have : ∃ y ∈ ys, p y = false := by
        obtain ⟨z, hz, hp⟩ := h
        rcases List.mem_cons.1 hz with rfl | hz
        · rw [hy] at hp; cases hp
        · exact ⟨z, hz, hp⟩
      simp [ih this]
theorem putP_app (k x : ByteArray) (ks : List ByteArray) : putP k (ks ++ [x]) = putP k ks ++ (if (!putD k ks && sless k x) = true then [k, x] else [x]) := by
  cases hd : putD k ks with
  | true =>
    have hex : ∃ y ∈ ks, (fun x => !sless k x) y = false := by
      simp only [putD, List.any_eq_true] at hd
      obtain ⟨y, hy, hp⟩ := hd
      exact ⟨y, hy, by simp [hp]⟩
    obtain ⟨h1, h2⟩ := tw_app (p := fun x => !sless k x) x hex
    simp only [putP, h1, h2, putD_app, hd]
    simp
  | false =>
    cases hx : sless k x with
    | false =>
      have : putD k (ks ++ [x]) = false := by rw [putD_app, hd, hx]; rfl
      rw [putP_none this, putP_none hd]
      simp
    | true =>
      have h2 : putD k (ks ++ [x]) = true := by rw [putD_app, hx, Bool.or_true]
      have h3 := putP_none hd
      have e : ∀ ys : List ByteArray, (∀ z ∈ ys, sless k z = false) → (ys ++ [x]).takeWhile (fun x => !sless k x) = ys ∧ (ys ++ [x]).dropWhile (fun x => !sless k x) = [x] := by
        intro ys hy
        induction ys with
        | nil => simp [hx]
        | cons y ys ih =>
          obtain ⟨i1, i2⟩ := ih (fun z hz => hy z (List.mem_cons_of_mem _ hz))
          simp [hy y (by simp), i1, i2]
      obtain ⟨e1, e2⟩ := e ks (by
        intro z hz
        simp only [putD, List.any_eq_false] at hd
        simpa using hd z hz)
      rw [h3]
      simp only [putP, h2, e1, e2]
      simp
theorem putP_len (k : ByteArray) (ks : List ByteArray) : (putP k ks).length ≤ ks.length + 1 := by
  have : ks.takeWhile (fun x => !sless k x) ++ ks.dropWhile (fun x => !sless k x) = ks := List.takeWhile_append_dropWhile
  have := congrArg List.length this
  simp only [List.length_append] at this
  unfold putP
  split <;> simp <;> omega
theorem putK_in {k : ByteArray} {ks : List ByteArray} (h : k ∈ ks) : putK k ks = ks := if_pos (List.any_eq_true.2 ⟨k, h, by simp⟩)
theorem putK_out {k : ByteArray} {ks : List ByteArray} (h : k ∉ ks) : putK k ks = putP k ks ++ (if putD k ks = true then [] else [k]) := if_neg (fun hh => by
  obtain ⟨x, hx, he⟩ := List.any_eq_true.1 hh
  simp at he
  exact h (he ▸ hx))
theorem putK_len (k : ByteArray) (ks : List ByteArray) : (putK k ks).length ≤ ks.length + 1 := by
  unfold putK
  split
  · omega
  · cases h : putD k ks
    · rw [putP_none h]; simp
    · have := putP_len k ks; simpa using this

/-- Two runs avs one. -/
def joinL : List Ent → List Ent → List Ent
  | avs, [] => avs
  | avs, b :: bs => avs.takeWhile (fun a => ahead a b) ++ b :: joinL (avs.dropWhile (fun a => ahead a b)) bs

def sumB (s : ByteArray) : Int := s.data.toList.foldl (fun n b => (n * 31 + b.toNat + 1) % 9973) 7

def lit1 (c : UInt8) : ByteArray := ⟨#[c]⟩
def entText (e : Ent) : ByteArray :=
  if e.gone = true then e.key ++ lit1 45 ++ dec e.time ++ lit1 59 else e.key ++ lit1 61 ++ dec e.val ++ lit1 45 ++ dec e.time ++ lit1 59
def runText (r : List Ent) : ByteArray := r.foldl (fun s e => s ++ entText e) ByteArray.empty

end Go.Proofs.YtiecldkihdebiaaDoor.B

namespace Go.Proofs.YtiecldkihdebiaaDoor.B
open Go.Proofs
theorem fol : Tryd.prog.follows .mixedOrders = true := by kernel_rfl
def c_spec_l21Split : CF := ⟨35, (.seq (.plan (.st (some 4) (.mv (.c .nils)) none [] .fin)) (.seq (.plan (.st (some 8) (.lit 9 1 0 [] []) none [] (.st (some 5) (.mv (.t 8)) none [] .fin))) (.seq (.plan (.st (some 6) (.mv (.c (.int .i64 0))) none [] .fin)) (.seq (.seq (.plan (.st (some 7) (.mv (.c (.int .i64 0))) none [] .fin)) (.block 0 (.loop (.seq (.seq (.plan (.st (some 9) (.mv (.t 7)) none [] (.st (some 10) (.mv (.t 0)) none [] (.st (some 11) (.lns (.t 10)) none [] (.st (some 12) (.bin .lss (.t 9) (.t 11)) none [] .fin))))) (.cond (.t 12) .skip (.exit 0))) (.seq (.block 1 (.seq (.plan (.st (some 15) (.mv (.t 0)) none [] (.st (some 16) (.mv (.t 7)) none [] (.st (some 17) (.ix (.t 15) (.t 16)) none [] (.st (some 18) (.mv (.t 1)) none [] (.st (some 19) (.bin .eql (.t 17) (.t 18)) none [] .fin)))))) (.cond (.t 19) (.seq (.plan (.st (some 20) (.mv (.t 5)) none [] (.st (some 21) (.mv (.t 0)) none [] (.st (some 22) (.mv (.t 6)) none [] (.st (some 23) (.mv (.t 7)) none [] (.st (some 24) (.cuts (.t 21) (some (.t 22)) (some (.t 23))) none [] (.st (some 25) (.lit 9 1 1 [(.str ⟨#[]⟩)] [(0, (1, (.t 24)))]) none [] (.st (some 26) (.app 9 1 16 (.t 20) (.t 25)) none [] (.st (some 5) (.mv (.t 26)) none [] .fin))))))))) (.plan (.st (some 27) (.mv (.t 7)) none [] (.st (some 28) (.bin .add (.t 27) (.c (.int .i64 1))) none [] (.st (some 6) (.mv (.t 28)) none [] .fin))))) .skip))) (.plan (.st (some 13) (.mv (.t 7)) none [] (.st (some 14) (.bin .add (.t 13) (.c (.int .i64 1))) none [] (.st (some 7) (.mv (.t 14)) none [] .fin))))))))) (.seq (.plan (.st (some 29) (.mv (.t 5)) none [] (.st (some 30) (.mv (.t 0)) none [] (.st (some 31) (.mv (.t 6)) none [] (.st (some 32) (.cuts (.t 30) (some (.t 31)) none) none [] (.st (some 33) (.lit 9 1 1 [(.str ⟨#[]⟩)] [(0, (1, (.t 32)))]) none [] (.st (some 34) (.app 9 1 16 (.t 29) (.t 33)) none [] (.st (some 4) (.mv (.t 34)) none [] .fin)))))))) .ret))))), [(.t 4)]⟩
theorem h_spec_l21Split : compF Tryd.prog 30 = some c_spec_l21Split := by kernel_rfl
def c_spec_l31Names : CF := ⟨2, (.seq (.plan (.st (some 0) (.mv (.c .nils)) none [] .fin)) (.seq (.plan (.st (some 1) (.lit 9 1 7 [(.str ⟨#[]⟩), (.str ⟨#[]⟩), (.str ⟨#[]⟩), (.str ⟨#[]⟩), (.str ⟨#[]⟩), (.str ⟨#[]⟩), (.str ⟨#[]⟩)] [(0, (1, (.c (.str ⟨#[]⟩)))), (1, (1, (.c (.str ⟨#[112, 117, 116]⟩)))), (2, (1, (.c (.str ⟨#[116, 97, 107, 101]⟩)))), (3, (1, (.c (.str ⟨#[104, 111, 108, 100]⟩)))), (4, (1, (.c (.str ⟨#[102, 114, 101, 101]⟩)))), (5, (1, (.c (.str ⟨#[100, 111, 119, 110]⟩)))), (6, (1, (.c (.str ⟨#[106, 111, 105, 110]⟩))))]) none [] (.st (some 0) (.mv (.t 1)) none [] .fin))) .ret)), [(.t 0)]⟩
theorem h_spec_l31Names : compF Tryd.prog 31 = some c_spec_l31Names := by kernel_rfl
def c_spec_l31Key : CF := ⟨12, (.seq (.plan (.st (some 2) (.mv (.c (.str ⟨#[]⟩))) none [] .fin)) (.seq (.seq (.plan (.st (some 3) (.mv (.t 0)) none [] (.st (some 4) (.bin .eql (.t 3) (.c (.str ⟨#[]⟩))) none [] (.st (some 5) (.mv (.t 4)) none [] (.st (some 6) (.mv (.t 0)) (some (5, false)) [] (.st (some 7) (.ix (.t 6) (.c (.int .i64 0))) (some (5, false)) [] (.st (some 8) (.bin .neq (.t 7) (.c (.int .u8 46))) (some (5, false)) [] (.st (some 9) (.pick (.t 5) (.c (.bool true)) (.t 8)) none [] .fin)))))))) (.cond (.t 9) (.seq (.plan (.st (some 2) (.mv (.c (.str ⟨#[63]⟩))) none [] .fin)) .ret) .skip)) (.seq (.plan (.st (some 10) (.mv (.t 0)) none [] (.st (some 11) (.cuts (.t 10) (some (.c (.int .i64 1))) none) none [] (.st (some 2) (.mv (.t 11)) none [] .fin)))) .ret))), [(.t 2)]⟩
theorem h_spec_l31Key : compF Tryd.prog 32 = some c_spec_l31Key := by kernel_rfl
def c_spec_l21Num : CF := ⟨34, (.seq (.plan (.st (some 2) (.mv (.c (.int .i64 0))) none [] .fin)) (.seq (.plan (.st (some 3) (.mv (.c (.int .i64 0))) none [] .fin)) (.seq (.seq (.plan (.st (some 4) (.mv (.c (.int .i64 0))) none [] .fin)) (.block 0 (.loop (.seq (.seq (.plan (.st (some 5) (.mv (.t 4)) none [] (.st (some 6) (.mv (.t 0)) none [] (.st (some 7) (.lns (.t 6)) none [] (.st (some 8) (.bin .lss (.t 5) (.t 7)) none [] (.st (some 9) (.mv (.t 8)) none [] (.st (some 10) (.mv (.t 3)) (some (9, true)) [] (.st (some 11) (.bin .lss (.t 10) (.c (.int .i64 100000))) (some (9, true)) [] (.st (some 12) (.pick (.t 9) (.t 11) (.c (.bool false))) none [] .fin))))))))) (.cond (.t 12) .skip (.exit 0))) (.seq (.block 1 (.seq (.plan (.st (some 15) (.mv (.t 0)) none [] (.st (some 16) (.mv (.t 4)) none [] (.st (some 17) (.ix (.t 15) (.t 16)) none [] (.st (some 18) (.bin .geq (.t 17) (.c (.int .u8 48))) none [] (.st (some 19) (.mv (.t 18)) none [] (.st (some 20) (.mv (.t 0)) (some (19, true)) [] (.st (some 21) (.mv (.t 4)) (some (19, true)) [] (.st (some 22) (.ix (.t 20) (.t 21)) (some (19, true)) [] (.st (some 23) (.bin .leq (.t 22) (.c (.int .u8 57))) (some (19, true)) [] (.st (some 24) (.pick (.t 19) (.t 23) (.c (.bool false))) none [] .fin))))))))))) (.cond (.t 24) (.plan (.st (some 25) (.mv (.t 3)) none [] (.st (some 26) (.bin .mul (.t 25) (.c (.int .i64 10))) none [] (.st (some 27) (.mv (.t 0)) none [] (.st (some 28) (.mv (.t 4)) none [] (.st (some 29) (.ix (.t 27) (.t 28)) none [] (.st (some 30) (.bin .sub (.t 29) (.c (.int .u8 48))) none [] (.st (some 31) (.cv .i64 (.t 30)) none [] (.st (some 32) (.bin .add (.t 26) (.t 31)) none [] (.st (some 3) (.mv (.t 32)) none [] .fin)))))))))) .skip))) (.plan (.st (some 13) (.mv (.t 4)) none [] (.st (some 14) (.bin .add (.t 13) (.c (.int .i64 1))) none [] (.st (some 4) (.mv (.t 14)) none [] .fin))))))))) (.seq (.plan (.st (some 33) (.mv (.t 3)) none [] (.st (some 2) (.mv (.t 33)) none [] .fin))) .ret)))), [(.t 2)]⟩
theorem h_spec_l21Num : compF Tryd.prog 33 = some c_spec_l21Num := by kernel_rfl
def c_spec_l6In : CF := ⟨15, (.seq (.plan (.st (some 6) (.mv (.c (.bool false))) none [] .fin)) (.seq (.plan (.st (some 7) (.mv (.t 0)) none [] (.st (some 8) (.mv (.t 1)) none [] (.st (some 9) (.bin .geq (.t 7) (.t 8)) none [] (.st (some 10) (.mv (.t 9)) none [] (.st (some 11) (.mv (.t 0)) (some (10, true)) [] (.st (some 12) (.mv (.t 2)) (some (10, true)) [] (.st (some 13) (.bin .leq (.t 11) (.t 12)) (some (10, true)) [] (.st (some 14) (.pick (.t 10) (.t 13) (.c (.bool false))) none [] (.st (some 6) (.mv (.t 14)) none [] .fin)))))))))) .ret)), [(.t 6)]⟩
theorem h_spec_l6In : compF Tryd.prog 47 = some c_spec_l6In := by kernel_rfl
def c_spec_KeyOk : CF := ⟨19, (.seq (.plan (.st (some 2) (.mv (.c (.bool false))) none [] .fin)) (.seq (.seq (.plan (.st (some 3) (.mv (.c (.int .i64 0))) none [] .fin)) (.block 0 (.loop (.seq (.seq (.plan (.st (some 4) (.mv (.t 3)) none [] (.st (some 5) (.mv (.t 0)) none [] (.st (some 6) (.lns (.t 5)) none [] (.st (some 7) (.bin .lss (.t 4) (.t 6)) none [] .fin))))) (.cond (.t 7) .skip (.exit 0))) (.seq (.block 1 (.seq (.plan (.st (some 10) (.mv (.t 0)) none [] (.st (some 11) (.mv (.t 3)) none [] (.st (some 12) (.ix (.t 10) (.t 11)) none [] (.st (some 13) (.cv .i64 (.t 12)) none [] (.st (some 14) (.call 47 [(.t 13), (.c (.int .i64 97)), (.c (.int .i64 100))]) none [] (.st (some 15) (.not (.t 14)) none [] .fin))))))) (.cond (.t 15) (.seq (.plan (.st (some 2) (.mv (.c (.bool false))) none [] .fin)) .ret) .skip))) (.plan (.st (some 8) (.mv (.t 3)) none [] (.st (some 9) (.bin .add (.t 8) (.c (.int .i64 1))) none [] (.st (some 3) (.mv (.t 9)) none [] .fin))))))))) (.seq (.plan (.st (some 16) (.mv (.t 0)) none [] (.st (some 17) (.lns (.t 16)) none [] (.st (some 18) (.bin .leq (.t 17) (.c (.int .i64 5))) none [] (.st (some 2) (.mv (.t 18)) none [] .fin))))) .ret))), [(.t 2)]⟩
theorem h_spec_KeyOk : compF Tryd.prog 48 = some c_spec_KeyOk := by kernel_rfl
def c_spec_l6Dec : CF := ⟨28, (.seq (.plan (.st (some 2) (.mv (.c (.str ⟨#[]⟩))) none [] .fin)) (.seq (.seq (.plan (.st (some 3) (.mv (.t 0)) none [] (.st (some 4) (.bin .lss (.t 3) (.c (.int .i64 (-9223372036854775807)))) none [] .fin))) (.cond (.t 4) (.seq (.plan (.st (some 2) (.mv (.c (.str ⟨#[45, 57, 50, 50, 51, 51, 55, 50, 48, 51, 54, 56, 53, 52, 55, 55, 53, 56, 48, 56]⟩))) none [] .fin)) .ret) .skip)) (.seq (.seq (.plan (.st (some 5) (.mv (.t 0)) none [] (.st (some 6) (.bin .lss (.t 5) (.c (.int .i64 0))) none [] .fin))) (.cond (.t 6) (.seq (.plan (.st (some 7) (.mv (.t 0)) none [] (.st (some 8) (.neg (.t 7)) none [] (.st (some 9) (.call 49 [(.t 8)]) none [] (.st (some 10) (.bin .add (.c (.str ⟨#[45]⟩)) (.t 9)) none [] (.st (some 2) (.mv (.t 10)) none [] .fin)))))) .ret) .skip)) (.seq (.seq (.plan (.st (some 11) (.mv (.t 0)) none [] (.st (some 12) (.bin .lss (.t 11) (.c (.int .i64 10))) none [] .fin))) (.cond (.t 12) (.seq (.plan (.st (some 13) (.mv (.t 0)) none [] (.st (some 14) (.bin .add (.c (.int .i64 48)) (.t 13)) none [] (.st (some 15) (.cv .u8 (.t 14)) none [] (.st (some 16) (.lit 5 1 1 [(.int .u8 0)] [(0, (1, (.t 15)))]) none [] (.st (some 17) (.cvs (.t 16)) none [] (.st (some 2) (.mv (.t 17)) none [] .fin))))))) .ret) .skip)) (.seq (.plan (.st (some 18) (.mv (.t 0)) none [] (.st (some 19) (.bin .quo (.t 18) (.c (.int .i64 10))) none [] (.st (some 21) (.mv (.t 0)) none [] (.st (some 22) (.bin .rem (.t 21) (.c (.int .i64 10))) none [] (.st (some 23) (.bin .add (.c (.int .i64 48)) (.t 22)) none [] (.st (some 24) (.cv .u8 (.t 23)) none [] (.both (.st (some 20) (.call 49 [(.t 19)]) none [] (.st (some 25) (.lit 5 1 1 [(.int .u8 0)] [(0, (1, (.t 24)))]) none [] (.st (some 26) (.cvs (.t 25)) none [] (.st (some 27) (.bin .add (.t 20) (.t 26)) none [] (.st (some 2) (.mv (.t 27)) none [] .fin))))) (.st (some 25) (.lit 5 1 1 [(.int .u8 0)] [(0, (1, (.t 24)))]) none [] (.st (some 26) (.cvs (.t 25)) none [] (.st (some 20) (.call 49 [(.t 19)]) none [((some 26), ((.cvs (.t 25)), none))] (.st (some 27) (.bin .add (.t 20) (.t 26)) none [] (.st (some 2) (.mv (.t 27)) none [] .fin))))))))))))) .ret))))), [(.t 2)]⟩
theorem h_spec_l6Dec : compF Tryd.prog 49 = some c_spec_l6Dec := by kernel_rfl
def c_spec_DeedText : CF := ⟨86, (.seq (.plan (.st (some 1) (.box 23 3 (.t 0)) none [] (.st (some 2) (.mv (.c (.str ⟨#[]⟩))) none [] .fin))) (.seq (.plan (.st (some 6) (.fa 0 (.t 1)) none [] (.st (some 7) (.ld (.t 6)) none [] (.st (some 8) (.bin .eql (.t 7) (.c (.int .i64 1))) none [] (.st (some 9) (.mv (.t 8)) none [] (.st (some 10) (.fa 0 (.t 1)) (some (9, false)) [] (.st (some 11) (.ld (.t 10)) (some (9, false)) [] (.st (some 12) (.bin .eql (.t 11) (.c (.int .i64 2))) (some (9, false)) [] (.st (some 13) (.pick (.t 9) (.c (.bool true)) (.t 12)) none [] (.st (some 3) (.mv (.t 13)) none [] .fin)))))))))) (.seq (.plan (.st (some 14) (.fa 0 (.t 1)) none [] (.st (some 15) (.ld (.t 14)) none [] (.st (some 16) (.bin .eql (.t 15) (.c (.int .i64 1))) none [] (.st (some 17) (.mv (.t 16)) none [] (.st (some 18) (.fa 0 (.t 1)) (some (17, false)) [] (.st (some 19) (.ld (.t 18)) (some (17, false)) [] (.st (some 20) (.bin .eql (.t 19) (.c (.int .i64 4))) (some (17, false)) [] (.st (some 21) (.pick (.t 17) (.c (.bool true)) (.t 20)) none [] (.st (some 22) (.mv (.t 21)) none [] (.st (some 23) (.fa 0 (.t 1)) (some (22, false)) [] (.st (some 24) (.ld (.t 23)) (some (22, false)) [] (.st (some 25) (.bin .eql (.t 24) (.c (.int .i64 6))) (some (22, false)) [] (.st (some 26) (.pick (.t 22) (.c (.bool true)) (.t 25)) none [] (.st (some 4) (.mv (.t 26)) none [] .fin))))))))))))))) (.seq (.seq (.plan (.st (some 27) (.fa 0 (.t 1)) none [] (.st (some 28) (.ld (.t 27)) none [] (.st (some 29) (.call 47 [(.t 28), (.c (.int .i64 1)), (.c (.int .i64 6))]) none [] (.st (some 30) (.not (.t 29)) none [] (.st (some 31) (.mv (.t 30)) none [] (.st (some 32) (.mv (.t 3)) (some (31, false)) [] (.st (some 33) (.not (.t 32)) (some (31, false)) [] (.st (some 34) (.mv (.t 33)) (some (31, false)) [] (.st (some 35) (.fa 1 (.t 1)) (some (34, true)) [] (.st (some 36) (.ld (.t 35)) (some (34, true)) [] (.st (some 37) (.bin .neq (.t 36) (.c (.str ⟨#[]⟩))) (some (34, true)) [] (.st (some 38) (.pick (.t 34) (.t 37) (.c (.bool false))) (some (31, false)) [] (.st (some 39) (.pick (.t 31) (.c (.bool true)) (.t 38)) none [] (.st (some 40) (.mv (.t 39)) none [] (.st (some 41) (.mv (.t 3)) (some (40, false)) [] (.st (some 42) (.mv (.t 41)) (some (40, false)) [] (.st (some 43) (.fa 1 (.t 1)) (some (42, true)) [] (.st (some 44) (.ld (.t 43)) (some (42, true)) [] (.st (some 45) (.call 48 [(.t 44)]) (some (42, true)) [] (.st (some 46) (.not (.t 45)) (some (42, true)) [] (.st (some 47) (.pick (.t 42) (.t 46) (.c (.bool false))) (some (40, false)) [] (.st (some 48) (.pick (.t 40) (.c (.bool true)) (.t 47)) none [] (.st (some 49) (.mv (.t 48)) none [] (.st (some 50) (.mv (.t 4)) (some (49, false)) [] (.st (some 51) (.not (.t 50)) (some (49, false)) [] (.st (some 52) (.mv (.t 51)) (some (49, false)) [] (.st (some 53) (.fa 2 (.t 1)) (some (52, true)) [] (.st (some 54) (.ld (.t 53)) (some (52, true)) [] (.st (some 55) (.bin .neq (.t 54) (.c (.int .i64 0))) (some (52, true)) [] (.st (some 56) (.pick (.t 52) (.t 55) (.c (.bool false))) (some (49, false)) [] (.st (some 57) (.pick (.t 49) (.c (.bool true)) (.t 56)) none [] (.st (some 58) (.mv (.t 57)) none [] (.st (some 59) (.mv (.t 4)) (some (58, false)) [] (.st (some 60) (.mv (.t 59)) (some (58, false)) [] (.st (some 61) (.fa 2 (.t 1)) (some (60, true)) [] (.st (some 62) (.ld (.t 61)) (some (60, true)) [] (.st (some 63) (.call 47 [(.t 62), (.c (.int .i64 0)), (.c (.int .i64 999))]) (some (60, true)) [] (.st (some 64) (.not (.t 63)) (some (60, true)) [] (.st (some 65) (.pick (.t 60) (.t 64) (.c (.bool false))) (some (58, false)) [] (.st (some 66) (.pick (.t 58) (.c (.bool true)) (.t 65)) none [] .fin))))))))))))))))))))))))))))))))))))))))) (.cond (.t 66) (.seq (.plan (.st (some 2) (.mv (.c (.str ⟨#[]⟩))) none [] .fin)) .ret) .skip)) (.seq (.plan (.st (some 68) (.fa 0 (.t 1)) none [] (.st (some 69) (.ld (.t 68)) none [] (.st (some 67) (.call 31 []) none [((some 69), ((.ld (.t 68)), none))] (.st (some 70) (.ia 1 (.t 67) (.t 69)) none [] (.st (some 71) (.ld (.t 70)) none [] (.st (some 5) (.mv (.t 71)) none [] .fin))))))) (.seq (.seq (.plan (.st (some 72) (.mv (.t 3)) none [] .fin)) (.cond (.t 72) (.plan (.st (some 73) (.mv (.t 5)) none [] (.st (some 74) (.bin .add (.t 73) (.c (.str ⟨#[32, 46]⟩))) none [] (.st (some 75) (.fa 1 (.t 1)) none [] (.st (some 76) (.ld (.t 75)) none [] (.st (some 77) (.bin .add (.t 74) (.t 76)) none [] (.st (some 5) (.mv (.t 77)) none [] .fin))))))) .skip)) (.seq (.seq (.plan (.st (some 78) (.mv (.t 4)) none [] .fin)) (.cond (.t 78) (.plan (.st (some 79) (.mv (.t 5)) none [] (.st (some 80) (.bin .add (.t 79) (.c (.str ⟨#[32]⟩))) none [] (.st (some 81) (.fa 2 (.t 1)) none [] (.st (some 82) (.ld (.t 81)) none [] (.st (some 83) (.call 49 [(.t 82)]) none [] (.st (some 84) (.bin .add (.t 80) (.t 83)) none [] (.st (some 5) (.mv (.t 84)) none [] .fin)))))))) .skip)) (.seq (.plan (.st (some 85) (.mv (.t 5)) none [] (.st (some 2) (.mv (.t 85)) none [] .fin))) .ret)))))))), [(.t 2)]⟩
theorem h_spec_DeedText : compF Tryd.prog 17 = some c_spec_DeedText := by kernel_rfl
def c_spec_DeedRead : CF := ⟨65, (.seq (.plan (.st (some 2) (.alloc 23 [(.int .i64 0), (.str ⟨#[]⟩), (.int .i64 0)]) none [] (.st (some 3) (.mv (.c (.bool false))) none [] .fin))) (.seq (.plan (.st (some 7) (.mv (.t 0)) none [] (.st (some 8) (.call 30 [(.t 7), (.c (.int .u8 32))]) none [] (.st (some 4) (.mv (.t 8)) none [] .fin)))) (.seq (.seq (.plan (.st (some 9) (.mv (.t 0)) none [] (.st (some 10) (.lns (.t 9)) none [] (.st (some 11) (.bin .gtr (.t 10) (.c (.int .i64 40))) none [] .fin)))) (.cond (.t 11) (.seq (.plan (.st (some 12) (.build [(.int .i64 0), (.str ⟨#[]⟩), (.int .i64 0)] []) none [] (.st none (.st 3 (.t 2) (.t 12)) none [] (.st (some 3) (.mv (.c (.bool false))) none [] .fin)))) .ret) .skip)) (.seq (.plan (.st (some 13) (.build [(.int .i64 0), (.str ⟨#[]⟩), (.int .i64 0)] []) none [] (.st (some 5) (.alloc 23 [(.int .i64 0), (.str ⟨#[]⟩), (.int .i64 0)]) none [] (.st none (.st 3 (.t 5) (.t 13)) none [] .fin)))) (.seq (.seq (.plan (.st (some 6) (.mv (.c (.int .i64 1))) none [] .fin)) (.block 0 (.loop (.seq (.seq (.plan (.st (some 14) (.mv (.t 6)) none [] (.st (some 15) (.bin .leq (.t 14) (.c (.int .i64 6))) none [] .fin))) (.cond (.t 15) .skip (.exit 0))) (.seq (.block 1 (.seq (.plan (.st (some 19) (.mv (.t 6)) none [] (.st (some 22) (.mv (.t 4)) none [] (.st (some 23) (.ia 1 (.t 22) (.c (.int .i64 0))) none [] (.st (some 24) (.ld (.t 23)) none [] (.st (some 18) (.call 31 []) none [((some 24), ((.ld (.t 23)), none)), ((some 23), ((.ia 1 (.t 22) (.c (.int .i64 0))), none))] (.st (some 20) (.ia 1 (.t 18) (.t 19)) none [] (.st (some 21) (.ld (.t 20)) none [] (.st (some 25) (.bin .eql (.t 21) (.t 24)) none [] .fin))))))))) (.cond (.t 25) (.plan (.st (some 26) (.mv (.t 6)) none [] (.st (some 27) (.fa 0 (.t 5)) none [] (.st none (.st 1 (.t 27) (.t 26)) none [] .fin)))) .skip))) (.plan (.st (some 16) (.mv (.t 6)) none [] (.st (some 17) (.bin .add (.t 16) (.c (.int .i64 1))) none [] (.st (some 6) (.mv (.t 17)) none [] .fin))))))))) (.seq (.seq (.plan (.st (some 28) (.mv (.t 4)) none [] (.st (some 29) (.len (.t 28)) none [] (.st (some 30) (.bin .gtr (.t 29) (.c (.int .i64 1))) none [] .fin)))) (.cond (.t 30) (.seq (.seq (.plan (.st (some 31) (.fa 0 (.t 5)) none [] (.st (some 32) (.ld (.t 31)) none [] (.st (some 33) (.bin .eql (.t 32) (.c (.int .i64 1))) none [] (.st (some 34) (.mv (.t 33)) none [] (.st (some 35) (.fa 0 (.t 5)) (some (34, false)) [] (.st (some 36) (.ld (.t 35)) (some (34, false)) [] (.st (some 37) (.bin .eql (.t 36) (.c (.int .i64 2))) (some (34, false)) [] (.st (some 38) (.pick (.t 34) (.c (.bool true)) (.t 37)) none [] .fin))))))))) (.cond (.t 38) (.plan (.st (some 39) (.mv (.t 4)) none [] (.st (some 40) (.ia 1 (.t 39) (.c (.int .i64 1))) none [] (.st (some 41) (.ld (.t 40)) none [] (.st (some 42) (.call 32 [(.t 41)]) none [] (.st (some 43) (.fa 1 (.t 5)) none [] (.st none (.st 1 (.t 43) (.t 42)) none [] .fin))))))) .skip)) (.seq (.plan (.st (some 44) (.fa 0 (.t 5)) none [] (.st (some 45) (.ld (.t 44)) none [] (.st (some 46) (.bin .neq (.t 45) (.c (.int .i64 2))) none [] .fin)))) (.cond (.t 46) (.plan (.st (some 47) (.mv (.t 4)) none [] (.st (some 48) (.mv (.t 4)) none [] (.st (some 49) (.len (.t 48)) none [] (.st (some 50) (.bin .sub (.t 49) (.c (.int .i64 1))) none [] (.st (some 51) (.ia 1 (.t 47) (.t 50)) none [] (.st (some 52) (.ld (.t 51)) none [] (.st (some 53) (.call 33 [(.t 52)]) none [] (.st (some 54) (.fa 2 (.t 5)) none [] (.st none (.st 1 (.t 54) (.t 53)) none [] .fin)))))))))) .skip))) .skip)) (.seq (.seq (.plan (.st (some 55) (.lda 3 (.t 5)) none [] (.st (some 56) (.call 17 [(.t 55)]) none [] (.st (some 57) (.mv (.t 0)) none [] (.st (some 58) (.bin .neq (.t 56) (.t 57)) none [] (.st (some 59) (.mv (.t 58)) none [] (.st (some 60) (.mv (.t 0)) (some (59, false)) [] (.st (some 61) (.bin .eql (.t 60) (.c (.str ⟨#[]⟩))) (some (59, false)) [] (.st (some 62) (.pick (.t 59) (.c (.bool true)) (.t 61)) none [] .fin))))))))) (.cond (.t 62) (.seq (.plan (.st (some 63) (.build [(.int .i64 0), (.str ⟨#[]⟩), (.int .i64 0)] []) none [] (.st none (.st 3 (.t 2) (.t 63)) none [] (.st (some 3) (.mv (.c (.bool false))) none [] .fin)))) .ret) .skip)) (.seq (.plan (.st (some 64) (.lda 3 (.t 5)) none [] (.st none (.st 3 (.t 2) (.t 64)) none [] (.st (some 3) (.mv (.c (.bool true))) none [] .fin)))) .ret)))))))), [(.ca 2 3), (.t 3)]⟩
theorem h_spec_DeedRead : compF Tryd.prog 12 = some c_spec_DeedRead := by kernel_rfl
def c_unicode_utf8_DecodeRuneInString : CF := ⟨19, (.seq (.plan (.st (some 2) (.mv (.c (.int .i32 0))) none [] (.st (some 3) (.mv (.c (.int .i64 0))) none [] .fin))) (.seq (.seq (.plan (.st (some 4) (.mv (.t 0)) none [] (.st (some 5) (.bin .neq (.t 4) (.c (.str ⟨#[]⟩))) none [] (.st (some 6) (.mv (.t 5)) none [] (.st (some 7) (.mv (.t 0)) (some (6, true)) [] (.st (some 8) (.ix (.t 7) (.c (.int .i64 0))) (some (6, true)) [] (.st (some 9) (.bin .lss (.t 8) (.c (.int .u8 128))) (some (6, true)) [] (.st (some 10) (.pick (.t 6) (.t 9) (.c (.bool false))) none [] .fin)))))))) (.cond (.t 10) (.seq (.plan (.st (some 11) (.mv (.t 0)) none [] (.st (some 12) (.ix (.t 11) (.c (.int .i64 0))) none [] (.st (some 13) (.cv .i32 (.t 12)) none [] (.st (some 2) (.mv (.t 13)) none [] (.st (some 3) (.mv (.c (.int .i64 1))) none [] .fin)))))) .ret) (.plan (.st (some 15) (.mv (.t 0)) none [] (.st (some 16) (.call 107 [(.t 15)]) none [] (.st (some 14) (.mv (.t 16)) none [] (.st (some 17) (.ext 0 (.t 14)) none [] (.st (some 18) (.ext 1 (.t 14)) none [] (.st (some 2) (.mv (.t 17)) none [] (.st (some 3) (.mv (.t 18)) none [] .fin)))))))))) .ret)), [(.t 2), (.t 3)]⟩
theorem h_unicode_utf8_DecodeRuneInString : compF Tryd.prog 91 = some c_unicode_utf8_DecodeRuneInString := by kernel_rfl
def c_strings_explode : CF := ⟨50, (.seq (.plan (.st (some 4) (.mv (.c .nils)) none [] .fin)) (.seq (.plan (.st (some 10) (.mv (.t 0)) none [] (.st (some 11) (.call 90 [(.t 10)]) none [] (.st (some 5) (.mv (.t 11)) none [] .fin)))) (.seq (.seq (.plan (.st (some 12) (.mv (.t 1)) none [] (.st (some 13) (.bin .lss (.t 12) (.c (.int .i64 0))) none [] (.st (some 14) (.mv (.t 13)) none [] (.st (some 15) (.mv (.t 1)) (some (14, false)) [] (.st (some 16) (.mv (.t 5)) (some (14, false)) [] (.st (some 17) (.bin .gtr (.t 15) (.t 16)) (some (14, false)) [] (.st (some 18) (.pick (.t 14) (.c (.bool true)) (.t 17)) none [] .fin)))))))) (.cond (.t 18) (.plan (.st (some 19) (.mv (.t 5)) none [] (.st (some 1) (.mv (.t 19)) none [] .fin))) .skip)) (.seq (.plan (.st (some 20) (.mv (.t 1)) none [] (.st (some 21) (.mk 9 1 16 [(.str ⟨#[]⟩)] (.t 20)) none [] (.st (some 6) (.mv (.t 21)) none [] .fin)))) (.seq (.seq (.plan (.st (some 7) (.mv (.c (.int .i64 0))) none [] .fin)) (.block 0 (.loop (.seq (.seq (.plan (.st (some 22) (.mv (.t 7)) none [] (.st (some 23) (.mv (.t 1)) none [] (.st (some 24) (.bin .sub (.t 23) (.c (.int .i64 1))) none [] (.st (some 25) (.bin .lss (.t 22) (.t 24)) none [] .fin))))) (.cond (.t 25) .skip (.exit 0))) (.seq (.block 1 (.seq (.plan (.st (some 29) (.mv (.t 0)) none [] (.st (some 30) (.call 91 [(.t 29)]) none [] (.st (some 28) (.mv (.t 30)) none [] (.st (some 31) (.ext 0 (.t 28)) none [] (.st (some 32) (.ext 1 (.t 28)) none [] (.st (some 8) (.mv (.t 31)) none [] (.st (some 9) (.mv (.t 32)) none [] .fin)))))))) (.seq (.plan (.st (some 33) (.mv (.t 6)) none [] (.st (some 34) (.mv (.t 7)) none [] (.st (some 35) (.mv (.t 0)) none [] (.st (some 36) (.mv (.t 9)) none [] (.st (some 37) (.cuts (.t 35) none (some (.t 36))) none [] (.st (some 38) (.ia 1 (.t 33) (.t 34)) none [] (.st none (.st 1 (.t 38) (.t 37)) none [] .fin)))))))) (.plan (.st (some 39) (.mv (.t 0)) none [] (.st (some 40) (.mv (.t 9)) none [] (.st (some 41) (.cuts (.t 39) (some (.t 40)) none) none [] (.st (some 0) (.mv (.t 41)) none [] .fin)))))))) (.plan (.st (some 26) (.mv (.t 7)) none [] (.st (some 27) (.bin .add (.t 26) (.c (.int .i64 1))) none [] (.st (some 7) (.mv (.t 27)) none [] .fin))))))))) (.seq (.seq (.plan (.st (some 42) (.mv (.t 1)) none [] (.st (some 43) (.bin .gtr (.t 42) (.c (.int .i64 0))) none [] .fin))) (.cond (.t 43) (.plan (.st (some 44) (.mv (.t 6)) none [] (.st (some 45) (.mv (.t 1)) none [] (.st (some 46) (.bin .sub (.t 45) (.c (.int .i64 1))) none [] (.st (some 47) (.mv (.t 0)) none [] (.st (some 48) (.ia 1 (.t 44) (.t 46)) none [] (.st none (.st 1 (.t 48) (.t 47)) none [] .fin))))))) .skip)) (.seq (.plan (.st (some 49) (.mv (.t 6)) none [] (.st (some 4) (.mv (.t 49)) none [] .fin))) .ret))))))), [(.t 4)]⟩
theorem h_strings_explode : compF Tryd.prog 78 = some c_strings_explode := by kernel_rfl
def c_strings_Index : CF := ⟨8, (.seq (.plan (.st (some 4) (.mv (.c (.int .i64 0))) none [] .fin)) (.seq (.plan (.st (some 5) (.mv (.t 0)) none [] (.st (some 6) (.mv (.t 1)) none [] (.st (some 7) (.call 86 [(.t 5), (.t 6)]) none [] (.st (some 4) (.mv (.t 7)) none [] .fin))))) .ret)), [(.t 4)]⟩
theorem h_strings_Index : compF Tryd.prog 80 = some c_strings_Index := by kernel_rfl
def c_strings_Count : CF := ⟨34, (.seq (.plan (.st (some 4) (.mv (.c (.int .i64 0))) none [] .fin)) (.seq (.seq (.plan (.st (some 7) (.mv (.t 1)) none [] (.st (some 8) (.lns (.t 7)) none [] (.st (some 9) (.bin .eql (.t 8) (.c (.int .i64 0))) none [] .fin)))) (.cond (.t 9) (.seq (.plan (.st (some 10) (.mv (.t 0)) none [] (.st (some 11) (.call 90 [(.t 10)]) none [] (.st (some 12) (.bin .add (.t 11) (.c (.int .i64 1))) none [] (.st (some 4) (.mv (.t 12)) none [] .fin))))) .ret) .skip)) (.seq (.seq (.plan (.st (some 13) (.mv (.t 1)) none [] (.st (some 14) (.lns (.t 13)) none [] (.st (some 15) (.bin .eql (.t 14) (.c (.int .i64 1))) none [] .fin)))) (.cond (.t 15) (.seq (.plan (.st (some 16) (.mv (.t 0)) none [] (.st (some 17) (.mv (.t 1)) none [] (.st (some 18) (.ix (.t 17) (.c (.int .i64 0))) none [] (.st (some 19) (.call 92 [(.t 16), (.t 18)]) none [] (.st (some 4) (.mv (.t 19)) none [] .fin)))))) .ret) .skip)) (.seq (.plan (.st (some 5) (.mv (.c (.int .i64 0))) none [] .fin)) (.block 0 (.loop (.block 1 (.seq (.plan (.st (some 20) (.mv (.t 0)) none [] (.st (some 21) (.mv (.t 1)) none [] (.st (some 22) (.call 80 [(.t 20), (.t 21)]) none [] (.st (some 6) (.mv (.t 22)) none [] .fin))))) (.seq (.seq (.plan (.st (some 23) (.mv (.t 6)) none [] (.st (some 24) (.bin .eql (.t 23) (.c (.int .i64 (-1)))) none [] .fin))) (.cond (.t 24) (.seq (.plan (.st (some 25) (.mv (.t 5)) none [] (.st (some 4) (.mv (.t 25)) none [] .fin))) .ret) .skip)) (.seq (.plan (.st (some 26) (.mv (.t 5)) none [] (.st (some 27) (.bin .add (.t 26) (.c (.int .i64 1))) none [] (.st (some 5) (.mv (.t 27)) none [] .fin)))) (.plan (.st (some 28) (.mv (.t 0)) none [] (.st (some 29) (.mv (.t 6)) none [] (.st (some 30) (.mv (.t 1)) none [] (.st (some 31) (.lns (.t 30)) none [] (.st (some 32) (.bin .add (.t 29) (.t 31)) none [] (.st (some 33) (.cuts (.t 28) (some (.t 32)) none) none [] (.st (some 0) (.mv (.t 33)) none [] .fin)))))))))))))))))), [(.t 4)]⟩
theorem h_strings_Count : compF Tryd.prog 79 = some c_strings_Count := by kernel_rfl
def c_strings_genSplit : CF := ⟨66, (.seq (.plan (.st (some 8) (.mv (.c .nils)) none [] .fin)) (.seq (.seq (.plan (.st (some 12) (.mv (.t 3)) none [] (.st (some 13) (.bin .eql (.t 12) (.c (.int .i64 0))) none [] .fin))) (.cond (.t 13) (.seq (.plan (.st (some 8) (.mv (.c .nils)) none [] .fin)) .ret) .skip)) (.seq (.seq (.plan (.st (some 14) (.mv (.t 1)) none [] (.st (some 15) (.bin .eql (.t 14) (.c (.str ⟨#[]⟩))) none [] .fin))) (.cond (.t 15) (.seq (.plan (.st (some 16) (.mv (.t 0)) none [] (.st (some 17) (.mv (.t 3)) none [] (.st (some 18) (.call 78 [(.t 16), (.t 17)]) none [] (.st (some 8) (.mv (.t 18)) none [] .fin))))) .ret) .skip)) (.seq (.seq (.plan (.st (some 19) (.mv (.t 3)) none [] (.st (some 20) (.bin .lss (.t 19) (.c (.int .i64 0))) none [] .fin))) (.cond (.t 20) (.plan (.st (some 21) (.mv (.t 0)) none [] (.st (some 22) (.mv (.t 1)) none [] (.st (some 23) (.call 79 [(.t 21), (.t 22)]) none [] (.st (some 24) (.bin .add (.t 23) (.c (.int .i64 1))) none [] (.st (some 3) (.mv (.t 24)) none [] .fin)))))) .skip)) (.seq (.plan (.st (some 25) (.mv (.t 3)) none [] (.st (some 26) (.mv (.t 0)) none [] (.st (some 27) (.lns (.t 26)) none [] (.st (some 28) (.bin .add (.t 27) (.c (.int .i64 1))) none [] (.st (some 29) (.mn (.t 25) (.t 28)) none [] (.st (some 3) (.mv (.t 29)) none [] .fin))))))) (.seq (.plan (.st (some 30) (.mv (.t 3)) none [] (.st (some 31) (.mk 9 1 16 [(.str ⟨#[]⟩)] (.t 30)) none [] (.st (some 9) (.mv (.t 31)) none [] .fin)))) (.seq (.plan (.st (some 32) (.mv (.t 3)) none [] (.st (some 33) (.bin .sub (.t 32) (.c (.int .i64 1))) none [] (.st (some 3) (.mv (.t 33)) none [] .fin)))) (.seq (.plan (.st (some 10) (.mv (.c (.int .i64 0))) none [] .fin)) (.seq (.block 0 (.loop (.seq (.seq (.plan (.st (some 34) (.mv (.t 10)) none [] (.st (some 35) (.mv (.t 3)) none [] (.st (some 36) (.bin .lss (.t 34) (.t 35)) none [] .fin)))) (.cond (.t 36) .skip (.exit 0))) (.block 1 (.seq (.plan (.st (some 37) (.mv (.t 0)) none [] (.st (some 38) (.mv (.t 1)) none [] (.st (some 39) (.call 80 [(.t 37), (.t 38)]) none [] (.st (some 11) (.mv (.t 39)) none [] .fin))))) (.seq (.seq (.plan (.st (some 40) (.mv (.t 11)) none [] (.st (some 41) (.bin .lss (.t 40) (.c (.int .i64 0))) none [] .fin))) (.cond (.t 41) (.exit 0) .skip)) (.seq (.plan (.st (some 42) (.mv (.t 9)) none [] (.st (some 43) (.mv (.t 10)) none [] (.st (some 44) (.mv (.t 0)) none [] (.st (some 45) (.mv (.t 11)) none [] (.st (some 46) (.mv (.t 2)) none [] (.st (some 47) (.bin .add (.t 45) (.t 46)) none [] (.st (some 48) (.cuts (.t 44) none (some (.t 47))) none [] (.st (some 49) (.ia 1 (.t 42) (.t 43)) none [] (.st none (.st 1 (.t 49) (.t 48)) none [] .fin)))))))))) (.seq (.plan (.st (some 50) (.mv (.t 0)) none [] (.st (some 51) (.mv (.t 11)) none [] (.st (some 52) (.mv (.t 1)) none [] (.st (some 53) (.lns (.t 52)) none [] (.st (some 54) (.bin .add (.t 51) (.t 53)) none [] (.st (some 55) (.cuts (.t 50) (some (.t 54)) none) none [] (.st (some 0) (.mv (.t 55)) none [] .fin)))))))) (.plan (.st (some 56) (.mv (.t 10)) none [] (.st (some 57) (.bin .add (.t 56) (.c (.int .i64 1))) none [] (.st (some 10) (.mv (.t 57)) none [] .fin)))))))))))) (.seq (.plan (.st (some 58) (.mv (.t 9)) none [] (.st (some 59) (.mv (.t 10)) none [] (.st (some 60) (.mv (.t 0)) none [] (.st (some 61) (.ia 1 (.t 58) (.t 59)) none [] (.st none (.st 1 (.t 61) (.t 60)) none [] .fin)))))) (.seq (.plan (.st (some 62) (.mv (.t 9)) none [] (.st (some 63) (.mv (.t 10)) none [] (.st (some 64) (.bin .add (.t 63) (.c (.int .i64 1))) none [] (.st (some 65) (.cut 1 (.t 62) none (some (.t 64))) none [] (.st (some 8) (.mv (.t 65)) none [] .fin)))))) .ret))))))))))), [(.t 8)]⟩
theorem h_strings_genSplit : compF Tryd.prog 63 = some c_strings_genSplit := by kernel_rfl
def c_strings_Split : CF := ⟨8, (.seq (.plan (.st (some 4) (.mv (.c .nils)) none [] .fin)) (.seq (.plan (.st (some 5) (.mv (.t 0)) none [] (.st (some 6) (.mv (.t 1)) none [] (.st (some 7) (.call 63 [(.t 5), (.t 6), (.c (.int .i64 0)), (.c (.int .i64 (-1)))]) none [] (.st (some 4) (.mv (.t 7)) none [] .fin))))) .ret)), [(.t 4)]⟩
theorem h_strings_Split : compF Tryd.prog 34 = some c_strings_Split := by kernel_rfl
def c_impl_deedWords : CF := ⟨2, (.seq (.plan (.st (some 0) (.mv (.c .nils)) none [] .fin)) (.seq (.plan (.st (some 1) (.lit 9 1 7 [(.str ⟨#[]⟩), (.str ⟨#[]⟩), (.str ⟨#[]⟩), (.str ⟨#[]⟩), (.str ⟨#[]⟩), (.str ⟨#[]⟩), (.str ⟨#[]⟩)] [(0, (1, (.c (.str ⟨#[]⟩)))), (1, (1, (.c (.str ⟨#[112, 117, 116]⟩)))), (2, (1, (.c (.str ⟨#[116, 97, 107, 101]⟩)))), (3, (1, (.c (.str ⟨#[104, 111, 108, 100]⟩)))), (4, (1, (.c (.str ⟨#[102, 114, 101, 101]⟩)))), (5, (1, (.c (.str ⟨#[100, 111, 119, 110]⟩)))), (6, (1, (.c (.str ⟨#[106, 111, 105, 110]⟩))))]) none [] (.st (some 0) (.mv (.t 1)) none [] .fin))) .ret)), [(.t 0)]⟩
theorem h_impl_deedWords : compF Tryd.prog 35 = some c_impl_deedWords := by kernel_rfl
def c_impl_keyed : CF := ⟨9, (.seq (.plan (.st (some 2) (.mv (.c (.bool false))) none [] .fin)) (.seq (.plan (.st (some 3) (.mv (.t 0)) none [] (.st (some 4) (.bin .eql (.t 3) (.c (.int .i64 1))) none [] (.st (some 5) (.mv (.t 4)) none [] (.st (some 6) (.mv (.t 0)) (some (5, false)) [] (.st (some 7) (.bin .eql (.t 6) (.c (.int .i64 2))) (some (5, false)) [] (.st (some 8) (.pick (.t 5) (.c (.bool true)) (.t 7)) none [] (.st (some 2) (.mv (.t 8)) none [] .fin)))))))) .ret)), [(.t 2)]⟩
theorem h_impl_keyed : compF Tryd.prog 36 = some c_impl_keyed := by kernel_rfl
def c_internal_stringslite_HasPrefix : CF := ⟨18, (.seq (.plan (.st (some 4) (.mv (.c (.bool false))) none [] .fin)) (.seq (.plan (.st (some 5) (.mv (.t 0)) none [] (.st (some 6) (.lns (.t 5)) none [] (.st (some 7) (.mv (.t 1)) none [] (.st (some 8) (.lns (.t 7)) none [] (.st (some 9) (.bin .geq (.t 6) (.t 8)) none [] (.st (some 10) (.mv (.t 9)) none [] (.st (some 11) (.mv (.t 0)) (some (10, true)) [] (.st (some 12) (.mv (.t 1)) (some (10, true)) [] (.st (some 13) (.lns (.t 12)) (some (10, true)) [] (.st (some 14) (.cuts (.t 11) none (some (.t 13))) (some (10, true)) [] (.st (some 15) (.mv (.t 1)) (some (10, true)) [] (.st (some 16) (.bin .eql (.t 14) (.t 15)) (some (10, true)) [] (.st (some 17) (.pick (.t 10) (.t 16) (.c (.bool false))) none [] (.st (some 4) (.mv (.t 17)) none [] .fin))))))))))))))) .ret)), [(.t 4)]⟩
theorem h_internal_stringslite_HasPrefix : compF Tryd.prog 81 = some c_internal_stringslite_HasPrefix := by kernel_rfl
def c_internal_stringslite_TrimPrefix : CF := ⟨13, (.seq (.plan (.st (some 4) (.mv (.c (.str ⟨#[]⟩))) none [] .fin)) (.seq (.seq (.plan (.st (some 5) (.mv (.t 0)) none [] (.st (some 6) (.mv (.t 1)) none [] (.st (some 7) (.call 81 [(.t 5), (.t 6)]) none [] .fin)))) (.cond (.t 7) (.seq (.plan (.st (some 8) (.mv (.t 0)) none [] (.st (some 9) (.mv (.t 1)) none [] (.st (some 10) (.lns (.t 9)) none [] (.st (some 11) (.cuts (.t 8) (some (.t 10)) none) none [] (.st (some 4) (.mv (.t 11)) none [] .fin)))))) .ret) .skip)) (.seq (.plan (.st (some 12) (.mv (.t 0)) none [] (.st (some 4) (.mv (.t 12)) none [] .fin))) .ret))), [(.t 4)]⟩
theorem h_internal_stringslite_TrimPrefix : compF Tryd.prog 64 = some c_internal_stringslite_TrimPrefix := by kernel_rfl
def c_strings_TrimPrefix : CF := ⟨8, (.seq (.plan (.st (some 4) (.mv (.c (.str ⟨#[]⟩))) none [] .fin)) (.seq (.plan (.st (some 5) (.mv (.t 0)) none [] (.st (some 6) (.mv (.t 1)) none [] (.st (some 7) (.call 64 [(.t 5), (.t 6)]) none [] (.st (some 4) (.mv (.t 7)) none [] .fin))))) .ret)), [(.t 4)]⟩
theorem h_strings_TrimPrefix : compF Tryd.prog 37 = some c_strings_TrimPrefix := by kernel_rfl
def c_impl_counted : CF := ⟨13, (.seq (.plan (.st (some 2) (.mv (.c (.bool false))) none [] .fin)) (.seq (.plan (.st (some 3) (.mv (.t 0)) none [] (.st (some 4) (.bin .eql (.t 3) (.c (.int .i64 1))) none [] (.st (some 5) (.mv (.t 4)) none [] (.st (some 6) (.mv (.t 0)) (some (5, false)) [] (.st (some 7) (.bin .eql (.t 6) (.c (.int .i64 4))) (some (5, false)) [] (.st (some 8) (.pick (.t 5) (.c (.bool true)) (.t 7)) none [] (.st (some 9) (.mv (.t 8)) none [] (.st (some 10) (.mv (.t 0)) (some (9, false)) [] (.st (some 11) (.bin .eql (.t 10) (.c (.int .i64 6))) (some (9, false)) [] (.st (some 12) (.pick (.t 9) (.c (.bool true)) (.t 11)) none [] (.st (some 2) (.mv (.t 12)) none [] .fin)))))))))))) .ret)), [(.t 2)]⟩
theorem h_impl_counted : compF Tryd.prog 38 = some c_impl_counted := by kernel_rfl
def c_strconv_Atoi : CF := ⟨18, (.seq (.plan (.st (some 2) (.mv (.c (.int .i64 0))) none [] (.st (some 3) (.mv (.c .nili)) none [] .fin))) (.seq (.plan (.st (some 7) (.mv (.t 0)) none [] (.st (some 8) (.call 82 [(.t 7)]) none [] (.st (some 6) (.mv (.t 8)) none [] (.st (some 9) (.ext 0 (.t 6)) none [] (.st (some 10) (.ext 1 (.t 6)) none [] (.st (some 4) (.mv (.t 9)) none [] (.st (some 5) (.mv (.t 10)) none [] .fin)))))))) (.seq (.seq (.plan (.st (some 11) (.mv (.t 5)) none [] (.st (some 12) (.eqn 1 true (.t 11) (.c .nili)) none [] .fin))) (.cond (.t 12) (.seq (.plan (.st (some 13) (.mv (.t 4)) none [] (.st (some 14) (.mv (.t 0)) none [] (.st (some 15) (.mv (.t 5)) none [] (.st (some 16) (.call 83 [(.c (.str ⟨#[65, 116, 111, 105]⟩)), (.t 14), (.c (.int .i64 0)), (.c (.int .i64 0)), (.t 15)]) none [] (.st (some 2) (.mv (.t 13)) none [] (.st (some 3) (.mv (.t 16)) none [] .fin))))))) .ret) .skip)) (.seq (.plan (.st (some 17) (.mv (.t 4)) none [] (.st (some 2) (.mv (.t 17)) none [] (.st (some 3) (.mv (.c .nili)) none [] .fin)))) .ret)))), [(.t 2), (.t 3)]⟩
theorem h_strconv_Atoi : compF Tryd.prog 65 = some c_strconv_Atoi := by kernel_rfl
def c_impl_in : CF := ⟨15, (.seq (.plan (.st (some 6) (.mv (.c (.bool false))) none [] .fin)) (.seq (.plan (.st (some 7) (.mv (.t 1)) none [] (.st (some 8) (.mv (.t 0)) none [] (.st (some 9) (.bin .leq (.t 7) (.t 8)) none [] (.st (some 10) (.mv (.t 9)) none [] (.st (some 11) (.mv (.t 0)) (some (10, true)) [] (.st (some 12) (.mv (.t 2)) (some (10, true)) [] (.st (some 13) (.bin .leq (.t 11) (.t 12)) (some (10, true)) [] (.st (some 14) (.pick (.t 10) (.t 13) (.c (.bool false))) none [] (.st (some 6) (.mv (.t 14)) none [] .fin)))))))))) .ret)), [(.t 6)]⟩
theorem h_impl_in : compF Tryd.prog 44 = some c_impl_in := by kernel_rfl
def c_internal_strconv_Itoa : CF := ⟨5, (.seq (.plan (.st (some 2) (.mv (.c (.str ⟨#[]⟩))) none [] .fin)) (.seq (.plan (.st (some 3) (.mv (.t 0)) none [] (.st (some 4) (.call 85 [(.t 3), (.c (.int .i64 10))]) none [] (.st (some 2) (.mv (.t 4)) none [] .fin)))) .ret)), [(.t 2)]⟩
theorem h_internal_strconv_Itoa : compF Tryd.prog 67 = some c_internal_strconv_Itoa := by kernel_rfl
def c_strconv_Itoa : CF := ⟨5, (.seq (.plan (.st (some 2) (.mv (.c (.str ⟨#[]⟩))) none [] .fin)) (.seq (.plan (.st (some 3) (.mv (.t 0)) none [] (.st (some 4) (.call 67 [(.t 3)]) none [] (.st (some 2) (.mv (.t 4)) none [] .fin)))) .ret)), [(.t 2)]⟩
theorem h_strconv_Itoa : compF Tryd.prog 46 = some c_strconv_Itoa := by kernel_rfl
def c_impl_number : CF := ⟨24, (.seq (.plan (.st (some 2) (.mv (.c (.int .i64 0))) none [] .fin)) (.seq (.plan (.st (some 6) (.mv (.t 0)) none [] (.st (some 7) (.call 65 [(.t 6)]) none [] (.st (some 5) (.mv (.t 7)) none [] (.st (some 8) (.ext 0 (.t 5)) none [] (.st (some 9) (.ext 1 (.t 5)) none [] (.st (some 3) (.mv (.t 8)) none [] (.st (some 4) (.mv (.t 9)) none [] .fin)))))))) (.seq (.seq (.plan (.st (some 10) (.mv (.t 4)) none [] (.st (some 11) (.eqn 1 true (.t 10) (.c .nili)) none [] (.st (some 12) (.mv (.t 11)) none [] (.st (some 13) (.mv (.t 3)) (some (12, false)) [] (.st (some 14) (.call 44 [(.t 13), (.c (.int .i64 0)), (.c (.int .i64 999999))]) (some (12, false)) [] (.st (some 15) (.not (.t 14)) (some (12, false)) [] (.st (some 16) (.pick (.t 12) (.c (.bool true)) (.t 15)) none [] (.st (some 17) (.mv (.t 16)) none [] (.st (some 18) (.mv (.t 3)) (some (17, false)) [] (.st (some 19) (.call 46 [(.t 18)]) (some (17, false)) [] (.st (some 20) (.mv (.t 0)) (some (17, false)) [] (.st (some 21) (.bin .neq (.t 19) (.t 20)) (some (17, false)) [] (.st (some 22) (.pick (.t 17) (.c (.bool true)) (.t 21)) none [] .fin)))))))))))))) (.cond (.t 22) (.seq (.plan (.st (some 2) (.mv (.c (.int .i64 (-1)))) none [] .fin)) .ret) .skip)) (.seq (.plan (.st (some 23) (.mv (.t 3)) none [] (.st (some 2) (.mv (.t 23)) none [] .fin))) .ret)))), [(.t 2)]⟩
theorem h_impl_number : compF Tryd.prog 39 = some c_impl_number := by kernel_rfl
def c_impl_KeyOk : CF := ⟨23, (.seq (.plan (.st (some 2) (.mv (.c (.bool false))) none [] .fin)) (.seq (.seq (.plan (.st (some 4) (.mv (.t 0)) none [] (.st (some 5) (.lns (.t 4)) none [] (.st (some 6) (.mv (.c (.int .i64 0))) none [] .fin)))) (.block 0 (.loop (.seq (.plan (.st (some 7) (.bin .lss (.t 6) (.t 5)) none [] .fin)) (.seq (.cond (.t 7) .skip (.exit 0)) (.seq (.block 1 (.seq (.plan (.st (some 8) (.mv (.t 6)) none [] (.st (some 3) (.mv (.t 8)) none [] .fin))) (.seq (.plan (.st (some 9) (.mv (.t 0)) none [] (.st (some 10) (.mv (.t 3)) none [] (.st (some 11) (.ix (.t 9) (.t 10)) none [] (.st (some 12) (.bin .lss (.t 11) (.c (.int .u8 97))) none [] (.st (some 13) (.mv (.t 12)) none [] (.st (some 14) (.mv (.t 0)) (some (13, false)) [] (.st (some 15) (.mv (.t 3)) (some (13, false)) [] (.st (some 16) (.ix (.t 14) (.t 15)) (some (13, false)) [] (.st (some 17) (.bin .gtr (.t 16) (.c (.int .u8 100))) (some (13, false)) [] (.st (some 18) (.pick (.t 13) (.c (.bool true)) (.t 17)) none [] .fin))))))))))) (.cond (.t 18) (.seq (.plan (.st (some 2) (.mv (.c (.bool false))) none [] .fin)) .ret) .skip)))) (.plan (.st (some 19) (.bin .add (.t 6) (.c (.int .i64 1))) none [] (.st (some 6) (.mv (.t 19)) none [] .fin))))))))) (.seq (.plan (.st (some 20) (.mv (.t 0)) none [] (.st (some 21) (.lns (.t 20)) none [] (.st (some 22) (.bin .leq (.t 21) (.c (.int .i64 5))) none [] (.st (some 2) (.mv (.t 22)) none [] .fin))))) .ret))), [(.t 2)]⟩
theorem h_impl_KeyOk : compF Tryd.prog 45 = some c_impl_KeyOk := by kernel_rfl
def c_impl_DeedText : CF := ⟨65, (.seq (.plan (.st (some 1) (.box 23 3 (.t 0)) none [] (.st (some 2) (.mv (.c (.str ⟨#[]⟩))) none [] .fin))) (.seq (.seq (.plan (.st (some 4) (.fa 0 (.t 1)) none [] (.st (some 5) (.ld (.t 4)) none [] (.st (some 6) (.call 44 [(.t 5), (.c (.int .i64 1)), (.c (.int .i64 6))]) none [] (.st (some 7) (.not (.t 6)) none [] (.st (some 8) (.mv (.t 7)) none [] (.st (some 9) (.fa 1 (.t 1)) (some (8, false)) [] (.st (some 10) (.ld (.t 9)) (some (8, false)) [] (.st (some 11) (.call 45 [(.t 10)]) (some (8, false)) [] (.st (some 12) (.not (.t 11)) (some (8, false)) [] (.st (some 13) (.pick (.t 8) (.c (.bool true)) (.t 12)) none [] (.st (some 14) (.mv (.t 13)) none [] (.st (some 15) (.fa 2 (.t 1)) (some (14, false)) [] (.st (some 16) (.ld (.t 15)) (some (14, false)) [] (.st (some 17) (.call 44 [(.t 16), (.c (.int .i64 0)), (.c (.int .i64 999))]) (some (14, false)) [] (.st (some 18) (.not (.t 17)) (some (14, false)) [] (.st (some 19) (.pick (.t 14) (.c (.bool true)) (.t 18)) none [] (.st (some 20) (.mv (.t 19)) none [] (.st (some 21) (.fa 0 (.t 1)) (some (20, false)) [] (.st (some 22) (.ld (.t 21)) (some (20, false)) [] (.st (some 23) (.call 36 [(.t 22)]) (some (20, false)) [] (.st (some 24) (.not (.t 23)) (some (20, false)) [] (.st (some 25) (.mv (.t 24)) (some (20, false)) [] (.st (some 26) (.fa 1 (.t 1)) (some (25, true)) [] (.st (some 27) (.ld (.t 26)) (some (25, true)) [] (.st (some 28) (.bin .neq (.t 27) (.c (.str ⟨#[]⟩))) (some (25, true)) [] (.st (some 29) (.pick (.t 25) (.t 28) (.c (.bool false))) (some (20, false)) [] (.st (some 30) (.pick (.t 20) (.c (.bool true)) (.t 29)) none [] (.st (some 31) (.mv (.t 30)) none [] (.st (some 32) (.fa 0 (.t 1)) (some (31, false)) [] (.st (some 33) (.ld (.t 32)) (some (31, false)) [] (.st (some 34) (.call 38 [(.t 33)]) (some (31, false)) [] (.st (some 35) (.not (.t 34)) (some (31, false)) [] (.st (some 36) (.mv (.t 35)) (some (31, false)) [] (.st (some 37) (.fa 2 (.t 1)) (some (36, true)) [] (.st (some 38) (.ld (.t 37)) (some (36, true)) [] (.st (some 39) (.bin .neq (.t 38) (.c (.int .i64 0))) (some (36, true)) [] (.st (some 40) (.pick (.t 36) (.t 39) (.c (.bool false))) (some (31, false)) [] (.st (some 41) (.pick (.t 31) (.c (.bool true)) (.t 40)) none [] .fin))))))))))))))))))))))))))))))))))))))) (.cond (.t 41) (.seq (.plan (.st (some 2) (.mv (.c (.str ⟨#[]⟩))) none [] .fin)) .ret) .skip)) (.seq (.plan (.st (some 43) (.fa 0 (.t 1)) none [] (.st (some 44) (.ld (.t 43)) none [] (.st (some 42) (.call 35 []) none [((some 44), ((.ld (.t 43)), none))] (.st (some 45) (.ia 1 (.t 42) (.t 44)) none [] (.st (some 46) (.ld (.t 45)) none [] (.st (some 3) (.mv (.t 46)) none [] .fin))))))) (.seq (.seq (.plan (.st (some 47) (.fa 0 (.t 1)) none [] (.st (some 48) (.ld (.t 47)) none [] (.st (some 49) (.call 36 [(.t 48)]) none [] .fin)))) (.cond (.t 49) (.plan (.st (some 50) (.mv (.t 3)) none [] (.st (some 51) (.fa 1 (.t 1)) none [] (.st (some 52) (.ld (.t 51)) none [] (.st (some 53) (.bin .add (.c (.str ⟨#[32, 46]⟩)) (.t 52)) none [] (.st (some 54) (.bin .add (.t 50) (.t 53)) none [] (.st (some 3) (.mv (.t 54)) none [] .fin))))))) .skip)) (.seq (.seq (.plan (.st (some 55) (.fa 0 (.t 1)) none [] (.st (some 56) (.ld (.t 55)) none [] (.st (some 57) (.call 38 [(.t 56)]) none [] .fin)))) (.cond (.t 57) (.plan (.st (some 58) (.mv (.t 3)) none [] (.st (some 59) (.fa 2 (.t 1)) none [] (.st (some 60) (.ld (.t 59)) none [] (.st (some 61) (.call 46 [(.t 60)]) none [] (.st (some 62) (.bin .add (.c (.str ⟨#[32]⟩)) (.t 61)) none [] (.st (some 63) (.bin .add (.t 58) (.t 62)) none [] (.st (some 3) (.mv (.t 63)) none [] .fin)))))))) .skip)) (.seq (.plan (.st (some 64) (.mv (.t 3)) none [] (.st (some 2) (.mv (.t 64)) none [] .fin))) .ret)))))), [(.t 2)]⟩
theorem h_impl_DeedText : compF Tryd.prog 16 = some c_impl_DeedText := by kernel_rfl
def c_impl_DeedRead : CF := ⟨70, (.seq (.plan (.st (some 2) (.alloc 23 [(.int .i64 0), (.str ⟨#[]⟩), (.int .i64 0)]) none [] (.st (some 3) (.mv (.c (.bool false))) none [] .fin))) (.seq (.plan (.st (some 9) (.mv (.t 0)) none [] (.st (some 10) (.call 34 [(.t 9), (.c (.str ⟨#[32]⟩))]) none [] (.st (some 4) (.mv (.t 10)) none [] .fin)))) (.seq (.seq (.plan (.st (some 11) (.mv (.t 0)) none [] (.st (some 12) (.bin .eql (.t 11) (.c (.str ⟨#[]⟩))) none [] (.st (some 13) (.mv (.t 12)) none [] (.st (some 14) (.mv (.t 0)) (some (13, false)) [] (.st (some 15) (.lns (.t 14)) (some (13, false)) [] (.st (some 16) (.bin .gtr (.t 15) (.c (.int .i64 40))) (some (13, false)) [] (.st (some 17) (.pick (.t 13) (.c (.bool true)) (.t 16)) none [] .fin)))))))) (.cond (.t 17) (.seq (.plan (.st (some 18) (.build [(.int .i64 0), (.str ⟨#[]⟩), (.int .i64 0)] []) none [] (.st none (.st 3 (.t 2) (.t 18)) none [] (.st (some 3) (.mv (.c (.bool false))) none [] .fin)))) .ret) .skip)) (.seq (.plan (.st (some 5) (.alloc 23 [(.int .i64 0), (.str ⟨#[]⟩), (.int .i64 0)]) none [] .fin)) (.seq (.seq (.plan (.st (some 19) (.call 35 []) none [] (.st (some 20) (.len (.t 19)) none [] (.st (some 21) (.mv (.c (.int .i64 0))) none [] .fin)))) (.block 0 (.loop (.seq (.plan (.st (some 22) (.bin .lss (.t 21) (.t 20)) none [] .fin)) (.seq (.cond (.t 22) .skip (.exit 0)) (.seq (.block 1 (.seq (.plan (.st (some 23) (.mv (.t 21)) none [] (.st (some 24) (.ia 1 (.t 19) (.t 21)) none [] (.st (some 25) (.ld (.t 24)) none [] (.st (some 6) (.mv (.t 23)) none [] (.st (some 7) (.mv (.t 25)) none [] .fin)))))) (.seq (.plan (.st (some 26) (.mv (.t 7)) none [] (.st (some 27) (.mv (.t 4)) none [] (.st (some 28) (.ia 1 (.t 27) (.c (.int .i64 0))) none [] (.st (some 29) (.ld (.t 28)) none [] (.st (some 30) (.bin .eql (.t 26) (.t 29)) none [] .fin)))))) (.cond (.t 30) (.plan (.st (some 31) (.mv (.t 6)) none [] (.st (some 32) (.fa 0 (.t 5)) none [] (.st none (.st 1 (.t 32) (.t 31)) none [] .fin)))) .skip)))) (.plan (.st (some 33) (.bin .add (.t 21) (.c (.int .i64 1))) none [] (.st (some 21) (.mv (.t 33)) none [] .fin))))))))) (.seq (.plan (.st (some 34) (.mv (.t 4)) none [] (.st (some 35) (.cut 1 (.t 34) (some (.c (.int .i64 1))) none) none [] (.st (some 8) (.mv (.t 35)) none [] .fin)))) (.seq (.seq (.plan (.st (some 36) (.fa 0 (.t 5)) none [] (.st (some 37) (.ld (.t 36)) none [] (.st (some 38) (.call 36 [(.t 37)]) none [] (.st (some 39) (.mv (.t 38)) none [] (.st (some 40) (.mv (.t 8)) (some (39, true)) [] (.st (some 41) (.len (.t 40)) (some (39, true)) [] (.st (some 42) (.bin .gtr (.t 41) (.c (.int .i64 0))) (some (39, true)) [] (.st (some 43) (.pick (.t 39) (.t 42) (.c (.bool false))) none [] .fin))))))))) (.cond (.t 43) (.seq (.plan (.st (some 44) (.mv (.t 8)) none [] (.st (some 45) (.ia 1 (.t 44) (.c (.int .i64 0))) none [] (.st (some 46) (.ld (.t 45)) none [] (.st (some 47) (.call 37 [(.t 46), (.c (.str ⟨#[46]⟩))]) none [] (.st (some 48) (.fa 1 (.t 5)) none [] (.st none (.st 1 (.t 48) (.t 47)) none [] .fin))))))) (.plan (.st (some 49) (.mv (.t 8)) none [] (.st (some 50) (.cut 1 (.t 49) (some (.c (.int .i64 1))) none) none [] (.st (some 8) (.mv (.t 50)) none [] .fin))))) .skip)) (.seq (.seq (.plan (.st (some 51) (.fa 0 (.t 5)) none [] (.st (some 52) (.ld (.t 51)) none [] (.st (some 53) (.call 38 [(.t 52)]) none [] (.st (some 54) (.mv (.t 53)) none [] (.st (some 55) (.mv (.t 8)) (some (54, true)) [] (.st (some 56) (.len (.t 55)) (some (54, true)) [] (.st (some 57) (.bin .gtr (.t 56) (.c (.int .i64 0))) (some (54, true)) [] (.st (some 58) (.pick (.t 54) (.t 57) (.c (.bool false))) none [] .fin))))))))) (.cond (.t 58) (.plan (.st (some 59) (.mv (.t 8)) none [] (.st (some 60) (.ia 1 (.t 59) (.c (.int .i64 0))) none [] (.st (some 61) (.ld (.t 60)) none [] (.st (some 62) (.call 39 [(.t 61)]) none [] (.st (some 63) (.fa 2 (.t 5)) none [] (.st none (.st 1 (.t 63) (.t 62)) none [] .fin))))))) .skip)) (.seq (.seq (.plan (.st (some 64) (.lda 3 (.t 5)) none [] (.st (some 65) (.call 16 [(.t 64)]) none [] (.st (some 66) (.mv (.t 0)) none [] (.st (some 67) (.bin .neq (.t 65) (.t 66)) none [] .fin))))) (.cond (.t 67) (.seq (.plan (.st (some 68) (.build [(.int .i64 0), (.str ⟨#[]⟩), (.int .i64 0)] []) none [] (.st none (.st 3 (.t 2) (.t 68)) none [] (.st (some 3) (.mv (.c (.bool false))) none [] .fin)))) .ret) .skip)) (.seq (.plan (.st (some 69) (.lda 3 (.t 5)) none [] (.st none (.st 3 (.t 2) (.t 69)) none [] (.st (some 3) (.mv (.c (.bool true))) none [] .fin)))) .ret)))))))))), [(.ca 2 3), (.t 3)]⟩
theorem h_impl_DeedRead : compF Tryd.prog 13 = some c_impl_DeedRead := by kernel_rfl
def c_laws_eqDeed : CF := ⟨20, (.seq (.plan (.st (some 2) (.box 23 3 (.t 0)) none [] (.st (some 3) (.box 23 3 (.t 1)) none [] (.st (some 4) (.mv (.c (.bool false))) none [] .fin)))) (.seq (.seq (.plan (.st (some 5) (.fa 0 (.t 2)) none [] (.st (some 6) (.ld (.t 5)) none [] (.st (some 7) (.fa 0 (.t 3)) none [] (.st (some 8) (.ld (.t 7)) none [] (.st (some 9) (.bin .neq (.t 6) (.t 8)) none [] .fin)))))) (.cond (.t 9) (.seq (.plan (.st (some 4) (.mv (.c (.bool false))) none [] .fin)) .ret) .skip)) (.seq (.seq (.plan (.st (some 10) (.fa 1 (.t 2)) none [] (.st (some 11) (.ld (.t 10)) none [] (.st (some 12) (.fa 1 (.t 3)) none [] (.st (some 13) (.ld (.t 12)) none [] (.st (some 14) (.bin .neq (.t 11) (.t 13)) none [] .fin)))))) (.cond (.t 14) (.seq (.plan (.st (some 4) (.mv (.c (.bool false))) none [] .fin)) .ret) .skip)) (.seq (.seq (.plan (.st (some 15) (.fa 2 (.t 2)) none [] (.st (some 16) (.ld (.t 15)) none [] (.st (some 17) (.fa 2 (.t 3)) none [] (.st (some 18) (.ld (.t 17)) none [] (.st (some 19) (.bin .neq (.t 16) (.t 18)) none [] .fin)))))) (.cond (.t 19) (.seq (.plan (.st (some 4) (.mv (.c (.bool false))) none [] .fin)) .ret) .skip)) (.seq (.plan (.st (some 4) (.mv (.c (.bool true))) none [] .fin)) .ret))))), [(.t 4)]⟩
theorem h_laws_eqDeed : compF Tryd.prog 14 = some c_laws_eqDeed := by kernel_rfl
def c_laws_FnExactDeedRead : CF := ⟨29, (.seq (.plan (.st (some 2) (.mv (.c (.bool false))) none [] .fin)) (.seq (.seq (.plan (.st (some 7) (.mv (.t 0)) none [] (.st (some 8) (.lns (.t 7)) none [] (.st (some 9) (.bin .gtr (.t 8) (.c (.int .i64 1048576))) none [] .fin)))) (.cond (.t 9) (.seq (.plan (.st (some 2) (.mv (.c (.bool true))) none [] .fin)) .ret) .skip)) (.seq (.plan (.st (some 11) (.mv (.t 0)) none [] (.st (some 12) (.call 12 [(.t 11)]) none [] (.st (some 10) (.mv (.t 12)) none [] (.st (some 13) (.ext 0 (.t 10)) none [] (.st (some 14) (.ext 1 (.t 10)) none [] (.st (some 3) (.alloc 23 [(.int .i64 0), (.str ⟨#[]⟩), (.int .i64 0)]) none [] (.st none (.st 3 (.t 3) (.t 13)) none [] (.st (some 4) (.mv (.t 14)) none [] .fin))))))))) (.seq (.plan (.st (some 16) (.mv (.t 0)) none [] (.st (some 17) (.call 13 [(.t 16)]) none [] (.st (some 15) (.mv (.t 17)) none [] (.st (some 18) (.ext 0 (.t 15)) none [] (.st (some 19) (.ext 1 (.t 15)) none [] (.st (some 5) (.alloc 23 [(.int .i64 0), (.str ⟨#[]⟩), (.int .i64 0)]) none [] (.st none (.st 3 (.t 5) (.t 18)) none [] (.st (some 6) (.mv (.t 19)) none [] .fin))))))))) (.seq (.seq (.plan (.st (some 20) (.lda 3 (.t 5)) none [] (.st (some 21) (.lda 3 (.t 3)) none [] (.st (some 22) (.call 14 [(.t 20), (.t 21)]) none [] (.st (some 23) (.not (.t 22)) none [] (.st (some 24) (.mv (.t 23)) none [] (.st (some 25) (.mv (.t 6)) (some (24, false)) [] (.st (some 26) (.mv (.t 4)) (some (24, false)) [] (.st (some 27) (.eqb true (.t 25) (.t 26)) (some (24, false)) [] (.st (some 28) (.pick (.t 24) (.c (.bool true)) (.t 27)) none [] .fin)))))))))) (.cond (.t 28) (.seq (.plan (.st (some 2) (.mv (.c (.bool false))) none [] .fin)) .ret) .skip)) (.seq (.plan (.st (some 2) (.mv (.c (.bool true))) none [] .fin)) .ret)))))), [(.t 2)]⟩
theorem h_laws_FnExactDeedRead : compF Tryd.prog 3 = some c_laws_FnExactDeedRead := by kernel_rfl
def c_spec_l6Open : CF := ⟨11, (.seq (.plan (.st (some 2) (.mv (.c .nilp)) none [] .fin)) (.seq (.seq (.plan (.st (some 3) (.mv (.t 0)) none [] (.st (some 4) (.len (.t 3)) none [] (.st (some 5) (.bin .gtr (.t 4) (.c (.int .i64 2000))) none [] .fin)))) (.cond (.t 5) (.plan (.st (some 6) (.mv (.t 0)) none [] (.st (some 7) (.cut 1 (.t 6) none (some (.c (.int .i64 2000)))) none [] (.st (some 0) (.mv (.t 7)) none [] .fin)))) .skip)) (.seq (.plan (.st (some 8) (.mv (.t 0)) none [] (.st (some 9) (.build [.nils, (.int .i64 0)] [(0, (1, (.t 8)))]) none [] (.st (some 10) (.box 74 2 (.t 9)) none [] (.st (some 2) (.mv (.t 10)) none [] .fin))))) .ret))), [(.t 2)]⟩
theorem h_spec_l6Open : compF Tryd.prog 40 = some c_spec_l6Open := by kernel_rfl
def c_spec_l6Rd_pick : CF := ⟨99, (.seq (.plan (.st (some 4) (.mv (.c (.int .i64 0))) none [] .fin)) (.seq (.plan (.st (some 7) (.mv (.t 0)) none [] (.st (some 8) (.mv (.t 0)) none [] (.st (some 9) (.nck (.t 8)) none [] (.st (some 10) (.fa 1 (.t 9)) none [] (.st (some 11) (.ld (.t 10)) none [] (.st (some 12) (.bin .add (.t 11) (.c (.int .i64 1))) none [] (.st (some 13) (.nck (.t 7)) none [] (.st (some 14) (.fa 1 (.t 13)) none [] (.st none (.st 1 (.t 14) (.t 12)) none [] .fin)))))))))) (.seq (.seq (.plan (.st (some 15) (.mv (.t 1)) none [] (.st (some 16) (.bin .lss (.t 15) (.c (.int .i64 1))) none [] (.st (some 17) (.mv (.t 16)) none [] (.st (some 18) (.mv (.t 0)) (some (17, false)) [] (.st (some 19) (.nck (.t 18)) (some (17, false)) [] (.st (some 20) (.fa 0 (.t 19)) (some (17, false)) [] (.st (some 21) (.ld (.t 20)) (some (17, false)) [] (.st (some 22) (.len (.t 21)) (some (17, false)) [] (.st (some 23) (.bin .eql (.t 22) (.c (.int .i64 0))) (some (17, false)) [] (.st (some 24) (.pick (.t 17) (.c (.bool true)) (.t 23)) none [] .fin))))))))))) (.cond (.t 24) (.seq (.plan (.st (some 4) (.mv (.c (.int .i64 0))) none [] .fin)) .ret) .skip)) (.seq (.plan (.st (some 25) (.mv (.t 0)) none [] (.st (some 26) (.nck (.t 25)) none [] (.st (some 27) (.fa 1 (.t 26)) none [] (.st (some 28) (.ld (.t 27)) none [] (.st (some 29) (.bin .sub (.t 28) (.c (.int .i64 1))) none [] (.st (some 5) (.mv (.t 29)) none [] .fin))))))) (.seq (.seq (.plan (.st (some 30) (.mv (.t 5)) none [] (.st (some 31) (.mv (.t 0)) none [] (.st (some 32) (.nck (.t 31)) none [] (.st (some 33) (.fa 0 (.t 32)) none [] (.st (some 34) (.ld (.t 33)) none [] (.st (some 35) (.len (.t 34)) none [] (.st (some 36) (.bin .lss (.t 30) (.t 35)) none [] .fin)))))))) (.cond (.t 36) (.seq (.plan (.st (some 37) (.mv (.t 0)) none [] (.st (some 38) (.nck (.t 37)) none [] (.st (some 39) (.fa 0 (.t 38)) none [] (.st (some 40) (.ld (.t 39)) none [] (.st (some 41) (.mv (.t 5)) none [] (.st (some 42) (.ia 1 (.t 40) (.t 41)) none [] (.st (some 43) (.ld (.t 42)) none [] (.st (some 44) (.cv .i64 (.t 43)) none [] (.st (some 45) (.mv (.t 1)) none [] (.st (some 46) (.bin .rem (.t 44) (.t 45)) none [] (.st (some 4) (.mv (.t 46)) none [] .fin)))))))))))) .ret) .skip)) (.seq (.plan (.st (some 47) (.mv (.t 0)) none [] (.st (some 48) (.nck (.t 47)) none [] (.st (some 49) (.fa 0 (.t 48)) none [] (.st (some 50) (.ld (.t 49)) none [] (.st (some 51) (.mv (.t 5)) none [] (.st (some 52) (.mv (.t 0)) none [] (.st (some 53) (.nck (.t 52)) none [] (.st (some 54) (.fa 0 (.t 53)) none [] (.st (some 55) (.ld (.t 54)) none [] (.st (some 56) (.len (.t 55)) none [] (.st (some 57) (.bin .rem (.t 51) (.t 56)) none [] (.st (some 58) (.ia 1 (.t 50) (.t 57)) none [] (.st (some 59) (.ld (.t 58)) none [] (.st (some 60) (.cv .i64 (.t 59)) none [] (.st (some 61) (.bin .mul (.t 60) (.c (.int .i64 131))) none [] (.st (some 62) (.mv (.t 0)) none [] (.st (some 63) (.nck (.t 62)) none [] (.st (some 64) (.fa 0 (.t 63)) none [] (.st (some 65) (.ld (.t 64)) none [] (.st (some 66) (.mv (.t 5)) none [] (.st (some 67) (.bin .mul (.t 66) (.c (.int .i64 7))) none [] (.st (some 68) (.bin .add (.t 67) (.c (.int .i64 3))) none [] (.st (some 69) (.mv (.t 0)) none [] (.st (some 70) (.nck (.t 69)) none [] (.st (some 71) (.fa 0 (.t 70)) none [] (.st (some 72) (.ld (.t 71)) none [] (.st (some 73) (.len (.t 72)) none [] (.st (some 74) (.bin .rem (.t 68) (.t 73)) none [] (.st (some 75) (.ia 1 (.t 65) (.t 74)) none [] (.st (some 76) (.ld (.t 75)) none [] (.st (some 77) (.cv .i64 (.t 76)) none [] (.st (some 78) (.bin .mul (.t 77) (.c (.int .i64 1117))) none [] (.st (some 79) (.bin .add (.t 61) (.t 78)) none [] (.st (some 80) (.mv (.t 5)) none [] (.st (some 81) (.bin .mul (.t 80) (.c (.int .i64 29))) none [] (.st (some 82) (.bin .add (.t 79) (.t 81)) none [] (.st (some 83) (.mv (.t 5)) none [] (.st (some 84) (.mv (.t 0)) none [] (.st (some 85) (.nck (.t 84)) none [] (.st (some 86) (.fa 0 (.t 85)) none [] (.st (some 87) (.ld (.t 86)) none [] (.st (some 88) (.len (.t 87)) none [] (.st (some 89) (.bin .quo (.t 83) (.t 88)) none [] (.st (some 90) (.bin .mul (.t 89) (.c (.int .i64 53))) none [] (.st (some 91) (.bin .add (.t 82) (.t 90)) none [] (.st (some 6) (.mv (.t 91)) none [] .fin))))))))))))))))))))))))))))))))))))))))))))))) (.seq (.plan (.st (some 92) (.mv (.t 6)) none [] (.st (some 93) (.mv (.t 6)) none [] (.st (some 94) (.bin .quo (.t 93) (.c (.int .i64 64))) none [] (.st (some 95) (.bin .xor (.t 92) (.t 94)) none [] (.st (some 6) (.mv (.t 95)) none [] .fin)))))) (.seq (.plan (.st (some 96) (.mv (.t 6)) none [] (.st (some 97) (.mv (.t 1)) none [] (.st (some 98) (.bin .rem (.t 96) (.t 97)) none [] (.st (some 4) (.mv (.t 98)) none [] .fin))))) .ret)))))))), [(.t 4)]⟩
theorem h_spec_l6Rd_pick : compF Tryd.prog 42 = some c_spec_l6Rd_pick := by kernel_rfl
def c_spec_l6Rd_of : CF := ⟨12, (.seq (.plan (.st (some 4) (.mv (.c (.str ⟨#[]⟩))) none [] .fin)) (.seq (.plan (.st (some 5) (.mv (.t 1)) none [] (.st (some 6) (.mv (.t 0)) none [] (.st (some 7) (.mv (.t 1)) none [] (.st (some 8) (.len (.t 7)) none [] (.st (some 9) (.call 42 [(.t 6), (.t 8)]) none [] (.st (some 10) (.ia 1 (.t 5) (.t 9)) none [] (.st (some 11) (.ld (.t 10)) none [] (.st (some 4) (.mv (.t 11)) none [] .fin))))))))) .ret)), [(.t 4)]⟩
theorem h_spec_l6Rd_of : compF Tryd.prog 43 = some c_spec_l6Rd_of := by kernel_rfl
def c_spec_l71Key : CF := ⟨17, (.seq (.plan (.st (some 2) (.mv (.c (.str ⟨#[]⟩))) none [] .fin)) (.seq (.plan (.st (some 3) (.mv (.c (.str ⟨#[]⟩))) none [] .fin)) (.seq (.seq (.plan (.st (some 5) (.mv (.t 0)) none [] (.st (some 6) (.call 42 [(.t 5), (.c (.int .i64 6))]) none [] (.st (some 4) (.mv (.t 6)) none [] .fin)))) (.block 0 (.loop (.seq (.seq (.plan (.st (some 7) (.mv (.t 4)) none [] (.st (some 8) (.bin .gtr (.t 7) (.c (.int .i64 0))) none [] .fin))) (.cond (.t 8) .skip (.exit 0))) (.seq (.block 1 (.plan (.st (some 11) (.mv (.t 3)) none [] (.st (some 12) (.mv (.t 0)) none [] (.st (some 13) (.lit 9 1 5 [(.str ⟨#[]⟩), (.str ⟨#[]⟩), (.str ⟨#[]⟩), (.str ⟨#[]⟩), (.str ⟨#[]⟩)] [(0, (1, (.c (.str ⟨#[97]⟩)))), (1, (1, (.c (.str ⟨#[98]⟩)))), (2, (1, (.c (.str ⟨#[97]⟩)))), (3, (1, (.c (.str ⟨#[99]⟩)))), (4, (1, (.c (.str ⟨#[100]⟩))))]) none [] (.st (some 14) (.call 43 [(.t 12), (.t 13)]) none [] (.st (some 15) (.bin .add (.t 11) (.t 14)) none [] (.st (some 3) (.mv (.t 15)) none [] .fin)))))))) (.plan (.st (some 9) (.mv (.t 4)) none [] (.st (some 10) (.bin .sub (.t 9) (.c (.int .i64 1))) none [] (.st (some 4) (.mv (.t 10)) none [] .fin))))))))) (.seq (.plan (.st (some 16) (.mv (.t 3)) none [] (.st (some 2) (.mv (.t 16)) none [] .fin))) .ret)))), [(.t 2)]⟩
theorem h_spec_l71Key : compF Tryd.prog 84 = some c_spec_l71Key := by kernel_rfl
def c_spec_l71Near : CF := ⟨45, (.seq (.plan (.st (some 4) (.mv (.c (.str ⟨#[]⟩))) none [] .fin)) (.seq (.seq (.plan (.st (some 6) (.mv (.t 1)) none [] (.st (some 7) (.len (.t 6)) none [] (.st (some 8) (.bin .eql (.t 7) (.c (.int .i64 0))) none [] (.st (some 9) (.mv (.t 8)) none [] (.st (some 10) (.mv (.t 0)) (some (9, false)) [] (.st (some 11) (.call 42 [(.t 10), (.c (.int .i64 4))]) (some (9, false)) [] (.st (some 12) (.bin .eql (.t 11) (.c (.int .i64 0))) (some (9, false)) [] (.st (some 13) (.pick (.t 9) (.c (.bool true)) (.t 12)) none [] .fin))))))))) (.cond (.t 13) (.seq (.plan (.st (some 14) (.mv (.t 0)) none [] (.st (some 15) (.call 84 [(.t 14)]) none [] (.st (some 4) (.mv (.t 15)) none [] .fin)))) .ret) .skip)) (.seq (.plan (.st (some 16) (.mv (.t 1)) none [] (.st (some 17) (.mv (.t 0)) none [] (.st (some 18) (.mv (.t 1)) none [] (.st (some 19) (.len (.t 18)) none [] (.st (some 20) (.call 42 [(.t 17), (.t 19)]) none [] (.st (some 21) (.ia 1 (.t 16) (.t 20)) none [] (.st (some 22) (.ld (.t 21)) none [] (.st (some 5) (.mv (.t 22)) none [] .fin))))))))) (.seq (.seq (.plan (.st (some 23) (.mv (.t 0)) none [] (.st (some 24) (.call 42 [(.t 23), (.c (.int .i64 4))]) none [] .fin))) (.block 0 (.seq (.plan (.st (some 26) (.bin .eql (.t 24) (.c (.int .i64 0))) none [] (.st (some 25) (.mv (.t 26)) none [] .fin))) (.cond (.t 25) (.seq (.plan (.st (some 27) (.mv (.t 5)) none [] (.st (some 28) (.mv (.t 0)) none [] (.st (some 29) (.mv (.t 5)) none [] (.st (some 30) (.lns (.t 29)) none [] (.st (some 31) (.bin .add (.t 30) (.c (.int .i64 1))) none [] (.st (some 32) (.call 42 [(.t 28), (.t 31)]) none [] (.st (some 33) (.cuts (.t 27) none (some (.t 32))) none [] (.st (some 4) (.mv (.t 33)) none [] .fin))))))))) .ret) (.seq (.plan (.st (some 35) (.bin .eql (.t 24) (.c (.int .i64 1))) none [] (.st (some 34) (.mv (.t 35)) none [] .fin))) (.cond (.t 34) (.seq (.plan (.st (some 36) (.mv (.t 5)) none [] (.st (some 37) (.lns (.t 36)) none [] (.st (some 38) (.bin .lss (.t 37) (.c (.int .i64 5))) none [] .fin)))) (.cond (.t 38) (.seq (.plan (.st (some 39) (.mv (.t 5)) none [] (.st (some 40) (.mv (.t 0)) none [] (.st (some 41) (.lit 9 1 3 [(.str ⟨#[]⟩), (.str ⟨#[]⟩), (.str ⟨#[]⟩)] [(0, (1, (.c (.str ⟨#[97]⟩)))), (1, (1, (.c (.str ⟨#[98]⟩)))), (2, (1, (.c (.str ⟨#[100]⟩))))]) none [] (.st (some 42) (.call 43 [(.t 40), (.t 41)]) none [] (.st (some 43) (.bin .add (.t 39) (.t 42)) none [] (.st (some 4) (.mv (.t 43)) none [] .fin))))))) .ret) .skip)) .skip)))))) (.seq (.plan (.st (some 44) (.mv (.t 5)) none [] (.st (some 4) (.mv (.t 44)) none [] .fin))) .ret))))), [(.t 4)]⟩
theorem h_spec_l71Near : compF Tryd.prog 66 = some c_spec_l71Near := by kernel_rfl
def c_spec_l71Deed : CF := ⟨39, (.seq (.plan (.st (some 4) (.alloc 23 [(.int .i64 0), (.str ⟨#[]⟩), (.int .i64 0)]) none [] .fin)) (.seq (.seq (.plan (.st (some 5) (.mv (.t 0)) none [] (.st (some 6) (.call 42 [(.t 5), (.c (.int .i64 10))]) none [] .fin))) (.block 0 (.seq (.seq (.plan (.st (some 8) (.bin .eql (.t 6) (.c (.int .i64 0))) none [] (.st (some 7) (.mv (.t 8)) none [] .fin))) (.cond (.t 7) .skip (.seq (.plan (.st (some 9) (.bin .eql (.t 6) (.c (.int .i64 1))) none [] (.st (some 7) (.mv (.t 9)) none [] .fin))) (.cond (.t 7) .skip (.seq (.plan (.st (some 10) (.bin .eql (.t 6) (.c (.int .i64 2))) none [] (.st (some 7) (.mv (.t 10)) none [] .fin))) (.cond (.t 7) .skip (.seq (.plan (.st (some 11) (.bin .eql (.t 6) (.c (.int .i64 3))) none [] (.st (some 7) (.mv (.t 11)) none [] .fin))) (.cond (.t 7) .skip (.plan (.st (some 12) (.bin .eql (.t 6) (.c (.int .i64 4))) none [] (.st (some 7) (.mv (.t 12)) none [] .fin))))))))))) (.cond (.t 7) (.seq (.plan (.st (some 13) (.mv (.t 0)) none [] (.st (some 14) (.mv (.t 1)) none [] (.st (some 15) (.call 66 [(.t 13), (.t 14)]) none [] (.st (some 16) (.mv (.t 0)) none [] (.st (some 17) (.call 42 [(.t 16), (.c (.int .i64 100))]) none [] (.st (some 18) (.build [(.int .i64 0), (.str ⟨#[]⟩), (.int .i64 0)] [(0, (1, (.c (.int .i64 1)))), (1, (1, (.t 15))), (2, (1, (.t 17)))]) none [] (.st none (.st 3 (.t 4) (.t 18)) none [] .fin)))))))) .ret) (.seq (.plan (.st (some 20) (.bin .eql (.t 6) (.c (.int .i64 5))) none [] (.st (some 19) (.mv (.t 20)) none [] .fin))) (.cond (.t 19) (.seq (.plan (.st (some 21) (.mv (.t 0)) none [] (.st (some 22) (.mv (.t 1)) none [] (.st (some 23) (.call 66 [(.t 21), (.t 22)]) none [] (.st (some 24) (.build [(.int .i64 0), (.str ⟨#[]⟩), (.int .i64 0)] [(0, (1, (.c (.int .i64 2)))), (1, (1, (.t 23)))]) none [] (.st none (.st 3 (.t 4) (.t 24)) none [] .fin)))))) .ret) (.seq (.plan (.st (some 26) (.bin .eql (.t 6) (.c (.int .i64 6))) none [] (.st (some 25) (.mv (.t 26)) none [] .fin))) (.cond (.t 25) (.seq (.plan (.st (some 27) (.build [(.int .i64 0), (.str ⟨#[]⟩), (.int .i64 0)] [(0, (1, (.c (.int .i64 3))))]) none [] (.st none (.st 3 (.t 4) (.t 27)) none [] .fin))) .ret) (.seq (.plan (.st (some 29) (.bin .eql (.t 6) (.c (.int .i64 7))) none [] (.st (some 28) (.mv (.t 29)) none [] .fin))) (.cond (.t 28) (.seq (.plan (.st (some 30) (.mv (.t 0)) none [] (.st (some 31) (.call 42 [(.t 30), (.c (.int .i64 20))]) none [] (.st (some 32) (.build [(.int .i64 0), (.str ⟨#[]⟩), (.int .i64 0)] [(0, (1, (.c (.int .i64 4)))), (2, (1, (.t 31)))]) none [] (.st none (.st 3 (.t 4) (.t 32)) none [] .fin))))) .ret) (.seq (.plan (.st (some 34) (.bin .eql (.t 6) (.c (.int .i64 8))) none [] (.st (some 33) (.mv (.t 34)) none [] .fin))) (.cond (.t 33) (.seq (.plan (.st (some 35) (.build [(.int .i64 0), (.str ⟨#[]⟩), (.int .i64 0)] [(0, (1, (.c (.int .i64 5))))]) none [] (.st none (.st 3 (.t 4) (.t 35)) none [] .fin))) .ret) .skip)))))))))))) (.seq (.plan (.st (some 36) (.mv (.t 0)) none [] (.st (some 37) (.call 42 [(.t 36), (.c (.int .i64 3))]) none [] (.st (some 38) (.build [(.int .i64 0), (.str ⟨#[]⟩), (.int .i64 0)] [(0, (1, (.c (.int .i64 6)))), (2, (1, (.t 37)))]) none [] (.st none (.st 3 (.t 4) (.t 38)) none [] .fin))))) .ret))), [(.ca 4 3)]⟩
theorem h_spec_l71Deed : compF Tryd.prog 41 = some c_spec_l71Deed := by kernel_rfl
def c_spec_DrawDeedText : CF := ⟨33, (.seq (.plan (.st (some 2) (.alloc 23 [(.int .i64 0), (.str ⟨#[]⟩), (.int .i64 0)]) none [] .fin)) (.seq (.plan (.st (some 5) (.mv (.t 0)) none [] (.st (some 6) (.call 40 [(.t 5)]) none [] (.st (some 3) (.mv (.t 6)) none [] .fin)))) (.seq (.plan (.st (some 7) (.mv (.t 3)) none [] (.st (some 8) (.lit 9 1 0 [] []) none [] (.st (some 9) (.call 41 [(.t 7), (.t 8)]) none [] (.st (some 4) (.alloc 23 [(.int .i64 0), (.str ⟨#[]⟩), (.int .i64 0)]) none [] (.st none (.st 3 (.t 4) (.t 9)) none [] .fin)))))) (.seq (.seq (.plan (.st (some 10) (.mv (.t 3)) none [] (.st (some 11) (.call 42 [(.t 10), (.c (.int .i64 12))]) none [] .fin))) (.block 0 (.seq (.plan (.st (some 13) (.bin .eql (.t 11) (.c (.int .i64 0))) none [] (.st (some 12) (.mv (.t 13)) none [] .fin))) (.cond (.t 12) (.plan (.st (some 14) (.lit 3 1 3 [(.int .i64 0), (.int .i64 0), (.int .i64 0)] [(0, (1, (.c (.int .i64 (-1))))), (1, (1, (.c (.int .i64 1000)))), (2, (1, (.c (.int .i64 5))))]) none [] (.st (some 15) (.mv (.t 3)) none [] (.st (some 16) (.call 42 [(.t 15), (.c (.int .i64 3))]) none [] (.st (some 17) (.ia 1 (.t 14) (.t 16)) none [] (.st (some 18) (.ld (.t 17)) none [] (.st (some 19) (.fa 2 (.t 4)) none [] (.st none (.st 1 (.t 19) (.t 18)) none [] .fin)))))))) (.seq (.plan (.st (some 21) (.bin .eql (.t 11) (.c (.int .i64 1))) none [] (.st (some 20) (.mv (.t 21)) none [] .fin))) (.cond (.t 20) (.plan (.st (some 22) (.mv (.t 3)) none [] (.st (some 23) (.lit 9 1 2 [(.str ⟨#[]⟩), (.str ⟨#[]⟩)] [(0, (1, (.c (.str ⟨#[120]⟩)))), (1, (1, (.c (.str ⟨#[97]⟩))))]) none [] (.st (some 24) (.call 43 [(.t 22), (.t 23)]) none [] (.st (some 25) (.fa 1 (.t 4)) none [] (.st none (.st 1 (.t 25) (.t 24)) none [] .fin)))))) (.seq (.plan (.st (some 27) (.bin .eql (.t 11) (.c (.int .i64 2))) none [] (.st (some 26) (.mv (.t 27)) none [] .fin))) (.cond (.t 26) (.plan (.st (some 28) (.mv (.t 3)) none [] (.st (some 29) (.call 42 [(.t 28), (.c (.int .i64 9))]) none [] (.st (some 30) (.bin .sub (.t 29) (.c (.int .i64 1))) none [] (.st (some 31) (.fa 0 (.t 4)) none [] (.st none (.st 1 (.t 31) (.t 30)) none [] .fin)))))) .skip)))))))) (.seq (.plan (.st (some 32) (.lda 3 (.t 4)) none [] (.st none (.st 3 (.t 2) (.t 32)) none [] .fin))) .ret))))), [(.ca 2 3)]⟩
theorem h_spec_DrawDeedText : compF Tryd.prog 15 = some c_spec_DrawDeedText := by kernel_rfl
def c_laws_FnDeedBack : CF := ⟨37, (.seq (.plan (.st (some 2) (.mv (.c (.bool false))) none [] .fin)) (.seq (.seq (.plan (.st (some 7) (.mv (.t 0)) none [] (.st (some 8) (.len (.t 7)) none [] (.st (some 9) (.bin .gtr (.t 8) (.c (.int .i64 1048576))) none [] .fin)))) (.cond (.t 9) (.seq (.plan (.st (some 2) (.mv (.c (.bool true))) none [] .fin)) .ret) .skip)) (.seq (.plan (.st (some 10) (.mv (.t 0)) none [] (.st (some 11) (.call 15 [(.t 10)]) none [] (.st (some 3) (.alloc 23 [(.int .i64 0), (.str ⟨#[]⟩), (.int .i64 0)]) none [] (.st none (.st 3 (.t 3) (.t 11)) none [] .fin))))) (.seq (.plan (.st (some 12) (.lda 3 (.t 3)) none [] (.st (some 13) (.call 16 [(.t 12)]) none [] (.st (some 4) (.mv (.t 13)) none [] .fin)))) (.seq (.seq (.plan (.st (some 14) (.mv (.t 4)) none [] (.st (some 15) (.lda 3 (.t 3)) none [] (.st (some 16) (.call 17 [(.t 15)]) none [] (.st (some 17) (.bin .neq (.t 14) (.t 16)) none [] (.st (some 18) (.mv (.t 17)) none [] (.st (some 19) (.mv (.t 4)) (some (18, false)) [] (.st (some 20) (.bin .eql (.t 19) (.c (.str ⟨#[]⟩))) (some (18, false)) [] (.st (some 21) (.pick (.t 18) (.c (.bool true)) (.t 20)) none [] .fin))))))))) (.cond (.t 21) (.seq (.plan (.st (some 22) (.mv (.t 4)) none [] (.st (some 23) (.lda 3 (.t 3)) none [] (.st (some 24) (.call 17 [(.t 23)]) none [] (.st (some 25) (.bin .eql (.t 22) (.t 24)) none [] (.st (some 2) (.mv (.t 25)) none [] .fin)))))) .ret) .skip)) (.seq (.plan (.st (some 27) (.mv (.t 4)) none [] (.st (some 28) (.call 13 [(.t 27)]) none [] (.st (some 26) (.mv (.t 28)) none [] (.st (some 29) (.ext 0 (.t 26)) none [] (.st (some 30) (.ext 1 (.t 26)) none [] (.st (some 5) (.alloc 23 [(.int .i64 0), (.str ⟨#[]⟩), (.int .i64 0)]) none [] (.st none (.st 3 (.t 5) (.t 29)) none [] (.st (some 6) (.mv (.t 30)) none [] .fin))))))))) (.seq (.plan (.st (some 31) (.mv (.t 6)) none [] (.st (some 32) (.mv (.t 31)) none [] (.st (some 33) (.lda 3 (.t 5)) (some (32, true)) [] (.st (some 34) (.lda 3 (.t 3)) (some (32, true)) [] (.st (some 35) (.eqs false [0, 2, 0] (.t 33) (.t 34)) (some (32, true)) [] (.st (some 36) (.pick (.t 32) (.t 35) (.c (.bool false))) none [] (.st (some 2) (.mv (.t 36)) none [] .fin)))))))) .ret))))))), [(.t 2)]⟩
theorem h_laws_FnDeedBack : compF Tryd.prog 4 = some c_laws_FnDeedBack := by kernel_rfl
def c_spec_DrawDeedRead : CF := ⟨57, (.seq (.plan (.st (some 2) (.mv (.c (.str ⟨#[]⟩))) none [] .fin)) (.seq (.plan (.st (some 6) (.mv (.t 0)) none [] (.st (some 7) (.call 40 [(.t 6)]) none [] (.st (some 3) (.mv (.t 7)) none [] .fin)))) (.seq (.plan (.st (some 8) (.mv (.t 3)) none [] (.st (some 9) (.lit 9 1 0 [] []) none [] (.st (some 10) (.call 41 [(.t 8), (.t 9)]) none [] (.st (some 11) (.call 17 [(.t 10)]) none [] (.st (some 4) (.mv (.t 11)) none [] .fin)))))) (.seq (.seq (.plan (.st (some 12) (.mv (.t 3)) none [] (.st (some 13) (.call 42 [(.t 12), (.c (.int .i64 2))]) none [] (.st (some 14) (.bin .eql (.t 13) (.c (.int .i64 0))) none [] (.st (some 15) (.mv (.t 14)) none [] (.st (some 16) (.mv (.t 4)) (some (15, false)) [] (.st (some 17) (.bin .eql (.t 16) (.c (.str ⟨#[]⟩))) (some (15, false)) [] (.st (some 18) (.pick (.t 15) (.c (.bool true)) (.t 17)) none [] .fin)))))))) (.cond (.t 18) (.seq (.plan (.st (some 19) (.mv (.t 4)) none [] (.st (some 2) (.mv (.t 19)) none [] .fin))) .ret) .skip)) (.seq (.plan (.st (some 20) (.mv (.t 3)) none [] (.st (some 21) (.mv (.t 4)) none [] (.st (some 22) (.lns (.t 21)) none [] (.st (some 23) (.call 42 [(.t 20), (.t 22)]) none [] (.st (some 5) (.mv (.t 23)) none [] .fin)))))) (.seq (.seq (.plan (.st (some 24) (.mv (.t 3)) none [] (.st (some 25) (.call 42 [(.t 24), (.c (.int .i64 4))]) none [] .fin))) (.block 0 (.seq (.plan (.st (some 27) (.bin .eql (.t 25) (.c (.int .i64 0))) none [] (.st (some 26) (.mv (.t 27)) none [] .fin))) (.cond (.t 26) (.seq (.plan (.st (some 28) (.mv (.t 4)) none [] (.st (some 29) (.mv (.t 5)) none [] (.st (some 30) (.cuts (.t 28) none (some (.t 29))) none [] (.st (some 31) (.mv (.t 4)) none [] (.st (some 32) (.mv (.t 5)) none [] (.st (some 33) (.bin .add (.t 32) (.c (.int .i64 1))) none [] (.st (some 34) (.cuts (.t 31) (some (.t 33)) none) none [] (.st (some 35) (.bin .add (.t 30) (.t 34)) none [] (.st (some 2) (.mv (.t 35)) none [] .fin)))))))))) .ret) (.seq (.plan (.st (some 37) (.bin .eql (.t 25) (.c (.int .i64 1))) none [] (.st (some 36) (.mv (.t 37)) none [] .fin))) (.cond (.t 36) (.seq (.plan (.st (some 38) (.mv (.t 4)) none [] (.st (some 39) (.mv (.t 5)) none [] (.st (some 40) (.cuts (.t 38) none (some (.t 39))) none [] (.st (some 41) (.mv (.t 3)) none [] (.st (some 45) (.mv (.t 4)) none [] (.st (some 46) (.mv (.t 5)) none [] (.st (some 47) (.cuts (.t 45) (some (.t 46)) none) none [] (.st (some 42) (.lit 9 1 5 [(.str ⟨#[]⟩), (.str ⟨#[]⟩), (.str ⟨#[]⟩), (.str ⟨#[]⟩), (.str ⟨#[]⟩)] [(0, (1, (.c (.str ⟨#[32]⟩)))), (1, (1, (.c (.str ⟨#[48]⟩)))), (2, (1, (.c (.str ⟨#[46]⟩)))), (3, (1, (.c (.str ⟨#[97]⟩)))), (4, (1, (.c (.str ⟨#[112, 117, 116, 32]⟩))))]) none [] (.st (some 43) (.call 43 [(.t 41), (.t 42)]) none [] (.st (some 44) (.bin .add (.t 40) (.t 43)) none [] (.st (some 48) (.bin .add (.t 44) (.t 47)) none [] (.st (some 2) (.mv (.t 48)) none [] .fin))))))))))))) .ret) (.seq (.plan (.st (some 50) (.bin .eql (.t 25) (.c (.int .i64 2))) none [] (.st (some 49) (.mv (.t 50)) none [] .fin))) (.cond (.t 49) (.seq (.plan (.st (some 51) (.mv (.t 3)) none [] (.st (some 52) (.lit 9 1 9 [(.str ⟨#[]⟩), (.str ⟨#[]⟩), (.str ⟨#[]⟩), (.str ⟨#[]⟩), (.str ⟨#[]⟩), (.str ⟨#[]⟩), (.str ⟨#[]⟩), (.str ⟨#[]⟩), (.str ⟨#[]⟩)] [(0, (1, (.c (.str ⟨#[]⟩)))), (1, (1, (.c (.str ⟨#[112, 117, 116]⟩)))), (2, (1, (.c (.str ⟨#[112, 117, 116, 32, 46, 32, 49]⟩)))), (3, (1, (.c (.str ⟨#[112, 117, 116, 32, 46, 120, 32, 49]⟩)))), (4, (1, (.c (.str ⟨#[116, 97, 107, 101, 32, 46]⟩)))), (5, (1, (.c (.str ⟨#[106, 111, 105, 110]⟩)))), (6, (1, (.c (.str ⟨#[104, 111, 108, 100, 32, 49]⟩)))), (7, (1, (.c (.str ⟨#[100, 111, 119, 110, 32, 46, 97]⟩)))), (8, (1, (.c (.str ⟨#[102, 114, 101, 101, 32, 49, 48, 48, 48]⟩))))]) none [] (.st (some 53) (.call 43 [(.t 51), (.t 52)]) none [] (.st (some 2) (.mv (.t 53)) none [] .fin))))) .ret) .skip)))))))) (.seq (.plan (.st (some 54) (.mv (.t 4)) none [] (.st (some 55) (.mv (.t 5)) none [] (.st (some 56) (.cuts (.t 54) none (some (.t 55))) none [] (.st (some 2) (.mv (.t 56)) none [] .fin))))) .ret))))))), [(.t 2)]⟩
theorem h_spec_DrawDeedRead : compF Tryd.prog 18 = some c_spec_DrawDeedRead := by kernel_rfl
def c_laws_FnDeedStrict : CF := ⟨49, (.seq (.plan (.st (some 2) (.mv (.c (.bool false))) none [] .fin)) (.seq (.seq (.plan (.st (some 8) (.mv (.t 0)) none [] (.st (some 9) (.len (.t 8)) none [] (.st (some 10) (.bin .gtr (.t 9) (.c (.int .i64 1048576))) none [] .fin)))) (.cond (.t 10) (.seq (.plan (.st (some 2) (.mv (.c (.bool true))) none [] .fin)) .ret) .skip)) (.seq (.plan (.st (some 11) (.mv (.t 0)) none [] (.st (some 12) (.call 18 [(.t 11)]) none [] (.st (some 3) (.mv (.t 12)) none [] .fin)))) (.seq (.plan (.st (some 14) (.mv (.t 3)) none [] (.st (some 15) (.call 12 [(.t 14)]) none [] (.st (some 13) (.mv (.t 15)) none [] (.st (some 16) (.ext 0 (.t 13)) none [] (.st (some 17) (.ext 1 (.t 13)) none [] (.st (some 4) (.alloc 23 [(.int .i64 0), (.str ⟨#[]⟩), (.int .i64 0)]) none [] (.st none (.st 3 (.t 4) (.t 16)) none [] (.st (some 5) (.mv (.t 17)) none [] .fin))))))))) (.seq (.plan (.st (some 19) (.mv (.t 3)) none [] (.st (some 20) (.call 13 [(.t 19)]) none [] (.st (some 18) (.mv (.t 20)) none [] (.st (some 21) (.ext 0 (.t 18)) none [] (.st (some 22) (.ext 1 (.t 18)) none [] (.st (some 6) (.alloc 23 [(.int .i64 0), (.str ⟨#[]⟩), (.int .i64 0)]) none [] (.st none (.st 3 (.t 6) (.t 21)) none [] (.st (some 7) (.mv (.t 22)) none [] .fin))))))))) (.seq (.plan (.st (some 23) (.mv (.t 7)) none [] (.st (some 24) (.mv (.t 5)) none [] (.st (some 25) (.eqb false (.t 23) (.t 24)) none [] (.st (some 26) (.mv (.t 25)) none [] (.st (some 27) (.lda 3 (.t 6)) (some (26, true)) [] (.st (some 28) (.lda 3 (.t 4)) (some (26, true)) [] (.st (some 29) (.eqs false [0, 2, 0] (.t 27) (.t 28)) (some (26, true)) [] (.st (some 30) (.pick (.t 26) (.t 29) (.c (.bool false))) none [] (.st (some 31) (.mv (.t 30)) none [] (.st (some 32) (.mv (.t 7)) (some (31, true)) [] (.st (some 33) (.not (.t 32)) (some (31, true)) [] (.st (some 34) (.mv (.t 33)) (some (31, true)) [] (.st (some 35) (.lda 3 (.t 6)) (some (34, true)) [] (.st (some 36) (.build [(.int .i64 0), (.str ⟨#[]⟩), (.int .i64 0)] []) (some (34, true)) [] (.st (some 37) (.eqs false [0, 2, 0] (.t 35) (.t 36)) (some (34, true)) [] (.st (some 38) (.pick (.t 34) (.t 37) (.c (.bool false))) (some (31, true)) [] (.st (some 39) (.mv (.t 38)) (some (31, true)) [] (.st (some 40) (.mv (.t 7)) (some (39, false)) [] (.st (some 41) (.mv (.t 40)) (some (39, false)) [] (.st (some 42) (.lda 3 (.t 6)) (some (41, true)) [] (.st (some 43) (.call 16 [(.t 42)]) (some (41, true)) [] (.st (some 44) (.mv (.t 3)) (some (41, true)) [] (.st (some 45) (.bin .eql (.t 43) (.t 44)) (some (41, true)) [] (.st (some 46) (.pick (.t 41) (.t 45) (.c (.bool false))) (some (39, false)) [] (.st (some 47) (.pick (.t 39) (.c (.bool true)) (.t 46)) (some (31, true)) [] (.st (some 48) (.pick (.t 31) (.t 47) (.c (.bool false))) none [] (.st (some 2) (.mv (.t 48)) none [] .fin)))))))))))))))))))))))))))) .ret)))))), [(.t 2)]⟩
theorem h_laws_FnDeedStrict : compF Tryd.prog 5 = some c_laws_FnDeedStrict := by kernel_rfl
def c_spec_l21Hear : CF := ⟨38, (.seq (.plan (.st (some 2) (.alloc 59 [(.str ⟨#[]⟩), (.int .i64 0), (.bool false), (.int .i64 0)]) none [] .fin)) (.seq (.plan (.st (some 5) (.mv (.t 0)) none [] (.st (some 6) (.call 30 [(.t 5), (.c (.int .u8 45))]) none [] (.st (some 3) (.mv (.t 6)) none [] .fin)))) (.seq (.seq (.plan (.st (some 7) (.mv (.t 3)) none [] (.st (some 8) (.len (.t 7)) none [] (.st (some 9) (.bin .neq (.t 8) (.c (.int .i64 2))) none [] .fin)))) (.cond (.t 9) (.seq (.plan (.st (some 10) (.build [(.str ⟨#[]⟩), (.int .i64 0), (.bool false), (.int .i64 0)] []) none [] (.st none (.st 4 (.t 2) (.t 10)) none [] .fin))) .ret) .skip)) (.seq (.plan (.st (some 11) (.mv (.t 3)) none [] (.st (some 12) (.ia 1 (.t 11) (.c (.int .i64 0))) none [] (.st (some 13) (.ld (.t 12)) none [] (.st (some 14) (.call 30 [(.t 13), (.c (.int .u8 61))]) none [] (.st (some 4) (.mv (.t 14)) none [] .fin)))))) (.seq (.seq (.plan (.st (some 15) (.mv (.t 4)) none [] (.st (some 16) (.len (.t 15)) none [] (.st (some 17) (.bin .eql (.t 16) (.c (.int .i64 2))) none [] .fin)))) (.cond (.t 17) (.seq (.plan (.st (some 18) (.mv (.t 4)) none [] (.st (some 19) (.ia 1 (.t 18) (.c (.int .i64 0))) none [] (.st (some 20) (.ld (.t 19)) none [] (.st (some 21) (.mv (.t 4)) none [] (.st (some 22) (.ia 1 (.t 21) (.c (.int .i64 1))) none [] (.st (some 23) (.ld (.t 22)) none [] (.st (some 25) (.mv (.t 3)) none [] (.st (some 26) (.ia 1 (.t 25) (.c (.int .i64 1))) none [] (.st (some 27) (.ld (.t 26)) none [] (.st (some 24) (.call 33 [(.t 23)]) none [((some 27), ((.ld (.t 26)), none)), ((some 26), ((.ia 1 (.t 25) (.c (.int .i64 1))), none)), ((some 20), ((.ld (.t 19)), none)), ((some 19), ((.ia 1 (.t 18) (.c (.int .i64 0))), none))] (.st (some 28) (.call 33 [(.t 27)]) none [((some 20), ((.ld (.t 19)), none)), ((some 19), ((.ia 1 (.t 18) (.c (.int .i64 0))), none))] (.st (some 29) (.build [(.str ⟨#[]⟩), (.int .i64 0), (.bool false), (.int .i64 0)] [(0, (1, (.t 20))), (1, (1, (.t 24))), (3, (1, (.t 28)))]) none [] (.st none (.st 4 (.t 2) (.t 29)) none [] .fin)))))))))))))) .ret) .skip)) (.seq (.plan (.st (some 30) (.mv (.t 3)) none [] (.st (some 31) (.ia 1 (.t 30) (.c (.int .i64 0))) none [] (.st (some 32) (.ld (.t 31)) none [] (.st (some 33) (.mv (.t 3)) none [] (.st (some 34) (.ia 1 (.t 33) (.c (.int .i64 1))) none [] (.st (some 35) (.ld (.t 34)) none [] (.st (some 36) (.call 33 [(.t 35)]) none [((some 32), ((.ld (.t 31)), none)), ((some 31), ((.ia 1 (.t 30) (.c (.int .i64 0))), none))] (.st (some 37) (.build [(.str ⟨#[]⟩), (.int .i64 0), (.bool false), (.int .i64 0)] [(0, (1, (.t 32))), (2, (1, (.c (.bool true)))), (3, (1, (.t 36)))]) none [] (.st none (.st 4 (.t 2) (.t 37)) none [] .fin)))))))))) .ret)))))), [(.ca 2 4)]⟩
theorem h_spec_l21Hear : compF Tryd.prog 50 = some c_spec_l21Hear := by kernel_rfl
def c_spec_l11Ok : CF := ⟨26, (.seq (.plan (.st (some 1) (.box 59 4 (.t 0)) none [] (.st (some 2) (.mv (.c (.bool false))) none [] .fin))) (.seq (.plan (.st (some 3) (.fa 0 (.t 1)) none [] (.st (some 4) (.ld (.t 3)) none [] (.st (some 5) (.call 48 [(.t 4)]) none [] (.st (some 6) (.mv (.t 5)) none [] (.st (some 7) (.fa 1 (.t 1)) (some (6, true)) [] (.st (some 8) (.ld (.t 7)) (some (6, true)) [] (.st (some 9) (.call 47 [(.t 8), (.c (.int .i64 0)), (.c (.int .i64 99))]) (some (6, true)) [] (.st (some 10) (.pick (.t 6) (.t 9) (.c (.bool false))) none [] (.st (some 11) (.mv (.t 10)) none [] (.st (some 12) (.fa 2 (.t 1)) (some (11, true)) [] (.st (some 13) (.ld (.t 12)) (some (11, true)) [] (.st (some 14) (.not (.t 13)) (some (11, true)) [] (.st (some 15) (.mv (.t 14)) (some (11, true)) [] (.st (some 16) (.fa 1 (.t 1)) (some (15, false)) [] (.st (some 17) (.ld (.t 16)) (some (15, false)) [] (.st (some 18) (.bin .eql (.t 17) (.c (.int .i64 0))) (some (15, false)) [] (.st (some 19) (.pick (.t 15) (.c (.bool true)) (.t 18)) (some (11, true)) [] (.st (some 20) (.pick (.t 11) (.t 19) (.c (.bool false))) none [] (.st (some 21) (.mv (.t 20)) none [] (.st (some 22) (.fa 3 (.t 1)) (some (21, true)) [] (.st (some 23) (.ld (.t 22)) (some (21, true)) [] (.st (some 24) (.call 47 [(.t 23), (.c (.int .i64 1)), (.c (.int .i64 999))]) (some (21, true)) [] (.st (some 25) (.pick (.t 21) (.t 24) (.c (.bool false))) none [] (.st (some 2) (.mv (.t 25)) none [] .fin))))))))))))))))))))))))) .ret)), [(.t 2)]⟩
theorem h_spec_l11Ok : compF Tryd.prog 72 = some c_spec_l11Ok := by kernel_rfl
def c_spec_l11Ahead : CF := ⟨24, (.seq (.plan (.st (some 2) (.box 59 4 (.t 0)) none [] (.st (some 3) (.box 59 4 (.t 1)) none [] (.st (some 4) (.mv (.c (.bool false))) none [] .fin)))) (.seq (.plan (.st (some 5) (.fa 0 (.t 2)) none [] (.st (some 6) (.ld (.t 5)) none [] (.st (some 7) (.fa 0 (.t 3)) none [] (.st (some 8) (.ld (.t 7)) none [] (.st (some 9) (.bin .lss (.t 6) (.t 8)) none [] (.st (some 10) (.mv (.t 9)) none [] (.st (some 11) (.fa 0 (.t 2)) (some (10, false)) [] (.st (some 12) (.ld (.t 11)) (some (10, false)) [] (.st (some 13) (.fa 0 (.t 3)) (some (10, false)) [] (.st (some 14) (.ld (.t 13)) (some (10, false)) [] (.st (some 15) (.bin .eql (.t 12) (.t 14)) (some (10, false)) [] (.st (some 16) (.mv (.t 15)) (some (10, false)) [] (.st (some 17) (.fa 3 (.t 2)) (some (16, true)) [] (.st (some 18) (.ld (.t 17)) (some (16, true)) [] (.st (some 19) (.fa 3 (.t 3)) (some (16, true)) [] (.st (some 20) (.ld (.t 19)) (some (16, true)) [] (.st (some 21) (.bin .gtr (.t 18) (.t 20)) (some (16, true)) [] (.st (some 22) (.pick (.t 16) (.t 21) (.c (.bool false))) (some (10, false)) [] (.st (some 23) (.pick (.t 10) (.c (.bool true)) (.t 22)) none [] (.st (some 4) (.mv (.t 23)) none [] .fin))))))))))))))))))))) .ret)), [(.t 4)]⟩
theorem h_spec_l11Ahead : compF Tryd.prog 73 = some c_spec_l11Ahead := by kernel_rfl
def c_spec_RunOk : CF := ⟨36, (.seq (.plan (.st (some 2) (.mv (.c (.bool false))) none [] .fin)) (.seq (.seq (.plan (.st (some 3) (.mv (.c (.int .i64 0))) none [] .fin)) (.block 0 (.loop (.seq (.seq (.plan (.st (some 4) (.mv (.t 3)) none [] (.st (some 5) (.mv (.t 0)) none [] (.st (some 6) (.len (.t 5)) none [] (.st (some 7) (.bin .lss (.t 4) (.t 6)) none [] .fin))))) (.cond (.t 7) .skip (.exit 0))) (.seq (.block 1 (.seq (.plan (.st (some 10) (.mv (.t 0)) none [] (.st (some 11) (.mv (.t 3)) none [] (.st (some 12) (.ia 4 (.t 10) (.t 11)) none [] (.st (some 13) (.lda 4 (.t 12)) none [] (.st (some 14) (.call 72 [(.t 13)]) none [] (.st (some 15) (.not (.t 14)) none [] (.st (some 16) (.mv (.t 15)) none [] (.st (some 17) (.mv (.t 3)) (some (16, false)) [] (.st (some 18) (.bin .gtr (.t 17) (.c (.int .i64 0))) (some (16, false)) [] (.st (some 19) (.mv (.t 18)) (some (16, false)) [] (.st (some 20) (.mv (.t 0)) (some (19, true)) [] (.st (some 21) (.mv (.t 3)) (some (19, true)) [] (.st (some 22) (.bin .sub (.t 21) (.c (.int .i64 1))) (some (19, true)) [] (.st (some 23) (.ia 4 (.t 20) (.t 22)) (some (19, true)) [] (.st (some 24) (.lda 4 (.t 23)) (some (19, true)) [] (.st (some 25) (.mv (.t 0)) (some (19, true)) [] (.st (some 26) (.mv (.t 3)) (some (19, true)) [] (.st (some 27) (.ia 4 (.t 25) (.t 26)) (some (19, true)) [] (.st (some 28) (.lda 4 (.t 27)) (some (19, true)) [] (.st (some 29) (.call 73 [(.t 24), (.t 28)]) (some (19, true)) [] (.st (some 30) (.not (.t 29)) (some (19, true)) [] (.st (some 31) (.pick (.t 19) (.t 30) (.c (.bool false))) (some (16, false)) [] (.st (some 32) (.pick (.t 16) (.c (.bool true)) (.t 31)) none [] .fin)))))))))))))))))))))))) (.cond (.t 32) (.seq (.plan (.st (some 2) (.mv (.c (.bool false))) none [] .fin)) .ret) .skip))) (.plan (.st (some 8) (.mv (.t 3)) none [] (.st (some 9) (.bin .add (.t 8) (.c (.int .i64 1))) none [] (.st (some 3) (.mv (.t 9)) none [] .fin))))))))) (.seq (.plan (.st (some 33) (.mv (.t 0)) none [] (.st (some 34) (.len (.t 33)) none [] (.st (some 35) (.bin .leq (.t 34) (.c (.int .i64 40))) none [] (.st (some 2) (.mv (.t 35)) none [] .fin))))) .ret))), [(.t 2)]⟩
theorem h_spec_RunOk : compF Tryd.prog 57 = some c_spec_RunOk := by kernel_rfl
def c_spec_l21Entry : CF := ⟨26, (.seq (.plan (.st (some 1) (.box 59 4 (.t 0)) none [] (.st (some 2) (.mv (.c (.str ⟨#[]⟩))) none [] .fin))) (.seq (.seq (.plan (.st (some 3) (.fa 2 (.t 1)) none [] (.st (some 4) (.ld (.t 3)) none [] .fin))) (.cond (.t 4) (.seq (.plan (.st (some 5) (.fa 0 (.t 1)) none [] (.st (some 6) (.ld (.t 5)) none [] (.st (some 7) (.bin .add (.t 6) (.c (.str ⟨#[45]⟩))) none [] (.st (some 8) (.fa 3 (.t 1)) none [] (.st (some 9) (.ld (.t 8)) none [] (.st (some 10) (.call 49 [(.t 9)]) none [((some 6), ((.ld (.t 5)), none))] (.st (some 11) (.bin .add (.t 7) (.t 10)) none [] (.st (some 12) (.bin .add (.t 11) (.c (.str ⟨#[59]⟩))) none [] (.st (some 2) (.mv (.t 12)) none [] .fin)))))))))) .ret) .skip)) (.seq (.plan (.st (some 13) (.fa 0 (.t 1)) none [] (.st (some 14) (.ld (.t 13)) none [] (.st (some 15) (.bin .add (.t 14) (.c (.str ⟨#[61]⟩))) none [] (.st (some 16) (.fa 1 (.t 1)) none [] (.st (some 17) (.ld (.t 16)) none [] (.st (some 21) (.fa 3 (.t 1)) none [] (.st (some 22) (.ld (.t 21)) none [] (.st (some 18) (.call 49 [(.t 17)]) none [((some 22), ((.ld (.t 21)), none)), ((some 14), ((.ld (.t 13)), none))] (.st (some 19) (.bin .add (.t 15) (.t 18)) none [] (.st (some 20) (.bin .add (.t 19) (.c (.str ⟨#[45]⟩))) none [] (.st (some 23) (.call 49 [(.t 22)]) none [((some 14), ((.ld (.t 13)), none))] (.st (some 24) (.bin .add (.t 20) (.t 23)) none [] (.st (some 25) (.bin .add (.t 24) (.c (.str ⟨#[59]⟩))) none [] (.st (some 2) (.mv (.t 25)) none [] .fin))))))))))))))) .ret))), [(.t 2)]⟩
theorem h_spec_l21Entry : compF Tryd.prog 75 = some c_spec_l21Entry := by kernel_rfl
def c_spec_l21Run : CF := ⟨19, (.seq (.plan (.st (some 2) (.mv (.c (.str ⟨#[]⟩))) none [] .fin)) (.seq (.plan (.st (some 3) (.mv (.c (.str ⟨#[]⟩))) none [] .fin)) (.seq (.seq (.plan (.st (some 4) (.mv (.c (.int .i64 0))) none [] .fin)) (.block 0 (.loop (.seq (.seq (.plan (.st (some 5) (.mv (.t 4)) none [] (.st (some 6) (.mv (.t 0)) none [] (.st (some 7) (.len (.t 6)) none [] (.st (some 8) (.bin .lss (.t 5) (.t 7)) none [] .fin))))) (.cond (.t 8) .skip (.exit 0))) (.seq (.block 1 (.plan (.st (some 11) (.mv (.t 3)) none [] (.st (some 12) (.mv (.t 0)) none [] (.st (some 13) (.mv (.t 4)) none [] (.st (some 14) (.ia 4 (.t 12) (.t 13)) none [] (.st (some 15) (.lda 4 (.t 14)) none [] (.st (some 16) (.call 75 [(.t 15)]) none [] (.st (some 17) (.bin .add (.t 11) (.t 16)) none [] (.st (some 3) (.mv (.t 17)) none [] .fin)))))))))) (.plan (.st (some 9) (.mv (.t 4)) none [] (.st (some 10) (.bin .add (.t 9) (.c (.int .i64 1))) none [] (.st (some 4) (.mv (.t 10)) none [] .fin))))))))) (.seq (.plan (.st (some 18) (.mv (.t 3)) none [] (.st (some 2) (.mv (.t 18)) none [] .fin))) .ret)))), [(.t 2)]⟩
theorem h_spec_l21Run : compF Tryd.prog 59 = some c_spec_l21Run := by kernel_rfl
def c_spec_BlockSum : CF := ⟨21, (.seq (.plan (.st (some 2) (.mv (.c (.int .i64 0))) none [] .fin)) (.seq (.plan (.st (some 3) (.mv (.c (.int .i64 7))) none [] .fin)) (.seq (.seq (.plan (.st (some 4) (.mv (.c (.int .i64 0))) none [] .fin)) (.block 0 (.loop (.seq (.seq (.plan (.st (some 5) (.mv (.t 4)) none [] (.st (some 6) (.mv (.t 0)) none [] (.st (some 7) (.lns (.t 6)) none [] (.st (some 8) (.bin .lss (.t 5) (.t 7)) none [] .fin))))) (.cond (.t 8) .skip (.exit 0))) (.seq (.block 1 (.plan (.st (some 11) (.mv (.t 3)) none [] (.st (some 12) (.bin .mul (.t 11) (.c (.int .i64 31))) none [] (.st (some 13) (.mv (.t 0)) none [] (.st (some 14) (.mv (.t 4)) none [] (.st (some 15) (.ix (.t 13) (.t 14)) none [] (.st (some 16) (.cv .i64 (.t 15)) none [] (.st (some 17) (.bin .add (.t 12) (.t 16)) none [] (.st (some 18) (.bin .add (.t 17) (.c (.int .i64 1))) none [] (.st (some 19) (.bin .rem (.t 18) (.c (.int .i64 9973))) none [] (.st (some 3) (.mv (.t 19)) none [] .fin)))))))))))) (.plan (.st (some 9) (.mv (.t 4)) none [] (.st (some 10) (.bin .add (.t 9) (.c (.int .i64 1))) none [] (.st (some 4) (.mv (.t 10)) none [] .fin))))))))) (.seq (.plan (.st (some 20) (.mv (.t 3)) none [] (.st (some 2) (.mv (.t 20)) none [] .fin))) .ret)))), [(.t 2)]⟩
theorem h_spec_BlockSum : compF Tryd.prog 74 = some c_spec_BlockSum := by kernel_rfl
def c_spec_l21Seal : CF := ⟨9, (.seq (.plan (.st (some 2) (.mv (.c (.str ⟨#[]⟩))) none [] .fin)) (.seq (.plan (.st (some 3) (.mv (.t 0)) none [] (.st (some 4) (.bin .add (.t 3) (.c (.str ⟨#[33]⟩))) none [] (.st (some 5) (.mv (.t 0)) none [] (.st (some 6) (.call 74 [(.t 5)]) none [] (.st (some 7) (.call 49 [(.t 6)]) none [] (.st (some 8) (.bin .add (.t 4) (.t 7)) none [] (.st (some 2) (.mv (.t 8)) none [] .fin)))))))) .ret)), [(.t 2)]⟩
theorem h_spec_l21Seal : compF Tryd.prog 58 = some c_spec_l21Seal := by kernel_rfl
def c_spec_BlockText : CF := ⟨14, (.seq (.plan (.st (some 2) (.mv (.c (.str ⟨#[]⟩))) none [] .fin)) (.seq (.seq (.plan (.st (some 4) (.mv (.t 0)) none [] (.st (some 5) (.call 57 [(.t 4)]) none [] (.st (some 6) (.not (.t 5)) none [] .fin)))) (.cond (.t 6) (.seq (.plan (.st (some 2) (.mv (.c (.str ⟨#[]⟩))) none [] .fin)) .ret) .skip)) (.seq (.plan (.st (some 7) (.mv (.t 0)) none [] (.st (some 8) (.call 59 [(.t 7)]) none [] (.st (some 9) (.call 58 [(.t 8)]) none [] (.st (some 3) (.mv (.t 9)) none [] .fin))))) (.seq (.seq (.plan (.st (some 10) (.mv (.t 3)) none [] (.st (some 11) (.lns (.t 10)) none [] (.st (some 12) (.bin .gtr (.t 11) (.c (.int .i64 400))) none [] .fin)))) (.cond (.t 12) (.seq (.plan (.st (some 2) (.mv (.c (.str ⟨#[]⟩))) none [] .fin)) .ret) .skip)) (.seq (.plan (.st (some 13) (.mv (.t 3)) none [] (.st (some 2) (.mv (.t 13)) none [] .fin))) .ret))))), [(.t 2)]⟩
theorem h_spec_BlockText : compF Tryd.prog 26 = some c_spec_BlockText := by kernel_rfl
def c_spec_BlockRead : CF := ⟨42, (.seq (.plan (.st (some 2) (.mv (.c .nils)) none [] (.st (some 3) (.mv (.c (.bool false))) none [] .fin))) (.seq (.seq (.plan (.st (some 7) (.mv (.t 0)) none [] (.st (some 8) (.lns (.t 7)) none [] (.st (some 9) (.bin .gtr (.t 8) (.c (.int .i64 400))) none [] .fin)))) (.cond (.t 9) (.seq (.plan (.st (some 10) (.lit 59 4 0 [] []) none [] (.st (some 2) (.mv (.t 10)) none [] (.st (some 3) (.mv (.c (.bool false))) none [] .fin)))) .ret) .skip)) (.seq (.plan (.st (some 11) (.lit 59 4 0 [] []) none [] (.st (some 4) (.mv (.t 11)) none [] .fin))) (.seq (.plan (.st (some 12) (.mv (.t 0)) none [] (.st (some 13) (.call 30 [(.t 12), (.c (.int .u8 33))]) none [] (.st (some 14) (.ia 1 (.t 13) (.c (.int .i64 0))) none [] (.st (some 15) (.ld (.t 14)) none [] (.st (some 16) (.call 30 [(.t 15), (.c (.int .u8 59))]) none [] (.st (some 5) (.mv (.t 16)) none [] .fin))))))) (.seq (.seq (.plan (.st (some 6) (.mv (.c (.int .i64 0))) none [] .fin)) (.block 0 (.loop (.seq (.seq (.plan (.st (some 17) (.mv (.t 6)) none [] (.st (some 18) (.bin .add (.t 17) (.c (.int .i64 1))) none [] (.st (some 19) (.mv (.t 5)) none [] (.st (some 20) (.len (.t 19)) none [] (.st (some 21) (.bin .lss (.t 18) (.t 20)) none [] .fin)))))) (.cond (.t 21) .skip (.exit 0))) (.seq (.block 1 (.plan (.st (some 24) (.mv (.t 4)) none [] (.st (some 25) (.mv (.t 5)) none [] (.st (some 26) (.mv (.t 6)) none [] (.st (some 27) (.ia 1 (.t 25) (.t 26)) none [] (.st (some 28) (.ld (.t 27)) none [] (.st (some 29) (.call 50 [(.t 28)]) none [] (.st (some 30) (.lit 59 4 1 [(.str ⟨#[]⟩), (.int .i64 0), (.bool false), (.int .i64 0)] [(0, (4, (.t 29)))]) none [] (.st (some 31) (.app 59 4 40 (.t 24) (.t 30)) none [] (.st (some 4) (.mv (.t 31)) none [] .fin))))))))))) (.plan (.st (some 22) (.mv (.t 6)) none [] (.st (some 23) (.bin .add (.t 22) (.c (.int .i64 1))) none [] (.st (some 6) (.mv (.t 23)) none [] .fin))))))))) (.seq (.seq (.plan (.st (some 32) (.mv (.t 0)) none [] (.st (some 33) (.bin .eql (.t 32) (.c (.str ⟨#[]⟩))) none [] (.st (some 34) (.mv (.t 33)) none [] (.st (some 35) (.mv (.t 4)) (some (34, false)) [] (.st (some 36) (.call 26 [(.t 35)]) (some (34, false)) [] (.st (some 37) (.mv (.t 0)) (some (34, false)) [] (.st (some 38) (.bin .neq (.t 36) (.t 37)) (some (34, false)) [] (.st (some 39) (.pick (.t 34) (.c (.bool true)) (.t 38)) none [] .fin))))))))) (.cond (.t 39) (.seq (.plan (.st (some 40) (.lit 59 4 0 [] []) none [] (.st (some 2) (.mv (.t 40)) none [] (.st (some 3) (.mv (.c (.bool false))) none [] .fin)))) .ret) .skip)) (.seq (.plan (.st (some 41) (.mv (.t 4)) none [] (.st (some 2) (.mv (.t 41)) none [] (.st (some 3) (.mv (.c (.bool true))) none [] .fin)))) .ret))))))), [(.t 2), (.t 3)]⟩
theorem h_spec_BlockRead : compF Tryd.prog 19 = some c_spec_BlockRead := by kernel_rfl
def c_internal_stringslite_Cut : CF := ⟨23, (.seq (.plan (.st (some 4) (.mv (.c (.str ⟨#[]⟩))) none [] (.st (some 5) (.mv (.c (.str ⟨#[]⟩))) none [] (.st (some 6) (.mv (.c (.bool false))) none [] .fin)))) (.seq (.seq (.plan (.st (some 8) (.mv (.t 0)) none [] (.st (some 9) (.mv (.t 1)) none [] (.st (some 10) (.call 86 [(.t 8), (.t 9)]) none [] (.st (some 7) (.mv (.t 10)) none [] .fin))))) (.seq (.plan (.st (some 11) (.mv (.t 7)) none [] (.st (some 12) (.bin .geq (.t 11) (.c (.int .i64 0))) none [] .fin))) (.cond (.t 12) (.seq (.plan (.st (some 13) (.mv (.t 0)) none [] (.st (some 14) (.mv (.t 7)) none [] (.st (some 15) (.cuts (.t 13) none (some (.t 14))) none [] (.st (some 16) (.mv (.t 0)) none [] (.st (some 17) (.mv (.t 7)) none [] (.st (some 18) (.mv (.t 1)) none [] (.st (some 19) (.lns (.t 18)) none [] (.st (some 20) (.bin .add (.t 17) (.t 19)) none [] (.st (some 21) (.cuts (.t 16) (some (.t 20)) none) none [] (.st (some 4) (.mv (.t 15)) none [] (.st (some 5) (.mv (.t 21)) none [] (.st (some 6) (.mv (.c (.bool true))) none [] .fin))))))))))))) .ret) .skip))) (.seq (.plan (.st (some 22) (.mv (.t 0)) none [] (.st (some 4) (.mv (.t 22)) none [] (.st (some 5) (.mv (.c (.str ⟨#[]⟩))) none [] (.st (some 6) (.mv (.c (.bool false))) none [] .fin))))) .ret))), [(.t 4), (.t 5), (.t 6)]⟩
theorem h_internal_stringslite_Cut : compF Tryd.prog 68 = some c_internal_stringslite_Cut := by kernel_rfl
def c_strings_Cut : CF := ⟨13, (.seq (.plan (.st (some 4) (.mv (.c (.str ⟨#[]⟩))) none [] (.st (some 5) (.mv (.c (.str ⟨#[]⟩))) none [] (.st (some 6) (.mv (.c (.bool false))) none [] .fin)))) (.seq (.plan (.st (some 7) (.mv (.t 0)) none [] (.st (some 8) (.mv (.t 1)) none [] (.st (some 9) (.call 68 [(.t 7), (.t 8)]) none [] (.st (some 10) (.ext 0 (.t 9)) none [] (.st (some 11) (.ext 1 (.t 9)) none [] (.st (some 12) (.ext 2 (.t 9)) none [] (.st (some 4) (.mv (.t 10)) none [] (.st (some 5) (.mv (.t 11)) none [] (.st (some 6) (.mv (.t 12)) none [] .fin)))))))))) .ret)), [(.t 4), (.t 5), (.t 6)]⟩
theorem h_strings_Cut : compF Tryd.prog 51 = some c_strings_Cut := by kernel_rfl
def c_impl_entryOk : CF := ⟨26, (.seq (.plan (.st (some 1) (.box 59 4 (.t 0)) none [] (.st (some 2) (.mv (.c (.bool false))) none [] .fin))) (.seq (.plan (.st (some 3) (.fa 0 (.t 1)) none [] (.st (some 4) (.ld (.t 3)) none [] (.st (some 5) (.call 45 [(.t 4)]) none [] (.st (some 6) (.mv (.t 5)) none [] (.st (some 7) (.fa 1 (.t 1)) (some (6, true)) [] (.st (some 8) (.ld (.t 7)) (some (6, true)) [] (.st (some 9) (.call 44 [(.t 8), (.c (.int .i64 0)), (.c (.int .i64 99))]) (some (6, true)) [] (.st (some 10) (.pick (.t 6) (.t 9) (.c (.bool false))) none [] (.st (some 11) (.mv (.t 10)) none [] (.st (some 12) (.fa 2 (.t 1)) (some (11, true)) [] (.st (some 13) (.ld (.t 12)) (some (11, true)) [] (.st (some 14) (.not (.t 13)) (some (11, true)) [] (.st (some 15) (.mv (.t 14)) (some (11, true)) [] (.st (some 16) (.fa 1 (.t 1)) (some (15, false)) [] (.st (some 17) (.ld (.t 16)) (some (15, false)) [] (.st (some 18) (.bin .eql (.t 17) (.c (.int .i64 0))) (some (15, false)) [] (.st (some 19) (.pick (.t 15) (.c (.bool true)) (.t 18)) (some (11, true)) [] (.st (some 20) (.pick (.t 11) (.t 19) (.c (.bool false))) none [] (.st (some 21) (.mv (.t 20)) none [] (.st (some 22) (.fa 3 (.t 1)) (some (21, true)) [] (.st (some 23) (.ld (.t 22)) (some (21, true)) [] (.st (some 24) (.call 44 [(.t 23), (.c (.int .i64 1)), (.c (.int .i64 999))]) (some (21, true)) [] (.st (some 25) (.pick (.t 21) (.t 24) (.c (.bool false))) none [] (.st (some 2) (.mv (.t 25)) none [] .fin))))))))))))))))))))))))) .ret)), [(.t 2)]⟩
theorem h_impl_entryOk : compF Tryd.prog 61 = some c_impl_entryOk := by kernel_rfl
def c_impl_before : CF := ⟨24, (.seq (.plan (.st (some 2) (.box 59 4 (.t 0)) none [] (.st (some 3) (.box 59 4 (.t 1)) none [] (.st (some 4) (.mv (.c (.bool false))) none [] .fin)))) (.seq (.plan (.st (some 5) (.fa 0 (.t 2)) none [] (.st (some 6) (.ld (.t 5)) none [] (.st (some 7) (.fa 0 (.t 3)) none [] (.st (some 8) (.ld (.t 7)) none [] (.st (some 9) (.bin .lss (.t 6) (.t 8)) none [] (.st (some 10) (.mv (.t 9)) none [] (.st (some 11) (.fa 0 (.t 2)) (some (10, false)) [] (.st (some 12) (.ld (.t 11)) (some (10, false)) [] (.st (some 13) (.fa 0 (.t 3)) (some (10, false)) [] (.st (some 14) (.ld (.t 13)) (some (10, false)) [] (.st (some 15) (.bin .eql (.t 12) (.t 14)) (some (10, false)) [] (.st (some 16) (.mv (.t 15)) (some (10, false)) [] (.st (some 17) (.fa 3 (.t 2)) (some (16, true)) [] (.st (some 18) (.ld (.t 17)) (some (16, true)) [] (.st (some 19) (.fa 3 (.t 3)) (some (16, true)) [] (.st (some 20) (.ld (.t 19)) (some (16, true)) [] (.st (some 21) (.bin .gtr (.t 18) (.t 20)) (some (16, true)) [] (.st (some 22) (.pick (.t 16) (.t 21) (.c (.bool false))) (some (10, false)) [] (.st (some 23) (.pick (.t 10) (.c (.bool true)) (.t 22)) none [] (.st (some 4) (.mv (.t 23)) none [] .fin))))))))))))))))))))) .ret)), [(.t 4)]⟩
theorem h_impl_before : compF Tryd.prog 62 = some c_impl_before := by kernel_rfl
def c_impl_RunOk : CF := ⟨33, (.seq (.plan (.st (some 2) (.mv (.c (.bool false))) none [] .fin)) (.seq (.seq (.plan (.st (some 5) (.mv (.t 0)) none [] (.st (some 6) (.len (.t 5)) none [] (.st (some 7) (.mv (.c (.int .i64 0))) none [] .fin)))) (.block 0 (.loop (.seq (.plan (.st (some 8) (.bin .lss (.t 7) (.t 6)) none [] .fin)) (.seq (.cond (.t 8) .skip (.exit 0)) (.seq (.block 1 (.seq (.plan (.st (some 9) (.mv (.t 7)) none [] (.st (some 10) (.ia 4 (.t 5) (.t 7)) none [] (.st (some 11) (.lda 4 (.t 10)) none [] (.st (some 4) (.alloc 59 [(.str ⟨#[]⟩), (.int .i64 0), (.bool false), (.int .i64 0)]) none [] (.st (some 3) (.mv (.t 9)) none [] (.st none (.st 4 (.t 4) (.t 11)) none [] .fin))))))) (.seq (.plan (.st (some 12) (.lda 4 (.t 4)) none [] (.st (some 13) (.call 61 [(.t 12)]) none [] (.st (some 14) (.not (.t 13)) none [] (.st (some 15) (.mv (.t 14)) none [] (.st (some 16) (.mv (.t 3)) (some (15, false)) [] (.st (some 17) (.bin .gtr (.t 16) (.c (.int .i64 0))) (some (15, false)) [] (.st (some 18) (.mv (.t 17)) (some (15, false)) [] (.st (some 19) (.mv (.t 0)) (some (18, true)) [] (.st (some 20) (.mv (.t 3)) (some (18, true)) [] (.st (some 21) (.bin .sub (.t 20) (.c (.int .i64 1))) (some (18, true)) [] (.st (some 22) (.ia 4 (.t 19) (.t 21)) (some (18, true)) [] (.st (some 23) (.lda 4 (.t 22)) (some (18, true)) [] (.st (some 24) (.lda 4 (.t 4)) (some (18, true)) [] (.st (some 25) (.call 62 [(.t 23), (.t 24)]) (some (18, true)) [] (.st (some 26) (.not (.t 25)) (some (18, true)) [] (.st (some 27) (.pick (.t 18) (.t 26) (.c (.bool false))) (some (15, false)) [] (.st (some 28) (.pick (.t 15) (.c (.bool true)) (.t 27)) none [] .fin)))))))))))))))))) (.cond (.t 28) (.seq (.plan (.st (some 2) (.mv (.c (.bool false))) none [] .fin)) .ret) .skip)))) (.plan (.st (some 29) (.bin .add (.t 7) (.c (.int .i64 1))) none [] (.st (some 7) (.mv (.t 29)) none [] .fin))))))))) (.seq (.plan (.st (some 30) (.mv (.t 0)) none [] (.st (some 31) (.len (.t 30)) none [] (.st (some 32) (.bin .leq (.t 31) (.c (.int .i64 40))) none [] (.st (some 2) (.mv (.t 32)) none [] .fin))))) .ret))), [(.t 2)]⟩
theorem h_impl_RunOk : compF Tryd.prog 29 = some c_impl_RunOk := by kernel_rfl
def c_impl_BlockSum : CF := ⟨21, (.seq (.plan (.st (some 2) (.mv (.c (.int .i64 0))) none [] .fin)) (.seq (.plan (.st (some 3) (.mv (.c (.int .i64 7))) none [] .fin)) (.seq (.seq (.plan (.st (some 5) (.mv (.t 0)) none [] (.st (some 6) (.lns (.t 5)) none [] (.st (some 7) (.mv (.c (.int .i64 0))) none [] .fin)))) (.block 0 (.loop (.seq (.plan (.st (some 8) (.bin .lss (.t 7) (.t 6)) none [] .fin)) (.seq (.cond (.t 8) .skip (.exit 0)) (.seq (.block 1 (.seq (.plan (.st (some 9) (.mv (.t 7)) none [] (.st (some 4) (.mv (.t 9)) none [] .fin))) (.plan (.st (some 10) (.mv (.t 3)) none [] (.st (some 11) (.bin .mul (.c (.int .i64 31)) (.t 10)) none [] (.st (some 12) (.mv (.t 0)) none [] (.st (some 13) (.mv (.t 4)) none [] (.st (some 14) (.ix (.t 12) (.t 13)) none [] (.st (some 15) (.cv .i64 (.t 14)) none [] (.st (some 16) (.bin .add (.t 11) (.t 15)) none [] (.st (some 17) (.bin .add (.t 16) (.c (.int .i64 1))) none [] (.st (some 18) (.bin .rem (.t 17) (.c (.int .i64 9973))) none [] (.st (some 3) (.mv (.t 18)) none [] .fin))))))))))))) (.plan (.st (some 19) (.bin .add (.t 7) (.c (.int .i64 1))) none [] (.st (some 7) (.mv (.t 19)) none [] .fin))))))))) (.seq (.plan (.st (some 20) (.mv (.t 3)) none [] (.st (some 2) (.mv (.t 20)) none [] .fin))) .ret)))), [(.t 2)]⟩
theorem h_impl_BlockSum : compF Tryd.prog 88 = some c_impl_BlockSum := by kernel_rfl
def c_impl_seal : CF := ⟨9, (.seq (.plan (.st (some 2) (.mv (.c (.str ⟨#[]⟩))) none [] .fin)) (.seq (.plan (.st (some 3) (.mv (.t 0)) none [] (.st (some 4) (.bin .add (.t 3) (.c (.str ⟨#[33]⟩))) none [] (.st (some 5) (.mv (.t 0)) none [] (.st (some 6) (.call 88 [(.t 5)]) none [] (.st (some 7) (.call 46 [(.t 6)]) none [] (.st (some 8) (.bin .add (.t 4) (.t 7)) none [] (.st (some 2) (.mv (.t 8)) none [] .fin)))))))) .ret)), [(.t 2)]⟩
theorem h_impl_seal : compF Tryd.prog 70 = some c_impl_seal := by kernel_rfl
def c_impl_blockText : CF := ⟨32, (.seq (.plan (.st (some 2) (.mv (.c (.str ⟨#[]⟩))) none [] .fin)) (.seq (.plan (.st (some 3) (.alloc 78 [.nilp, .nils]) none [] .fin)) (.seq (.seq (.plan (.st (some 6) (.mv (.t 0)) none [] (.st (some 7) (.len (.t 6)) none [] (.st (some 8) (.mv (.c (.int .i64 0))) none [] .fin)))) (.block 0 (.loop (.seq (.plan (.st (some 9) (.bin .lss (.t 8) (.t 7)) none [] .fin)) (.seq (.cond (.t 9) .skip (.exit 0)) (.seq (.block 1 (.seq (.plan (.st (some 10) (.ia 4 (.t 6) (.t 8)) none [] (.st (some 11) (.lda 4 (.t 10)) none [] (.st (some 5) (.alloc 59 [(.str ⟨#[]⟩), (.int .i64 0), (.bool false), (.int .i64 0)]) none [] (.st none (.st 4 (.t 5) (.t 11)) none [] .fin))))) (.seq (.plan (.st (some 12) (.fa 0 (.t 5)) none [] (.st (some 13) (.ld (.t 12)) none [] (.st (some 14) (.call 69 [(.t 3), (.t 13)]) none [] .fin)))) (.seq (.seq (.plan (.st (some 15) (.fa 2 (.t 5)) none [] (.st (some 16) (.ld (.t 15)) none [] (.st (some 17) (.not (.t 16)) none [] .fin)))) (.cond (.t 17) (.plan (.st (some 18) (.fa 1 (.t 5)) none [] (.st (some 19) (.ld (.t 18)) none [] (.st (some 20) (.call 46 [(.t 19)]) none [] (.st (some 21) (.bin .add (.c (.str ⟨#[61]⟩)) (.t 20)) none [] (.st (some 22) (.call 69 [(.t 3), (.t 21)]) none [] .fin)))))) .skip)) (.plan (.st (some 23) (.fa 3 (.t 5)) none [] (.st (some 24) (.ld (.t 23)) none [] (.st (some 25) (.call 46 [(.t 24)]) none [] (.st (some 26) (.bin .add (.c (.str ⟨#[45]⟩)) (.t 25)) none [] (.st (some 27) (.bin .add (.t 26) (.c (.str ⟨#[59]⟩))) none [] (.st (some 28) (.call 69 [(.t 3), (.t 27)]) none [] .fin))))))))))) (.plan (.st (some 29) (.bin .add (.t 8) (.c (.int .i64 1))) none [] (.st (some 8) (.mv (.t 29)) none [] .fin))))))))) (.seq (.plan (.st (some 30) (.call 71 [(.t 3)]) none [] (.st (some 31) (.call 70 [(.t 30)]) none [] (.st (some 2) (.mv (.t 31)) none [] .fin)))) .ret)))), [(.t 2)]⟩
theorem h_impl_blockText : compF Tryd.prog 56 = some c_impl_blockText := by kernel_rfl
def c_impl_BlockText : CF := ⟨13, (.seq (.plan (.st (some 2) (.mv (.c (.str ⟨#[]⟩))) none [] .fin)) (.seq (.seq (.plan (.st (some 4) (.mv (.t 0)) none [] (.st (some 5) (.call 29 [(.t 4)]) none [] (.st (some 6) (.not (.t 5)) none [] .fin)))) (.cond (.t 6) (.seq (.plan (.st (some 2) (.mv (.c (.str ⟨#[]⟩))) none [] .fin)) .ret) .skip)) (.seq (.plan (.st (some 7) (.mv (.t 0)) none [] (.st (some 8) (.call 56 [(.t 7)]) none [] (.st (some 3) (.mv (.t 8)) none [] .fin)))) (.seq (.seq (.plan (.st (some 9) (.mv (.t 3)) none [] (.st (some 10) (.lns (.t 9)) none [] (.st (some 11) (.bin .gtr (.t 10) (.c (.int .i64 400))) none [] .fin)))) (.cond (.t 11) (.seq (.plan (.st (some 2) (.mv (.c (.str ⟨#[]⟩))) none [] .fin)) .ret) .skip)) (.seq (.plan (.st (some 12) (.mv (.t 3)) none [] (.st (some 2) (.mv (.t 12)) none [] .fin))) .ret))))), [(.t 2)]⟩
theorem h_impl_BlockText : compF Tryd.prog 25 = some c_impl_BlockText := by kernel_rfl
def c_impl_cloneRun : CF := ⟨5, (.seq (.plan (.st (some 2) (.mv (.c .nils)) none [] .fin)) (.seq (.plan (.st (some 3) (.mv (.t 0)) none [] (.st (some 4) (.app 59 4 40 (.c .nils) (.t 3)) none [] (.st (some 2) (.mv (.t 4)) none [] .fin)))) .ret)), [(.t 2)]⟩
theorem h_impl_cloneRun : compF Tryd.prog 52 = some c_impl_cloneRun := by kernel_rfl
def c_impl_BlockRead : CF := ⟨76, (.seq (.plan (.st (some 2) (.mv (.c .nils)) none [] (.st (some 3) (.mv (.c (.bool false))) none [] .fin))) (.seq (.plan (.st (some 19) (.mv (.t 0)) none [] (.st (some 20) (.call 51 [(.t 19), (.c (.str ⟨#[33]⟩))]) none [] (.st (some 18) (.mv (.t 20)) none [] (.st (some 21) (.ext 0 (.t 18)) none [] (.st (some 22) (.ext 1 (.t 18)) none [] (.st (some 23) (.ext 2 (.t 18)) none [] (.st (some 4) (.mv (.t 21)) none [] (.st (some 5) (.mv (.t 22)) none [] (.st (some 6) (.mv (.t 23)) none [] .fin)))))))))) (.seq (.seq (.plan (.st (some 24) (.mv (.t 6)) none [] (.st (some 25) (.not (.t 24)) none [] (.st (some 26) (.mv (.t 25)) none [] (.st (some 27) (.mv (.t 0)) (some (26, false)) [] (.st (some 28) (.lns (.t 27)) (some (26, false)) [] (.st (some 29) (.bin .gtr (.t 28) (.c (.int .i64 400))) (some (26, false)) [] (.st (some 30) (.pick (.t 26) (.c (.bool true)) (.t 29)) none [] .fin)))))))) (.cond (.t 30) (.seq (.plan (.st (some 2) (.mv (.c .nils)) none [] (.st (some 3) (.mv (.c (.bool false))) none [] .fin))) .ret) .skip)) (.seq (.plan (.st (some 7) (.mv (.c .nils)) none [] .fin)) (.seq (.plan (.st (some 31) (.mv (.t 4)) none [] (.st (some 32) (.call 34 [(.t 31), (.c (.str ⟨#[59]⟩))]) none [] (.st (some 8) (.mv (.t 32)) none [] .fin)))) (.seq (.seq (.plan (.st (some 33) (.mv (.t 8)) none [] (.st (some 34) (.mv (.t 8)) none [] (.st (some 35) (.len (.t 34)) none [] (.st (some 36) (.bin .sub (.t 35) (.c (.int .i64 1))) none [] (.st (some 37) (.cut 1 (.t 33) none (some (.t 36))) none [] (.st (some 38) (.len (.t 37)) none [] (.st (some 39) (.mv (.c (.int .i64 0))) none [] .fin)))))))) (.block 0 (.loop (.seq (.plan (.st (some 40) (.bin .lss (.t 39) (.t 38)) none [] .fin)) (.seq (.cond (.t 40) .skip (.exit 0)) (.seq (.block 1 (.seq (.plan (.st (some 41) (.ia 1 (.t 37) (.t 39)) none [] (.st (some 42) (.ld (.t 41)) none [] (.st (some 10) (.mv (.t 42)) none [] .fin)))) (.seq (.plan (.st (some 44) (.mv (.t 10)) none [] (.st (some 45) (.call 51 [(.t 44), (.c (.str ⟨#[45]⟩))]) none [] (.st (some 43) (.mv (.t 45)) none [] (.st (some 46) (.ext 0 (.t 43)) none [] (.st (some 47) (.ext 1 (.t 43)) none [] (.st (some 48) (.ext 2 (.t 43)) none [] (.st (some 11) (.mv (.t 46)) none [] (.st (some 12) (.mv (.t 47)) none [] (.st (some 13) (.mv (.t 48)) none [] .fin)))))))))) (.seq (.plan (.st (some 50) (.mv (.t 11)) none [] (.st (some 51) (.call 51 [(.t 50), (.c (.str ⟨#[61]⟩))]) none [] (.st (some 49) (.mv (.t 51)) none [] (.st (some 52) (.ext 0 (.t 49)) none [] (.st (some 53) (.ext 1 (.t 49)) none [] (.st (some 54) (.ext 2 (.t 49)) none [] (.st (some 14) (.mv (.t 52)) none [] (.st (some 15) (.mv (.t 53)) none [] (.st (some 16) (.mv (.t 54)) none [] .fin)))))))))) (.seq (.plan (.st (some 55) (.mv (.t 14)) none [] (.st (some 56) (.mv (.t 16)) none [] (.st (some 57) (.not (.t 56)) none [] (.st (some 58) (.mv (.t 12)) none [] (.st (some 59) (.call 39 [(.t 58)]) none [] (.st (some 60) (.build [(.str ⟨#[]⟩), (.int .i64 0), (.bool false), (.int .i64 0)] [(0, (1, (.t 55))), (2, (1, (.t 57))), (3, (1, (.t 59)))]) none [] (.st (some 17) (.alloc 59 [(.str ⟨#[]⟩), (.int .i64 0), (.bool false), (.int .i64 0)]) none [] (.st none (.st 4 (.t 17) (.t 60)) none [] .fin))))))))) (.seq (.seq (.plan (.st (some 61) (.mv (.t 16)) none [] .fin)) (.cond (.t 61) (.plan (.st (some 62) (.mv (.t 15)) none [] (.st (some 63) (.call 39 [(.t 62)]) none [] (.st (some 64) (.fa 1 (.t 17)) none [] (.st none (.st 1 (.t 64) (.t 63)) none [] .fin))))) .skip)) (.plan (.st (some 65) (.mv (.t 7)) none [] (.st (some 66) (.lda 4 (.t 17)) none [] (.st (some 67) (.lit 59 4 1 [(.str ⟨#[]⟩), (.int .i64 0), (.bool false), (.int .i64 0)] [(0, (4, (.t 66)))]) none [] (.st (some 68) (.app 59 4 40 (.t 65) (.t 67)) none [] (.st (some 7) (.mv (.t 68)) none [] .fin)))))))))))) (.plan (.st (some 69) (.bin .add (.t 39) (.c (.int .i64 1))) none [] (.st (some 39) (.mv (.t 69)) none [] .fin))))))))) (.seq (.seq (.plan (.st (some 70) (.mv (.t 7)) none [] (.st (some 71) (.call 25 [(.t 70)]) none [] (.st (some 72) (.mv (.t 0)) none [] (.st (some 73) (.bin .neq (.t 71) (.t 72)) none [] .fin))))) (.cond (.t 73) (.seq (.plan (.st (some 2) (.mv (.c .nils)) none [] (.st (some 3) (.mv (.c (.bool false))) none [] .fin))) .ret) .skip)) (.seq (.plan (.st (some 74) (.mv (.t 7)) none [] (.st (some 75) (.call 52 [(.t 74)]) none [] (.st (some 2) (.mv (.t 75)) none [] (.st (some 3) (.mv (.c (.bool true))) none [] .fin))))) .ret)))))))), [(.t 2), (.t 3)]⟩
theorem h_impl_BlockRead : compF Tryd.prog 20 = some c_impl_BlockRead := by kernel_rfl
def c_laws_eqEntry : CF := ⟨25, (.seq (.plan (.st (some 2) (.box 59 4 (.t 0)) none [] (.st (some 3) (.box 59 4 (.t 1)) none [] (.st (some 4) (.mv (.c (.bool false))) none [] .fin)))) (.seq (.seq (.plan (.st (some 5) (.fa 0 (.t 2)) none [] (.st (some 6) (.ld (.t 5)) none [] (.st (some 7) (.fa 0 (.t 3)) none [] (.st (some 8) (.ld (.t 7)) none [] (.st (some 9) (.bin .neq (.t 6) (.t 8)) none [] .fin)))))) (.cond (.t 9) (.seq (.plan (.st (some 4) (.mv (.c (.bool false))) none [] .fin)) .ret) .skip)) (.seq (.seq (.plan (.st (some 10) (.fa 1 (.t 2)) none [] (.st (some 11) (.ld (.t 10)) none [] (.st (some 12) (.fa 1 (.t 3)) none [] (.st (some 13) (.ld (.t 12)) none [] (.st (some 14) (.bin .neq (.t 11) (.t 13)) none [] .fin)))))) (.cond (.t 14) (.seq (.plan (.st (some 4) (.mv (.c (.bool false))) none [] .fin)) .ret) .skip)) (.seq (.seq (.plan (.st (some 15) (.fa 2 (.t 2)) none [] (.st (some 16) (.ld (.t 15)) none [] (.st (some 17) (.fa 2 (.t 3)) none [] (.st (some 18) (.ld (.t 17)) none [] (.st (some 19) (.eqb true (.t 16) (.t 18)) none [] .fin)))))) (.cond (.t 19) (.seq (.plan (.st (some 4) (.mv (.c (.bool false))) none [] .fin)) .ret) .skip)) (.seq (.seq (.plan (.st (some 20) (.fa 3 (.t 2)) none [] (.st (some 21) (.ld (.t 20)) none [] (.st (some 22) (.fa 3 (.t 3)) none [] (.st (some 23) (.ld (.t 22)) none [] (.st (some 24) (.bin .neq (.t 21) (.t 23)) none [] .fin)))))) (.cond (.t 24) (.seq (.plan (.st (some 4) (.mv (.c (.bool false))) none [] .fin)) .ret) .skip)) (.seq (.plan (.st (some 4) (.mv (.c (.bool true))) none [] .fin)) .ret)))))), [(.t 4)]⟩
theorem h_laws_eqEntry : compF Tryd.prog 53 = some c_laws_eqEntry := by kernel_rfl
def c_laws_eqEntryS : CF := ⟨27, (.seq (.plan (.st (some 4) (.mv (.c (.bool false))) none [] .fin)) (.seq (.seq (.plan (.st (some 6) (.mv (.t 0)) none [] (.st (some 7) (.len (.t 6)) none [] (.st (some 8) (.mv (.t 1)) none [] (.st (some 9) (.len (.t 8)) none [] (.st (some 10) (.bin .neq (.t 7) (.t 9)) none [] .fin)))))) (.cond (.t 10) (.seq (.plan (.st (some 4) (.mv (.c (.bool false))) none [] .fin)) .ret) .skip)) (.seq (.seq (.plan (.st (some 5) (.mv (.c (.int .i64 0))) none [] .fin)) (.block 0 (.loop (.seq (.seq (.plan (.st (some 11) (.mv (.t 5)) none [] (.st (some 12) (.mv (.t 0)) none [] (.st (some 13) (.len (.t 12)) none [] (.st (some 14) (.bin .lss (.t 11) (.t 13)) none [] .fin))))) (.cond (.t 14) .skip (.exit 0))) (.seq (.block 1 (.seq (.plan (.st (some 17) (.mv (.t 0)) none [] (.st (some 18) (.mv (.t 5)) none [] (.st (some 19) (.ia 4 (.t 17) (.t 18)) none [] (.st (some 20) (.lda 4 (.t 19)) none [] (.st (some 21) (.mv (.t 1)) none [] (.st (some 22) (.mv (.t 5)) none [] (.st (some 23) (.ia 4 (.t 21) (.t 22)) none [] (.st (some 24) (.lda 4 (.t 23)) none [] (.st (some 25) (.call 53 [(.t 20), (.t 24)]) none [] (.st (some 26) (.not (.t 25)) none [] .fin))))))))))) (.cond (.t 26) (.seq (.plan (.st (some 4) (.mv (.c (.bool false))) none [] .fin)) .ret) .skip))) (.plan (.st (some 15) (.mv (.t 5)) none [] (.st (some 16) (.bin .add (.t 15) (.c (.int .i64 1))) none [] (.st (some 5) (.mv (.t 16)) none [] .fin))))))))) (.seq (.plan (.st (some 4) (.mv (.c (.bool true))) none [] .fin)) .ret)))), [(.t 4)]⟩
theorem h_laws_eqEntryS : compF Tryd.prog 21 = some c_laws_eqEntryS := by kernel_rfl
def c_laws_markText : CF := ⟨20, (.seq (.plan (.st (some 2) (.mv (.c (.str ⟨#[]⟩))) none [] .fin)) (.seq (.seq (.plan (.st (some 4) (.mv (.t 0)) none [] (.st (some 5) (.bin .leq (.t 4) (.c (.int .i64 0))) none [] .fin))) (.cond (.t 5) (.seq (.plan (.st (some 2) (.mv (.c (.str ⟨#[109, 48]⟩))) none [] .fin)) .ret) .skip)) (.seq (.plan (.st (some 3) (.mv (.c (.str ⟨#[]⟩))) none [] .fin)) (.seq (.block 0 (.loop (.seq (.seq (.plan (.st (some 6) (.mv (.t 0)) none [] (.st (some 7) (.bin .gtr (.t 6) (.c (.int .i64 0))) none [] .fin))) (.cond (.t 7) .skip (.exit 0))) (.block 1 (.seq (.plan (.st (some 8) (.mv (.t 0)) none [] (.st (some 9) (.bin .rem (.t 8) (.c (.int .i64 10))) none [] (.st (some 10) (.bin .add (.c (.int .i64 48)) (.t 9)) none [] (.st (some 11) (.cv .u8 (.t 10)) none [] (.st (some 12) (.lit 5 1 1 [(.int .u8 0)] [(0, (1, (.t 11)))]) none [] (.st (some 13) (.cvs (.t 12)) none [] (.st (some 14) (.mv (.t 3)) none [] (.st (some 15) (.bin .add (.t 13) (.t 14)) none [] (.st (some 3) (.mv (.t 15)) none [] .fin)))))))))) (.plan (.st (some 16) (.mv (.t 0)) none [] (.st (some 17) (.bin .quo (.t 16) (.c (.int .i64 10))) none [] (.st (some 0) (.mv (.t 17)) none [] .fin))))))))) (.seq (.plan (.st (some 18) (.mv (.t 3)) none [] (.st (some 19) (.bin .add (.c (.str ⟨#[109]⟩)) (.t 18)) none [] (.st (some 2) (.mv (.t 19)) none [] .fin)))) .ret))))), [(.t 2)]⟩
theorem h_laws_markText : compF Tryd.prog 54 = some c_laws_markText := by kernel_rfl
def c_laws_markEntryS : CF := ⟨44, (.seq (.plan (.st (some 4) (.mv (.c (.int .i64 0))) none [] .fin)) (.seq (.seq (.plan (.st (some 5) (.mv (.c (.int .i64 0))) none [] .fin)) (.block 0 (.loop (.seq (.seq (.plan (.st (some 6) (.mv (.t 5)) none [] (.st (some 7) (.mv (.t 0)) none [] (.st (some 8) (.len (.t 7)) none [] (.st (some 9) (.bin .lss (.t 6) (.t 8)) none [] .fin))))) (.cond (.t 9) .skip (.exit 0))) (.seq (.block 1 (.seq (.plan (.st (some 12) (.mv (.t 0)) none [] (.st (some 13) (.mv (.t 5)) none [] (.st (some 14) (.mv (.t 1)) none [] (.st (some 15) (.call 54 [(.t 14)]) none [] (.st (some 16) (.ia 4 (.t 12) (.t 13)) none [] (.st (some 17) (.fa 0 (.t 16)) none [] (.st none (.st 1 (.t 17) (.t 15)) none [] .fin)))))))) (.seq (.plan (.st (some 18) (.mv (.t 1)) none [] (.st (some 19) (.bin .add (.t 18) (.c (.int .i64 1))) none [] (.st (some 1) (.mv (.t 19)) none [] .fin)))) (.seq (.plan (.st (some 20) (.mv (.t 0)) none [] (.st (some 21) (.mv (.t 5)) none [] (.st (some 22) (.mv (.t 1)) none [] (.st (some 23) (.ia 4 (.t 20) (.t 21)) none [] (.st (some 24) (.fa 1 (.t 23)) none [] (.st none (.st 1 (.t 24) (.t 22)) none [] .fin))))))) (.seq (.plan (.st (some 25) (.mv (.t 1)) none [] (.st (some 26) (.bin .add (.t 25) (.c (.int .i64 1))) none [] (.st (some 1) (.mv (.t 26)) none [] .fin)))) (.seq (.plan (.st (some 27) (.mv (.t 0)) none [] (.st (some 28) (.mv (.t 5)) none [] (.st (some 29) (.mv (.t 1)) none [] (.st (some 30) (.bin .rem (.t 29) (.c (.int .i64 3))) none [] (.st (some 31) (.bin .eql (.t 30) (.c (.int .i64 0))) none [] (.st (some 32) (.ia 4 (.t 27) (.t 28)) none [] (.st (some 33) (.fa 2 (.t 32)) none [] (.st none (.st 1 (.t 33) (.t 31)) none [] .fin))))))))) (.seq (.plan (.st (some 34) (.mv (.t 1)) none [] (.st (some 35) (.bin .add (.t 34) (.c (.int .i64 1))) none [] (.st (some 1) (.mv (.t 35)) none [] .fin)))) (.seq (.plan (.st (some 36) (.mv (.t 0)) none [] (.st (some 37) (.mv (.t 5)) none [] (.st (some 38) (.mv (.t 1)) none [] (.st (some 39) (.ia 4 (.t 36) (.t 37)) none [] (.st (some 40) (.fa 3 (.t 39)) none [] (.st none (.st 1 (.t 40) (.t 38)) none [] .fin))))))) (.plan (.st (some 41) (.mv (.t 1)) none [] (.st (some 42) (.bin .add (.t 41) (.c (.int .i64 1))) none [] (.st (some 1) (.mv (.t 42)) none [] .fin)))))))))))) (.plan (.st (some 10) (.mv (.t 5)) none [] (.st (some 11) (.bin .add (.t 10) (.c (.int .i64 1))) none [] (.st (some 5) (.mv (.t 11)) none [] .fin))))))))) (.seq (.plan (.st (some 43) (.mv (.t 1)) none [] (.st (some 4) (.mv (.t 43)) none [] .fin))) .ret))), [(.t 4)]⟩
theorem h_laws_markEntryS : compF Tryd.prog 22 = some c_laws_markEntryS := by kernel_rfl
def c_laws_heldEntryS : CF := ⟨52, (.seq (.plan (.st (some 4) (.mv (.c (.int .i64 0))) none [] .fin)) (.seq (.seq (.plan (.st (some 5) (.mv (.c (.int .i64 0))) none [] .fin)) (.block 0 (.loop (.seq (.seq (.plan (.st (some 6) (.mv (.t 5)) none [] (.st (some 7) (.mv (.t 0)) none [] (.st (some 8) (.len (.t 7)) none [] (.st (some 9) (.bin .lss (.t 6) (.t 8)) none [] .fin))))) (.cond (.t 9) .skip (.exit 0))) (.seq (.block 1 (.seq (.seq (.plan (.st (some 12) (.mv (.t 0)) none [] (.st (some 13) (.mv (.t 5)) none [] (.st (some 14) (.ia 4 (.t 12) (.t 13)) none [] (.st (some 15) (.fa 0 (.t 14)) none [] (.st (some 16) (.ld (.t 15)) none [] (.st (some 17) (.mv (.t 1)) none [] (.st (some 18) (.call 54 [(.t 17)]) none [((some 16), ((.ld (.t 15)), none)), ((some 14), ((.ia 4 (.t 12) (.t 13)), none))] (.st (some 19) (.bin .neq (.t 16) (.t 18)) none [] .fin))))))))) (.cond (.t 19) (.seq (.plan (.st (some 4) (.mv (.c (.int .i64 (-1)))) none [] .fin)) .ret) .skip)) (.seq (.plan (.st (some 20) (.mv (.t 1)) none [] (.st (some 21) (.bin .add (.t 20) (.c (.int .i64 1))) none [] (.st (some 1) (.mv (.t 21)) none [] .fin)))) (.seq (.seq (.plan (.st (some 22) (.mv (.t 0)) none [] (.st (some 23) (.mv (.t 5)) none [] (.st (some 24) (.ia 4 (.t 22) (.t 23)) none [] (.st (some 25) (.fa 1 (.t 24)) none [] (.st (some 26) (.ld (.t 25)) none [] (.st (some 27) (.mv (.t 1)) none [] (.st (some 28) (.bin .neq (.t 26) (.t 27)) none [] .fin)))))))) (.cond (.t 28) (.seq (.plan (.st (some 4) (.mv (.c (.int .i64 (-1)))) none [] .fin)) .ret) .skip)) (.seq (.plan (.st (some 29) (.mv (.t 1)) none [] (.st (some 30) (.bin .add (.t 29) (.c (.int .i64 1))) none [] (.st (some 1) (.mv (.t 30)) none [] .fin)))) (.seq (.seq (.plan (.st (some 31) (.mv (.t 0)) none [] (.st (some 32) (.mv (.t 5)) none [] (.st (some 33) (.ia 4 (.t 31) (.t 32)) none [] (.st (some 34) (.fa 2 (.t 33)) none [] (.st (some 35) (.ld (.t 34)) none [] (.st (some 36) (.mv (.t 1)) none [] (.st (some 37) (.bin .rem (.t 36) (.c (.int .i64 3))) none [] (.st (some 38) (.bin .eql (.t 37) (.c (.int .i64 0))) none [] (.st (some 39) (.eqb true (.t 35) (.t 38)) none [] .fin)))))))))) (.cond (.t 39) (.seq (.plan (.st (some 4) (.mv (.c (.int .i64 (-1)))) none [] .fin)) .ret) .skip)) (.seq (.plan (.st (some 40) (.mv (.t 1)) none [] (.st (some 41) (.bin .add (.t 40) (.c (.int .i64 1))) none [] (.st (some 1) (.mv (.t 41)) none [] .fin)))) (.seq (.seq (.plan (.st (some 42) (.mv (.t 0)) none [] (.st (some 43) (.mv (.t 5)) none [] (.st (some 44) (.ia 4 (.t 42) (.t 43)) none [] (.st (some 45) (.fa 3 (.t 44)) none [] (.st (some 46) (.ld (.t 45)) none [] (.st (some 47) (.mv (.t 1)) none [] (.st (some 48) (.bin .neq (.t 46) (.t 47)) none [] .fin)))))))) (.cond (.t 48) (.seq (.plan (.st (some 4) (.mv (.c (.int .i64 (-1)))) none [] .fin)) .ret) .skip)) (.plan (.st (some 49) (.mv (.t 1)) none [] (.st (some 50) (.bin .add (.t 49) (.c (.int .i64 1))) none [] (.st (some 1) (.mv (.t 50)) none [] .fin)))))))))))) (.plan (.st (some 10) (.mv (.t 5)) none [] (.st (some 11) (.bin .add (.t 10) (.c (.int .i64 1))) none [] (.st (some 5) (.mv (.t 11)) none [] .fin))))))))) (.seq (.plan (.st (some 51) (.mv (.t 1)) none [] (.st (some 4) (.mv (.t 51)) none [] .fin))) .ret))), [(.t 4)]⟩
theorem h_laws_heldEntryS : compF Tryd.prog 23 = some c_laws_heldEntryS := by kernel_rfl
def c_laws_FnExactBlockRead : CF := ⟨66, (.seq (.plan (.st (some 2) (.mv (.c (.bool false))) none [] .fin)) (.seq (.seq (.plan (.st (some 11) (.mv (.t 0)) none [] (.st (some 12) (.lns (.t 11)) none [] (.st (some 13) (.bin .gtr (.t 12) (.c (.int .i64 1048576))) none [] .fin)))) (.cond (.t 13) (.seq (.plan (.st (some 2) (.mv (.c (.bool true))) none [] .fin)) .ret) .skip)) (.seq (.plan (.st (some 15) (.mv (.t 0)) none [] (.st (some 16) (.call 19 [(.t 15)]) none [] (.st (some 14) (.mv (.t 16)) none [] (.st (some 17) (.ext 0 (.t 14)) none [] (.st (some 18) (.ext 1 (.t 14)) none [] (.st (some 3) (.mv (.t 17)) none [] (.st (some 4) (.mv (.t 18)) none [] .fin)))))))) (.seq (.plan (.st (some 20) (.mv (.t 0)) none [] (.st (some 21) (.call 20 [(.t 20)]) none [] (.st (some 19) (.mv (.t 21)) none [] (.st (some 22) (.ext 0 (.t 19)) none [] (.st (some 23) (.ext 1 (.t 19)) none [] (.st (some 5) (.mv (.t 22)) none [] (.st (some 6) (.mv (.t 23)) none [] .fin)))))))) (.seq (.seq (.plan (.st (some 24) (.mv (.t 5)) none [] (.st (some 25) (.mv (.t 3)) none [] (.st (some 26) (.call 21 [(.t 24), (.t 25)]) none [] (.st (some 27) (.not (.t 26)) none [] (.st (some 28) (.mv (.t 27)) none [] (.st (some 29) (.mv (.t 6)) (some (28, false)) [] (.st (some 30) (.mv (.t 4)) (some (28, false)) [] (.st (some 31) (.eqb true (.t 29) (.t 30)) (some (28, false)) [] (.st (some 32) (.pick (.t 28) (.c (.bool true)) (.t 31)) none [] .fin)))))))))) (.cond (.t 32) (.seq (.plan (.st (some 2) (.mv (.c (.bool false))) none [] .fin)) .ret) .skip)) (.seq (.plan (.st (some 7) (.mv (.c (.int .i64 1))) none [] .fin)) (.seq (.plan (.st (some 33) (.mv (.t 5)) none [] (.st (some 34) (.mv (.t 7)) none [] (.st (some 35) (.call 22 [(.t 33), (.t 34)]) none [] (.st (some 7) (.mv (.t 35)) none [] .fin))))) (.seq (.plan (.st (some 8) (.mv (.c (.int .i64 1))) none [] .fin)) (.seq (.plan (.st (some 36) (.mv (.t 5)) none [] (.st (some 37) (.mv (.t 8)) none [] (.st (some 38) (.call 23 [(.t 36), (.t 37)]) none [] (.st (some 8) (.mv (.t 38)) none [] .fin))))) (.seq (.seq (.plan (.st (some 39) (.mv (.t 8)) none [] (.st (some 40) (.bin .lss (.t 39) (.c (.int .i64 0))) none [] .fin))) (.cond (.t 40) (.seq (.plan (.st (some 2) (.mv (.c (.bool false))) none [] .fin)) .ret) .skip)) (.seq (.seq (.plan (.st (some 41) (.mv (.t 8)) none [] (.st (some 42) (.mv (.t 7)) none [] (.st (some 43) (.bin .neq (.t 41) (.t 42)) none [] .fin)))) (.cond (.t 43) (.seq (.plan (.st (some 2) (.mv (.c (.bool false))) none [] .fin)) .ret) .skip)) (.seq (.plan (.st (some 45) (.mv (.t 0)) none [] (.st (some 46) (.call 20 [(.t 45)]) none [] (.st (some 44) (.mv (.t 46)) none [] (.st (some 47) (.ext 0 (.t 44)) none [] (.st (some 48) (.ext 1 (.t 44)) none [] (.st (some 9) (.mv (.t 47)) none [] (.st (some 10) (.mv (.t 48)) none [] .fin)))))))) (.seq (.seq (.plan (.st (some 49) (.mv (.t 9)) none [] (.st (some 50) (.mv (.t 3)) none [] (.st (some 51) (.call 21 [(.t 49), (.t 50)]) none [] (.st (some 52) (.not (.t 51)) none [] (.st (some 53) (.mv (.t 52)) none [] (.st (some 54) (.mv (.t 10)) (some (53, false)) [] (.st (some 55) (.mv (.t 4)) (some (53, false)) [] (.st (some 56) (.eqb true (.t 54) (.t 55)) (some (53, false)) [] (.st (some 57) (.pick (.t 53) (.c (.bool true)) (.t 56)) none [] .fin)))))))))) (.cond (.t 57) (.seq (.plan (.st (some 2) (.mv (.c (.bool false))) none [] .fin)) .ret) .skip)) (.seq (.plan (.st (some 8) (.mv (.c (.int .i64 1))) none [] .fin)) (.seq (.plan (.st (some 58) (.mv (.t 5)) none [] (.st (some 59) (.mv (.t 8)) none [] (.st (some 60) (.call 23 [(.t 58), (.t 59)]) none [] (.st (some 8) (.mv (.t 60)) none [] .fin))))) (.seq (.seq (.plan (.st (some 61) (.mv (.t 8)) none [] (.st (some 62) (.bin .lss (.t 61) (.c (.int .i64 0))) none [] .fin))) (.cond (.t 62) (.seq (.plan (.st (some 2) (.mv (.c (.bool false))) none [] .fin)) .ret) .skip)) (.seq (.seq (.plan (.st (some 63) (.mv (.t 8)) none [] (.st (some 64) (.mv (.t 7)) none [] (.st (some 65) (.bin .neq (.t 63) (.t 64)) none [] .fin)))) (.cond (.t 65) (.seq (.plan (.st (some 2) (.mv (.c (.bool false))) none [] .fin)) .ret) .skip)) (.seq (.plan (.st (some 2) (.mv (.c (.bool true))) none [] .fin)) .ret)))))))))))))))))), [(.t 2)]⟩
theorem h_laws_FnExactBlockRead : compF Tryd.prog 6 = some c_laws_FnExactBlockRead := by kernel_rfl
def c_spec_l2Put : CF := ⟨50, (.seq (.plan (.st (some 4) (.mv (.c .nils)) none [] .fin)) (.seq (.plan (.st (some 8) (.lit 9 1 0 [] []) none [] (.st (some 5) (.mv (.t 8)) none [] .fin))) (.seq (.plan (.st (some 6) (.mv (.c (.bool false))) none [] .fin)) (.seq (.seq (.plan (.st (some 7) (.mv (.c (.int .i64 0))) none [] .fin)) (.block 0 (.loop (.seq (.seq (.plan (.st (some 9) (.mv (.t 7)) none [] (.st (some 10) (.mv (.t 0)) none [] (.st (some 11) (.len (.t 10)) none [] (.st (some 12) (.bin .lss (.t 9) (.t 11)) none [] .fin))))) (.cond (.t 12) .skip (.exit 0))) (.seq (.block 1 (.seq (.seq (.plan (.st (some 15) (.mv (.t 0)) none [] (.st (some 16) (.mv (.t 7)) none [] (.st (some 17) (.ia 1 (.t 15) (.t 16)) none [] (.st (some 18) (.ld (.t 17)) none [] (.st (some 19) (.mv (.t 1)) none [] (.st (some 20) (.bin .eql (.t 18) (.t 19)) none [] .fin))))))) (.cond (.t 20) (.seq (.plan (.st (some 21) (.mv (.t 0)) none [] (.st (some 4) (.mv (.t 21)) none [] .fin))) .ret) .skip)) (.seq (.seq (.plan (.st (some 22) (.mv (.t 6)) none [] (.st (some 23) (.not (.t 22)) none [] (.st (some 24) (.mv (.t 23)) none [] (.st (some 25) (.mv (.t 0)) (some (24, true)) [] (.st (some 26) (.mv (.t 7)) (some (24, true)) [] (.st (some 27) (.ia 1 (.t 25) (.t 26)) (some (24, true)) [] (.st (some 28) (.ld (.t 27)) (some (24, true)) [] (.st (some 29) (.mv (.t 1)) (some (24, true)) [] (.st (some 30) (.bin .gtr (.t 28) (.t 29)) (some (24, true)) [] (.st (some 31) (.pick (.t 24) (.t 30) (.c (.bool false))) none [] .fin))))))))))) (.cond (.t 31) (.seq (.plan (.st (some 32) (.mv (.t 5)) none [] (.st (some 33) (.mv (.t 1)) none [] (.st (some 34) (.lit 9 1 1 [(.str ⟨#[]⟩)] [(0, (1, (.t 33)))]) none [] (.st (some 35) (.app 9 1 16 (.t 32) (.t 34)) none [] (.st (some 5) (.mv (.t 35)) none [] .fin)))))) (.plan (.st (some 6) (.mv (.c (.bool true))) none [] .fin))) .skip)) (.plan (.st (some 36) (.mv (.t 5)) none [] (.st (some 37) (.mv (.t 0)) none [] (.st (some 38) (.mv (.t 7)) none [] (.st (some 39) (.ia 1 (.t 37) (.t 38)) none [] (.st (some 40) (.ld (.t 39)) none [] (.st (some 41) (.lit 9 1 1 [(.str ⟨#[]⟩)] [(0, (1, (.t 40)))]) none [] (.st (some 42) (.app 9 1 16 (.t 36) (.t 41)) none [] (.st (some 5) (.mv (.t 42)) none [] .fin)))))))))))) (.plan (.st (some 13) (.mv (.t 7)) none [] (.st (some 14) (.bin .add (.t 13) (.c (.int .i64 1))) none [] (.st (some 7) (.mv (.t 14)) none [] .fin))))))))) (.seq (.seq (.plan (.st (some 43) (.mv (.t 6)) none [] (.st (some 44) (.not (.t 43)) none [] .fin))) (.cond (.t 44) (.plan (.st (some 45) (.mv (.t 5)) none [] (.st (some 46) (.mv (.t 1)) none [] (.st (some 47) (.lit 9 1 1 [(.str ⟨#[]⟩)] [(0, (1, (.t 46)))]) none [] (.st (some 48) (.app 9 1 16 (.t 45) (.t 47)) none [] (.st (some 5) (.mv (.t 48)) none [] .fin)))))) .skip)) (.seq (.plan (.st (some 49) (.mv (.t 5)) none [] (.st (some 4) (.mv (.t 49)) none [] .fin))) .ret)))))), [(.t 4)]⟩
theorem h_spec_l2Put : compF Tryd.prog 89 = some c_spec_l2Put := by kernel_rfl
def c_spec_l71Keys : CF := ⟨22, (.seq (.plan (.st (some 4) (.mv (.c .nils)) none [] .fin)) (.seq (.plan (.st (some 7) (.lit 9 1 0 [] []) none [] (.st (some 5) (.mv (.t 7)) none [] .fin))) (.seq (.seq (.plan (.st (some 8) (.mv (.t 0)) none [] (.st (some 9) (.mv (.t 1)) none [] (.st (some 10) (.bin .add (.t 9) (.c (.int .i64 1))) none [] (.st (some 11) (.call 42 [(.t 8), (.t 10)]) none [] (.st (some 6) (.mv (.t 11)) none [] .fin)))))) (.block 0 (.loop (.seq (.seq (.plan (.st (some 12) (.mv (.t 6)) none [] (.st (some 13) (.bin .gtr (.t 12) (.c (.int .i64 0))) none [] .fin))) (.cond (.t 13) .skip (.exit 0))) (.seq (.block 1 (.plan (.st (some 16) (.mv (.t 5)) none [] (.st (some 17) (.mv (.t 0)) none [] (.st (some 18) (.mv (.t 5)) none [] (.st (some 19) (.call 66 [(.t 17), (.t 18)]) none [] (.st (some 20) (.call 89 [(.t 16), (.t 19)]) none [] (.st (some 5) (.mv (.t 20)) none [] .fin)))))))) (.plan (.st (some 14) (.mv (.t 6)) none [] (.st (some 15) (.bin .sub (.t 14) (.c (.int .i64 1))) none [] (.st (some 6) (.mv (.t 15)) none [] .fin))))))))) (.seq (.plan (.st (some 21) (.mv (.t 5)) none [] (.st (some 4) (.mv (.t 21)) none [] .fin))) .ret)))), [(.t 4)]⟩
theorem h_spec_l71Keys : compF Tryd.prog 76 = some c_spec_l71Keys := by kernel_rfl
def c_spec_l11Join : CF := ⟨51, (.seq (.plan (.st (some 4) (.mv (.c .nils)) none [] .fin)) (.seq (.plan (.st (some 8) (.lit 59 4 0 [] []) none [] (.st (some 5) (.mv (.t 8)) none [] .fin))) (.seq (.plan (.st (some 6) (.mv (.c (.int .i64 0))) none [] .fin)) (.seq (.seq (.plan (.st (some 7) (.mv (.c (.int .i64 0))) none [] .fin)) (.block 0 (.loop (.seq (.seq (.plan (.st (some 9) (.mv (.t 7)) none [] (.st (some 10) (.mv (.t 1)) none [] (.st (some 11) (.len (.t 10)) none [] (.st (some 12) (.bin .lss (.t 9) (.t 11)) none [] .fin))))) (.cond (.t 12) .skip (.exit 0))) (.seq (.block 1 (.seq (.block 2 (.loop (.seq (.seq (.plan (.st (some 15) (.mv (.t 6)) none [] (.st (some 16) (.mv (.t 0)) none [] (.st (some 17) (.len (.t 16)) none [] (.st (some 18) (.bin .lss (.t 15) (.t 17)) none [] (.st (some 19) (.mv (.t 18)) none [] (.st (some 20) (.mv (.t 0)) (some (19, true)) [] (.st (some 21) (.mv (.t 6)) (some (19, true)) [] (.st (some 22) (.ia 4 (.t 20) (.t 21)) (some (19, true)) [] (.st (some 23) (.lda 4 (.t 22)) (some (19, true)) [] (.st (some 24) (.mv (.t 1)) (some (19, true)) [] (.st (some 25) (.mv (.t 7)) (some (19, true)) [] (.st (some 26) (.ia 4 (.t 24) (.t 25)) (some (19, true)) [] (.st (some 27) (.lda 4 (.t 26)) (some (19, true)) [] (.st (some 28) (.call 73 [(.t 23), (.t 27)]) (some (19, true)) [] (.st (some 29) (.pick (.t 19) (.t 28) (.c (.bool false))) none [] .fin)))))))))))))))) (.cond (.t 29) .skip (.exit 2))) (.block 3 (.seq (.plan (.st (some 30) (.mv (.t 5)) none [] (.st (some 31) (.mv (.t 0)) none [] (.st (some 32) (.mv (.t 6)) none [] (.st (some 33) (.ia 4 (.t 31) (.t 32)) none [] (.st (some 34) (.lda 4 (.t 33)) none [] (.st (some 35) (.lit 59 4 1 [(.str ⟨#[]⟩), (.int .i64 0), (.bool false), (.int .i64 0)] [(0, (4, (.t 34)))]) none [] (.st (some 36) (.app 59 4 40 (.t 30) (.t 35)) none [] (.st (some 5) (.mv (.t 36)) none [] .fin))))))))) (.plan (.st (some 37) (.mv (.t 6)) none [] (.st (some 38) (.bin .add (.t 37) (.c (.int .i64 1))) none [] (.st (some 6) (.mv (.t 38)) none [] .fin))))))))) (.plan (.st (some 39) (.mv (.t 5)) none [] (.st (some 40) (.mv (.t 1)) none [] (.st (some 41) (.mv (.t 7)) none [] (.st (some 42) (.ia 4 (.t 40) (.t 41)) none [] (.st (some 43) (.lda 4 (.t 42)) none [] (.st (some 44) (.lit 59 4 1 [(.str ⟨#[]⟩), (.int .i64 0), (.bool false), (.int .i64 0)] [(0, (4, (.t 43)))]) none [] (.st (some 45) (.app 59 4 40 (.t 39) (.t 44)) none [] (.st (some 5) (.mv (.t 45)) none [] .fin))))))))))) (.plan (.st (some 13) (.mv (.t 7)) none [] (.st (some 14) (.bin .add (.t 13) (.c (.int .i64 1))) none [] (.st (some 7) (.mv (.t 14)) none [] .fin))))))))) (.seq (.plan (.st (some 46) (.mv (.t 5)) none [] (.st (some 47) (.mv (.t 0)) none [] (.st (some 48) (.mv (.t 6)) none [] (.st (some 49) (.cut 4 (.t 47) (some (.t 48)) none) none [] (.st (some 50) (.app 59 4 40 (.t 46) (.t 49)) none [] (.st (some 4) (.mv (.t 50)) none [] .fin))))))) .ret))))), [(.t 4)]⟩
theorem h_spec_l11Join : compF Tryd.prog 77 = some c_spec_l11Join := by kernel_rfl
def c_spec_l71Run : CF := ⟨43, (.seq (.plan (.st (some 4) (.mv (.c .nils)) none [] .fin)) (.seq (.plan (.st (some 10) (.mv (.t 0)) none [] (.st (some 11) (.call 76 [(.t 10), (.c (.int .i64 5))]) none [] (.st (some 5) (.mv (.t 11)) none [] .fin)))) (.seq (.plan (.st (some 12) (.lit 59 4 0 [] []) none [] (.st (some 6) (.mv (.t 12)) none [] .fin))) (.seq (.seq (.plan (.st (some 13) (.mv (.t 0)) none [] (.st (some 14) (.mv (.t 1)) none [] (.st (some 15) (.bin .add (.t 14) (.c (.int .i64 1))) none [] (.st (some 16) (.call 42 [(.t 13), (.t 15)]) none [] (.st (some 7) (.mv (.t 16)) none [] .fin)))))) (.block 0 (.loop (.seq (.seq (.plan (.st (some 17) (.mv (.t 7)) none [] (.st (some 18) (.bin .gtr (.t 17) (.c (.int .i64 0))) none [] .fin))) (.cond (.t 18) .skip (.exit 0))) (.seq (.block 1 (.seq (.plan (.st (some 21) (.mv (.t 0)) none [] (.st (some 22) (.mv (.t 5)) none [] (.st (some 23) (.call 66 [(.t 21), (.t 22)]) none [] (.st (some 24) (.mv (.t 0)) none [] (.st (some 25) (.call 42 [(.t 24), (.c (.int .i64 100))]) none [] (.st (some 26) (.mv (.t 0)) none [] (.st (some 27) (.call 42 [(.t 26), (.c (.int .i64 60))]) none [] (.st (some 28) (.bin .add (.c (.int .i64 1)) (.t 27)) none [] (.st (some 29) (.build [(.str ⟨#[]⟩), (.int .i64 0), (.bool false), (.int .i64 0)] [(0, (1, (.t 23))), (1, (1, (.t 25))), (3, (1, (.t 28)))]) none [] (.st (some 8) (.alloc 59 [(.str ⟨#[]⟩), (.int .i64 0), (.bool false), (.int .i64 0)]) none [] (.st none (.st 4 (.t 8) (.t 29)) none [] .fin)))))))))))) (.seq (.seq (.plan (.st (some 30) (.mv (.t 0)) none [] (.st (some 31) (.call 42 [(.t 30), (.c (.int .i64 4))]) none [] (.st (some 32) (.bin .eql (.t 31) (.c (.int .i64 0))) none [] .fin)))) (.cond (.t 32) (.seq (.plan (.st (some 33) (.fa 2 (.t 8)) none [] (.st none (.st 1 (.t 33) (.c (.bool true))) none [] .fin))) (.plan (.st (some 34) (.fa 1 (.t 8)) none [] (.st none (.st 1 (.t 34) (.c (.int .i64 0))) none [] .fin)))) .skip)) (.seq (.plan (.st (some 35) (.mv (.t 6)) none [] (.st (some 36) (.lda 4 (.t 8)) none [] (.st (some 37) (.lit 59 4 1 [(.str ⟨#[]⟩), (.int .i64 0), (.bool false), (.int .i64 0)] [(0, (4, (.t 36)))]) none [] (.st (some 38) (.call 77 [(.t 35), (.t 37)]) none [] (.st (some 9) (.mv (.t 38)) none [] .fin)))))) (.seq (.plan (.st (some 39) (.mv (.t 9)) none [] (.st (some 40) (.call 57 [(.t 39)]) none [] .fin))) (.cond (.t 40) (.plan (.st (some 41) (.mv (.t 9)) none [] (.st (some 6) (.mv (.t 41)) none [] .fin))) .skip)))))) (.plan (.st (some 19) (.mv (.t 7)) none [] (.st (some 20) (.bin .sub (.t 19) (.c (.int .i64 1))) none [] (.st (some 7) (.mv (.t 20)) none [] .fin))))))))) (.seq (.plan (.st (some 42) (.mv (.t 6)) none [] (.st (some 4) (.mv (.t 42)) none [] .fin))) .ret))))), [(.t 4)]⟩
theorem h_spec_l71Run : compF Tryd.prog 60 = some c_spec_l71Run := by kernel_rfl
def c_spec_l71Off : CF := ⟨45, (.seq (.plan (.st (some 2) (.mv (.c .nils)) none [] .fin)) (.seq (.plan (.st (some 4) (.mv (.t 0)) none [] (.st (some 5) (.call 60 [(.t 4), (.c (.int .i64 10))]) none [] (.st (some 3) (.mv (.t 5)) none [] .fin)))) (.seq (.seq (.plan (.st (some 6) (.mv (.t 0)) none [] (.st (some 7) (.call 42 [(.t 6), (.c (.int .i64 12))]) none [] (.st (some 8) (.bin .gtr (.t 7) (.c (.int .i64 0))) none [] .fin)))) (.cond (.t 8) (.seq (.plan (.st (some 9) (.mv (.t 3)) none [] (.st (some 2) (.mv (.t 9)) none [] .fin))) .ret) .skip)) (.seq (.seq (.plan (.st (some 10) (.mv (.t 0)) none [] (.st (some 11) (.call 42 [(.t 10), (.c (.int .i64 5))]) none [] .fin))) (.block 0 (.seq (.plan (.st (some 13) (.bin .eql (.t 11) (.c (.int .i64 0))) none [] (.st (some 12) (.mv (.t 13)) none [] .fin))) (.cond (.t 12) (.seq (.plan (.st (some 14) (.mv (.t 3)) none [] (.st (some 15) (.build [(.str ⟨#[]⟩), (.int .i64 0), (.bool false), (.int .i64 0)] [(0, (1, (.c (.str ⟨#[]⟩)))), (3, (1, (.c (.int .i64 1))))]) none [] (.st (some 16) (.lit 59 4 1 [(.str ⟨#[]⟩), (.int .i64 0), (.bool false), (.int .i64 0)] [(0, (4, (.t 15)))]) none [] (.st (some 17) (.app 59 4 40 (.t 14) (.t 16)) none [] (.st (some 2) (.mv (.t 17)) none [] .fin)))))) .ret) (.seq (.plan (.st (some 19) (.bin .eql (.t 11) (.c (.int .i64 1))) none [] (.st (some 18) (.mv (.t 19)) none [] .fin))) (.cond (.t 18) (.seq (.plan (.st (some 20) (.mv (.t 3)) none [] (.st (some 21) (.build [(.str ⟨#[]⟩), (.int .i64 0), (.bool false), (.int .i64 0)] [(0, (1, (.c (.str ⟨#[100, 100, 100, 100, 100, 100]⟩)))), (3, (1, (.c (.int .i64 1))))]) none [] (.st (some 22) (.lit 59 4 1 [(.str ⟨#[]⟩), (.int .i64 0), (.bool false), (.int .i64 0)] [(0, (4, (.t 21)))]) none [] (.st (some 23) (.app 59 4 40 (.t 20) (.t 22)) none [] (.st (some 2) (.mv (.t 23)) none [] .fin)))))) .ret) (.seq (.plan (.st (some 25) (.bin .eql (.t 11) (.c (.int .i64 2))) none [] (.st (some 24) (.mv (.t 25)) none [] .fin))) (.cond (.t 24) (.seq (.plan (.st (some 26) (.mv (.t 3)) none [] (.st (some 27) (.build [(.str ⟨#[]⟩), (.int .i64 0), (.bool false), (.int .i64 0)] [(0, (1, (.c (.str ⟨#[100, 100, 100, 100, 100]⟩)))), (1, (1, (.c (.int .i64 100)))), (3, (1, (.c (.int .i64 1))))]) none [] (.st (some 28) (.lit 59 4 1 [(.str ⟨#[]⟩), (.int .i64 0), (.bool false), (.int .i64 0)] [(0, (4, (.t 27)))]) none [] (.st (some 29) (.app 59 4 40 (.t 26) (.t 28)) none [] (.st (some 2) (.mv (.t 29)) none [] .fin)))))) .ret) (.seq (.plan (.st (some 31) (.bin .eql (.t 11) (.c (.int .i64 3))) none [] (.st (some 30) (.mv (.t 31)) none [] .fin))) (.cond (.t 30) (.seq (.plan (.st (some 32) (.mv (.t 3)) none [] (.st (some 33) (.lit 3 1 2 [(.int .i64 0), (.int .i64 0)] [(0, (1, (.c (.int .i64 0)))), (1, (1, (.c (.int .i64 1000))))]) none [] (.st (some 34) (.mv (.t 0)) none [] (.st (some 35) (.call 42 [(.t 34), (.c (.int .i64 2))]) none [] (.st (some 36) (.ia 1 (.t 33) (.t 35)) none [] (.st (some 37) (.ld (.t 36)) none [] (.st (some 38) (.build [(.str ⟨#[]⟩), (.int .i64 0), (.bool false), (.int .i64 0)] [(0, (1, (.c (.str ⟨#[100, 100, 100, 100, 100]⟩)))), (3, (1, (.t 37)))]) none [] (.st (some 39) (.lit 59 4 1 [(.str ⟨#[]⟩), (.int .i64 0), (.bool false), (.int .i64 0)] [(0, (4, (.t 38)))]) none [] (.st (some 40) (.app 59 4 40 (.t 32) (.t 39)) none [] (.st (some 2) (.mv (.t 40)) none [] .fin))))))))))) .ret) .skip)))))))))) (.seq (.plan (.st (some 41) (.mv (.t 3)) none [] (.st (some 42) (.build [(.str ⟨#[]⟩), (.int .i64 0), (.bool false), (.int .i64 0)] [(0, (1, (.c (.str ⟨#[100, 100, 100, 100, 100]⟩)))), (1, (1, (.c (.int .i64 1)))), (2, (1, (.c (.bool true)))), (3, (1, (.c (.int .i64 1))))]) none [] (.st (some 43) (.lit 59 4 1 [(.str ⟨#[]⟩), (.int .i64 0), (.bool false), (.int .i64 0)] [(0, (4, (.t 42)))]) none [] (.st (some 44) (.app 59 4 40 (.t 41) (.t 43)) none [] (.st (some 2) (.mv (.t 44)) none [] .fin)))))) .ret))))), [(.t 2)]⟩
theorem h_spec_l71Off : compF Tryd.prog 55 = some c_spec_l71Off := by kernel_rfl
def c_spec_DrawBlockText : CF := ⟨25, (.seq (.plan (.st (some 2) (.mv (.c .nils)) none [] .fin)) (.seq (.plan (.st (some 6) (.mv (.t 0)) none [] (.st (some 7) (.call 40 [(.t 6)]) none [] (.st (some 3) (.mv (.t 7)) none [] .fin)))) (.seq (.seq (.plan (.st (some 8) (.mv (.t 3)) none [] (.st (some 9) (.call 42 [(.t 8), (.c (.int .i64 12))]) none [] (.st (some 10) (.bin .eql (.t 9) (.c (.int .i64 0))) none [] .fin)))) (.cond (.t 10) (.seq (.plan (.st (some 11) (.lit 59 4 0 [] []) none [] (.st (some 4) (.mv (.t 11)) none [] .fin))) (.seq (.seq (.plan (.st (some 5) (.mv (.c (.int .i64 0))) none [] .fin)) (.block 0 (.loop (.seq (.seq (.plan (.st (some 12) (.mv (.t 5)) none [] (.st (some 13) (.bin .lss (.t 12) (.c (.int .i64 36))) none [] .fin))) (.cond (.t 13) .skip (.exit 0))) (.seq (.block 1 (.plan (.st (some 16) (.mv (.t 4)) none [] (.st (some 17) (.mv (.t 5)) none [] (.st (some 18) (.bin .sub (.c (.int .i64 900)) (.t 17)) none [] (.st (some 19) (.build [(.str ⟨#[]⟩), (.int .i64 0), (.bool false), (.int .i64 0)] [(0, (1, (.c (.str ⟨#[100, 100, 100, 100, 100]⟩)))), (1, (1, (.c (.int .i64 99)))), (3, (1, (.t 18)))]) none [] (.st (some 20) (.lit 59 4 1 [(.str ⟨#[]⟩), (.int .i64 0), (.bool false), (.int .i64 0)] [(0, (4, (.t 19)))]) none [] (.st (some 21) (.app 59 4 40 (.t 16) (.t 20)) none [] (.st (some 4) (.mv (.t 21)) none [] .fin))))))))) (.plan (.st (some 14) (.mv (.t 5)) none [] (.st (some 15) (.bin .add (.t 14) (.c (.int .i64 1))) none [] (.st (some 5) (.mv (.t 15)) none [] .fin))))))))) (.seq (.plan (.st (some 22) (.mv (.t 4)) none [] (.st (some 2) (.mv (.t 22)) none [] .fin))) .ret))) .skip)) (.seq (.plan (.st (some 23) (.mv (.t 3)) none [] (.st (some 24) (.call 55 [(.t 23)]) none [] (.st (some 2) (.mv (.t 24)) none [] .fin)))) .ret)))), [(.t 2)]⟩
theorem h_spec_DrawBlockText : compF Tryd.prog 24 = some c_spec_DrawBlockText := by kernel_rfl
def c_laws_FnBlockByte : CF := ⟨60, (.seq (.plan (.st (some 4) (.mv (.c (.bool false))) none [] .fin)) (.seq (.seq (.plan (.st (some 11) (.mv (.t 0)) none [] (.st (some 12) (.len (.t 11)) none [] (.st (some 13) (.bin .gtr (.t 12) (.c (.int .i64 1048576))) none [] (.st (some 14) (.mv (.t 13)) none [] (.st (some 15) (.mv (.t 1)) (some (14, false)) [] (.st (some 16) (.len (.t 15)) (some (14, false)) [] (.st (some 17) (.bin .gtr (.t 16) (.c (.int .i64 1048576))) (some (14, false)) [] (.st (some 18) (.pick (.t 14) (.c (.bool true)) (.t 17)) none [] .fin))))))))) (.cond (.t 18) (.seq (.plan (.st (some 4) (.mv (.c (.bool true))) none [] .fin)) .ret) .skip)) (.seq (.plan (.st (some 19) (.mv (.t 0)) none [] (.st (some 20) (.call 24 [(.t 19)]) none [] (.st (some 5) (.mv (.t 20)) none [] .fin)))) (.seq (.plan (.st (some 21) (.mv (.t 5)) none [] (.st (some 22) (.call 25 [(.t 21)]) none [] (.st (some 6) (.mv (.t 22)) none [] .fin)))) (.seq (.seq (.plan (.st (some 23) (.mv (.t 6)) none [] (.st (some 24) (.mv (.t 5)) none [] (.st (some 25) (.call 26 [(.t 24)]) none [] (.st (some 26) (.bin .neq (.t 23) (.t 25)) none [] (.st (some 27) (.mv (.t 26)) none [] (.st (some 28) (.mv (.t 6)) (some (27, false)) [] (.st (some 29) (.bin .eql (.t 28) (.c (.str ⟨#[]⟩))) (some (27, false)) [] (.st (some 30) (.pick (.t 27) (.c (.bool true)) (.t 29)) none [] .fin))))))))) (.cond (.t 30) (.seq (.plan (.st (some 31) (.mv (.t 6)) none [] (.st (some 32) (.mv (.t 5)) none [] (.st (some 33) (.call 26 [(.t 32)]) none [] (.st (some 34) (.bin .eql (.t 31) (.t 33)) none [] (.st (some 4) (.mv (.t 34)) none [] .fin)))))) .ret) .skip)) (.seq (.plan (.st (some 35) (.mv (.t 1)) none [] (.st (some 36) (.len (.t 35)) none [] (.st (some 37) (.mv (.t 6)) none [] (.st (some 38) (.lns (.t 37)) none [] (.st (some 39) (.bin .rem (.t 36) (.t 38)) none [] (.st (some 7) (.mv (.t 39)) none [] .fin))))))) (.seq (.plan (.st (some 8) (.mv (.c (.str ⟨#[97]⟩))) none [] .fin)) (.seq (.seq (.plan (.st (some 40) (.mv (.t 6)) none [] (.st (some 41) (.mv (.t 7)) none [] (.st (some 42) (.ix (.t 40) (.t 41)) none [] (.st (some 43) (.bin .eql (.t 42) (.c (.int .u8 97))) none [] .fin))))) (.cond (.t 43) (.plan (.st (some 8) (.mv (.c (.str ⟨#[99]⟩))) none [] .fin)) .skip)) (.seq (.plan (.st (some 45) (.mv (.t 6)) none [] (.st (some 46) (.mv (.t 7)) none [] (.st (some 47) (.cuts (.t 45) none (some (.t 46))) none [] (.st (some 48) (.mv (.t 8)) none [] (.st (some 49) (.bin .add (.t 47) (.t 48)) none [] (.st (some 50) (.mv (.t 6)) none [] (.st (some 51) (.mv (.t 7)) none [] (.st (some 52) (.bin .add (.t 51) (.c (.int .i64 1))) none [] (.st (some 53) (.cuts (.t 50) (some (.t 52)) none) none [] (.st (some 54) (.bin .add (.t 49) (.t 53)) none [] (.st (some 55) (.call 20 [(.t 54)]) none [] (.st (some 44) (.mv (.t 55)) none [] (.st (some 56) (.ext 0 (.t 44)) none [] (.st (some 57) (.ext 1 (.t 44)) none [] (.st (some 9) (.mv (.t 56)) none [] (.st (some 10) (.mv (.t 57)) none [] .fin))))))))))))))))) (.seq (.plan (.st (some 58) (.mv (.t 10)) none [] (.st (some 59) (.not (.t 58)) none [] (.st (some 4) (.mv (.t 59)) none [] .fin)))) .ret)))))))))), [(.t 4)]⟩
theorem h_laws_FnBlockByte : compF Tryd.prog 7 = some c_laws_FnBlockByte := by kernel_rfl
def c_laws_FnBlockTorn : CF := ⟨46, (.seq (.plan (.st (some 4) (.mv (.c (.bool false))) none [] .fin)) (.seq (.seq (.plan (.st (some 9) (.mv (.t 0)) none [] (.st (some 10) (.len (.t 9)) none [] (.st (some 11) (.bin .gtr (.t 10) (.c (.int .i64 1048576))) none [] (.st (some 12) (.mv (.t 11)) none [] (.st (some 13) (.mv (.t 1)) (some (12, false)) [] (.st (some 14) (.len (.t 13)) (some (12, false)) [] (.st (some 15) (.bin .gtr (.t 14) (.c (.int .i64 1048576))) (some (12, false)) [] (.st (some 16) (.pick (.t 12) (.c (.bool true)) (.t 15)) none [] .fin))))))))) (.cond (.t 16) (.seq (.plan (.st (some 4) (.mv (.c (.bool true))) none [] .fin)) .ret) .skip)) (.seq (.plan (.st (some 17) (.mv (.t 0)) none [] (.st (some 18) (.call 24 [(.t 17)]) none [] (.st (some 5) (.mv (.t 18)) none [] .fin)))) (.seq (.plan (.st (some 19) (.mv (.t 5)) none [] (.st (some 20) (.call 25 [(.t 19)]) none [] (.st (some 6) (.mv (.t 20)) none [] .fin)))) (.seq (.seq (.plan (.st (some 21) (.mv (.t 6)) none [] (.st (some 22) (.mv (.t 5)) none [] (.st (some 23) (.call 26 [(.t 22)]) none [] (.st (some 24) (.bin .neq (.t 21) (.t 23)) none [] (.st (some 25) (.mv (.t 24)) none [] (.st (some 26) (.mv (.t 6)) (some (25, false)) [] (.st (some 27) (.bin .eql (.t 26) (.c (.str ⟨#[]⟩))) (some (25, false)) [] (.st (some 28) (.pick (.t 25) (.c (.bool true)) (.t 27)) none [] .fin))))))))) (.cond (.t 28) (.seq (.plan (.st (some 29) (.mv (.t 6)) none [] (.st (some 30) (.mv (.t 5)) none [] (.st (some 31) (.call 26 [(.t 30)]) none [] (.st (some 32) (.bin .eql (.t 29) (.t 31)) none [] (.st (some 4) (.mv (.t 32)) none [] .fin)))))) .ret) .skip)) (.seq (.plan (.st (some 34) (.mv (.t 6)) none [] (.st (some 35) (.mv (.t 1)) none [] (.st (some 36) (.len (.t 35)) none [] (.st (some 37) (.mv (.t 6)) none [] (.st (some 38) (.lns (.t 37)) none [] (.st (some 39) (.bin .rem (.t 36) (.t 38)) none [] (.st (some 40) (.cuts (.t 34) none (some (.t 39))) none [] (.st (some 41) (.call 20 [(.t 40)]) none [] (.st (some 33) (.mv (.t 41)) none [] (.st (some 42) (.ext 0 (.t 33)) none [] (.st (some 43) (.ext 1 (.t 33)) none [] (.st (some 7) (.mv (.t 42)) none [] (.st (some 8) (.mv (.t 43)) none [] .fin)))))))))))))) (.seq (.plan (.st (some 44) (.mv (.t 8)) none [] (.st (some 45) (.not (.t 44)) none [] (.st (some 4) (.mv (.t 45)) none [] .fin)))) .ret))))))), [(.t 4)]⟩
theorem h_laws_FnBlockTorn : compF Tryd.prog 8 = some c_laws_FnBlockTorn := by kernel_rfl
def c_laws_ltRuns : CF := ⟨26, (.seq (.plan (.st (some 4) (.mv (.c (.bool false))) none [] .fin)) (.seq (.seq (.plan (.st (some 6) (.mv (.t 0)) none [] (.st (some 7) (.len (.t 6)) none [] (.st (some 8) (.mv (.t 1)) none [] (.st (some 9) (.len (.t 8)) none [] (.st (some 10) (.bin .neq (.t 7) (.t 9)) none [] .fin)))))) (.cond (.t 10) (.seq (.plan (.st (some 4) (.mv (.c (.bool false))) none [] .fin)) .ret) .skip)) (.seq (.seq (.plan (.st (some 5) (.mv (.c (.int .i64 0))) none [] .fin)) (.block 0 (.loop (.seq (.seq (.plan (.st (some 11) (.mv (.t 5)) none [] (.st (some 12) (.mv (.t 0)) none [] (.st (some 13) (.len (.t 12)) none [] (.st (some 14) (.bin .lss (.t 11) (.t 13)) none [] .fin))))) (.cond (.t 14) .skip (.exit 0))) (.seq (.block 1 (.seq (.plan (.st (some 17) (.mv (.t 0)) none [] (.st (some 18) (.mv (.t 5)) none [] (.st (some 19) (.ia 4 (.t 17) (.t 18)) none [] (.st (some 20) (.lda 4 (.t 19)) none [] (.st (some 21) (.mv (.t 1)) none [] (.st (some 22) (.mv (.t 5)) none [] (.st (some 23) (.ia 4 (.t 21) (.t 22)) none [] (.st (some 24) (.lda 4 (.t 23)) none [] (.st (some 25) (.eqs true [2, 0, 1, 0] (.t 20) (.t 24)) none [] .fin)))))))))) (.cond (.t 25) (.seq (.plan (.st (some 4) (.mv (.c (.bool false))) none [] .fin)) .ret) .skip))) (.plan (.st (some 15) (.mv (.t 5)) none [] (.st (some 16) (.bin .add (.t 15) (.c (.int .i64 1))) none [] (.st (some 5) (.mv (.t 16)) none [] .fin))))))))) (.seq (.plan (.st (some 4) (.mv (.c (.bool true))) none [] .fin)) .ret)))), [(.t 4)]⟩
theorem h_laws_ltRuns : compF Tryd.prog 27 = some c_laws_ltRuns := by kernel_rfl
def c_laws_FnBlockBack : CF := ⟨42, (.seq (.plan (.st (some 2) (.mv (.c (.bool false))) none [] .fin)) (.seq (.seq (.plan (.st (some 7) (.mv (.t 0)) none [] (.st (some 8) (.len (.t 7)) none [] (.st (some 9) (.bin .gtr (.t 8) (.c (.int .i64 1048576))) none [] .fin)))) (.cond (.t 9) (.seq (.plan (.st (some 2) (.mv (.c (.bool true))) none [] .fin)) .ret) .skip)) (.seq (.plan (.st (some 10) (.mv (.t 0)) none [] (.st (some 11) (.call 24 [(.t 10)]) none [] (.st (some 3) (.mv (.t 11)) none [] .fin)))) (.seq (.plan (.st (some 12) (.mv (.t 3)) none [] (.st (some 13) (.call 25 [(.t 12)]) none [] (.st (some 4) (.mv (.t 13)) none [] .fin)))) (.seq (.seq (.plan (.st (some 14) (.mv (.t 4)) none [] (.st (some 15) (.mv (.t 3)) none [] (.st (some 16) (.call 26 [(.t 15)]) none [] (.st (some 17) (.bin .neq (.t 14) (.t 16)) none [] (.st (some 18) (.mv (.t 17)) none [] (.st (some 19) (.mv (.t 4)) (some (18, false)) [] (.st (some 20) (.bin .eql (.t 19) (.c (.str ⟨#[]⟩))) (some (18, false)) [] (.st (some 21) (.pick (.t 18) (.c (.bool true)) (.t 20)) none [] .fin))))))))) (.cond (.t 21) (.seq (.plan (.st (some 22) (.mv (.t 4)) none [] (.st (some 23) (.mv (.t 3)) none [] (.st (some 24) (.call 26 [(.t 23)]) none [] (.st (some 25) (.bin .eql (.t 22) (.t 24)) none [] (.st (some 2) (.mv (.t 25)) none [] .fin)))))) .ret) .skip)) (.seq (.plan (.st (some 27) (.mv (.t 4)) none [] (.st (some 28) (.call 20 [(.t 27)]) none [] (.st (some 26) (.mv (.t 28)) none [] (.st (some 29) (.ext 0 (.t 26)) none [] (.st (some 30) (.ext 1 (.t 26)) none [] (.st (some 5) (.mv (.t 29)) none [] (.st (some 6) (.mv (.t 30)) none [] .fin)))))))) (.seq (.plan (.st (some 31) (.mv (.t 6)) none [] (.st (some 32) (.mv (.t 31)) none [] (.st (some 33) (.mv (.t 5)) (some (32, true)) [] (.st (some 34) (.mv (.t 3)) (some (32, true)) [] (.st (some 35) (.call 27 [(.t 33), (.t 34)]) (some (32, true)) [] (.st (some 36) (.pick (.t 32) (.t 35) (.c (.bool false))) none [] (.st (some 37) (.mv (.t 36)) none [] (.st (some 38) (.mv (.t 4)) (some (37, true)) [] (.st (some 39) (.lns (.t 38)) (some (37, true)) [] (.st (some 40) (.bin .leq (.t 39) (.c (.int .i64 400))) (some (37, true)) [] (.st (some 41) (.pick (.t 37) (.t 40) (.c (.bool false))) none [] (.st (some 2) (.mv (.t 41)) none [] .fin))))))))))))) .ret))))))), [(.t 2)]⟩
theorem h_laws_FnBlockBack : compF Tryd.prog 9 = some c_laws_FnBlockBack := by kernel_rfl
def c_spec_DrawBlockRead : CF := ⟨62, (.seq (.plan (.st (some 2) (.mv (.c (.str ⟨#[]⟩))) none [] .fin)) (.seq (.plan (.st (some 6) (.mv (.t 0)) none [] (.st (some 7) (.call 40 [(.t 6)]) none [] (.st (some 3) (.mv (.t 7)) none [] .fin)))) (.seq (.plan (.st (some 8) (.mv (.t 3)) none [] (.st (some 9) (.call 60 [(.t 8), (.c (.int .i64 8))]) none [] (.st (some 10) (.call 26 [(.t 9)]) none [] (.st (some 4) (.mv (.t 10)) none [] .fin))))) (.seq (.seq (.plan (.st (some 11) (.mv (.t 3)) none [] (.st (some 12) (.call 42 [(.t 11), (.c (.int .i64 2))]) none [] (.st (some 13) (.bin .eql (.t 12) (.c (.int .i64 0))) none [] (.st (some 14) (.mv (.t 13)) none [] (.st (some 15) (.mv (.t 4)) (some (14, false)) [] (.st (some 16) (.bin .eql (.t 15) (.c (.str ⟨#[]⟩))) (some (14, false)) [] (.st (some 17) (.pick (.t 14) (.c (.bool true)) (.t 16)) none [] .fin)))))))) (.cond (.t 17) (.seq (.plan (.st (some 18) (.mv (.t 4)) none [] (.st (some 2) (.mv (.t 18)) none [] .fin))) .ret) .skip)) (.seq (.plan (.st (some 19) (.mv (.t 3)) none [] (.st (some 20) (.mv (.t 4)) none [] (.st (some 21) (.lns (.t 20)) none [] (.st (some 22) (.call 42 [(.t 19), (.t 21)]) none [] (.st (some 5) (.mv (.t 22)) none [] .fin)))))) (.seq (.seq (.plan (.st (some 23) (.mv (.t 3)) none [] (.st (some 24) (.call 42 [(.t 23), (.c (.int .i64 5))]) none [] .fin))) (.block 0 (.seq (.plan (.st (some 26) (.bin .eql (.t 24) (.c (.int .i64 0))) none [] (.st (some 25) (.mv (.t 26)) none [] .fin))) (.cond (.t 25) (.seq (.plan (.st (some 27) (.mv (.t 4)) none [] (.st (some 28) (.mv (.t 5)) none [] (.st (some 29) (.cuts (.t 27) none (some (.t 28))) none [] (.st (some 30) (.mv (.t 4)) none [] (.st (some 31) (.mv (.t 5)) none [] (.st (some 32) (.bin .add (.t 31) (.c (.int .i64 1))) none [] (.st (some 33) (.cuts (.t 30) (some (.t 32)) none) none [] (.st (some 34) (.bin .add (.t 29) (.t 33)) none [] (.st (some 2) (.mv (.t 34)) none [] .fin)))))))))) .ret) (.seq (.plan (.st (some 36) (.bin .eql (.t 24) (.c (.int .i64 1))) none [] (.st (some 35) (.mv (.t 36)) none [] .fin))) (.cond (.t 35) (.seq (.plan (.st (some 37) (.mv (.t 4)) none [] (.st (some 38) (.mv (.t 5)) none [] (.st (some 39) (.cuts (.t 37) none (some (.t 38))) none [] (.st (some 40) (.mv (.t 3)) none [] (.st (some 44) (.mv (.t 4)) none [] (.st (some 45) (.mv (.t 5)) none [] (.st (some 46) (.cuts (.t 44) (some (.t 45)) none) none [] (.st (some 41) (.lit 9 1 6 [(.str ⟨#[]⟩), (.str ⟨#[]⟩), (.str ⟨#[]⟩), (.str ⟨#[]⟩), (.str ⟨#[]⟩), (.str ⟨#[]⟩)] [(0, (1, (.c (.str ⟨#[48]⟩)))), (1, (1, (.c (.str ⟨#[97]⟩)))), (2, (1, (.c (.str ⟨#[59]⟩)))), (3, (1, (.c (.str ⟨#[45]⟩)))), (4, (1, (.c (.str ⟨#[61]⟩)))), (5, (1, (.c (.str ⟨#[33]⟩))))]) none [] (.st (some 42) (.call 43 [(.t 40), (.t 41)]) none [] (.st (some 43) (.bin .add (.t 39) (.t 42)) none [] (.st (some 47) (.bin .add (.t 43) (.t 46)) none [] (.st (some 2) (.mv (.t 47)) none [] .fin))))))))))))) .ret) (.seq (.plan (.st (some 49) (.bin .eql (.t 24) (.c (.int .i64 2))) none [] (.st (some 48) (.mv (.t 49)) none [] .fin))) (.cond (.t 48) (.seq (.plan (.st (some 50) (.mv (.t 3)) none [] (.st (some 51) (.lit 9 1 8 [(.str ⟨#[]⟩), (.str ⟨#[]⟩), (.str ⟨#[]⟩), (.str ⟨#[]⟩), (.str ⟨#[]⟩), (.str ⟨#[]⟩), (.str ⟨#[]⟩), (.str ⟨#[]⟩)] [(0, (1, (.c (.str ⟨#[]⟩)))), (1, (1, (.c (.str ⟨#[97, 61, 49, 45, 48, 59]⟩)))), (2, (1, (.c (.str ⟨#[120, 61, 49, 45, 49, 59]⟩)))), (3, (1, (.c (.str ⟨#[97, 61, 49, 48, 48, 45, 49, 59]⟩)))), (4, (1, (.c (.str ⟨#[97, 61, 48, 49, 45, 49, 59]⟩)))), (5, (1, (.c (.str ⟨#[97, 45, 49, 59, 97, 45, 50, 59]⟩)))), (6, (1, (.c (.str ⟨#[97, 45, 49]⟩)))), (7, (1, (.c (.str ⟨#[98, 45, 49, 59, 97, 45, 49, 59]⟩))))]) none [] (.st (some 52) (.call 43 [(.t 50), (.t 51)]) none [] (.st (some 53) (.call 58 [(.t 52)]) none [] (.st (some 2) (.mv (.t 53)) none [] .fin)))))) .ret) (.seq (.plan (.st (some 55) (.bin .eql (.t 24) (.c (.int .i64 3))) none [] (.st (some 54) (.mv (.t 55)) none [] .fin))) (.cond (.t 54) (.seq (.plan (.st (some 56) (.mv (.t 4)) none [] (.st (some 57) (.mv (.t 4)) none [] (.st (some 58) (.bin .add (.t 56) (.t 57)) none [] (.st (some 2) (.mv (.t 58)) none [] .fin))))) .ret) .skip)))))))))) (.seq (.plan (.st (some 59) (.mv (.t 4)) none [] (.st (some 60) (.mv (.t 5)) none [] (.st (some 61) (.cuts (.t 59) none (some (.t 60))) none [] (.st (some 2) (.mv (.t 61)) none [] .fin))))) .ret))))))), [(.t 2)]⟩
theorem h_spec_DrawBlockRead : compF Tryd.prog 28 = some c_spec_DrawBlockRead := by kernel_rfl
end Go.Proofs.YtiecldkihdebiaaDoor.B

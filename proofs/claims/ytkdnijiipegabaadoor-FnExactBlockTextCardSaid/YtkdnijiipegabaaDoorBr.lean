/- The program logic: the set of words for simp. -/
import Derived.Test.YtkdnijiipegabaaDoorBq
namespace Go.Proofs.YtkdnijiipegabaaDoor.B
open Go.RowKit
set_option linter.unusedVariables false
set_option linter.unusedSimpArgs false

section
variable (C : CallP) (t : Tm) (H : Hp) (K : Tm → Hp → Prop) (Q : Ex → Tm → Hp → Prop)
@[simp] theorem W_seq (a b : CC) : W C (.seq a b) Q t H = W C a (thenX (W C b Q) Q) t H := rfl
@[simp] theorem W_skip : W C .skip Q t H = Q .normal t H := rfl
@[simp] theorem W_plan (p : Plan) : W C (.plan p) Q t H = RgP C p t H (Q .normal) := rfl
@[simp] theorem W_block_plan (id : Nat) (c : Plan) : W C (.block id (.plan c)) Q t H = W C (.plan c) (inB id Q) t H := rfl
@[simp] theorem W_block_seq (id : Nat) (a b : CC) : W C (.block id (.seq a b)) Q t H = W C (.seq a b) (inB id Q) t H := rfl
@[simp] theorem W_block_cond (id : Nat) (c : Od) (a b : CC) : W C (.block id (.cond c a b)) Q t H = W C (.cond c a b) (inB id Q) t H := rfl
@[simp] theorem W_block_block (id id2 : Nat) (c : CC) : W C (.block id (.block id2 c)) Q t H = W C (.block id2 c) (inB id Q) t H := rfl
@[simp] theorem W_block_skip (id : Nat) : W C (.block id .skip) Q t H = Q .normal t H := rfl
@[simp] theorem W_exit (id : Nat) : W C (.exit id) Q t H = Q (.exit id) t H := rfl
@[simp] theorem W_ret : W C .ret Q t H = Q .ret t H := rfl
@[simp] theorem RgP_fin : RgP C .fin t H K = K t H := rfl
@[simp] theorem RgP_both (a b : Plan) : RgP C (.both a b) t H K = (RgP C a t H K ∧ RgP C b t H K) := rfl
@[simp] theorem RgP_calv (d : Option Nat) (x : Od) (xs : List Od) (ag) (p : Plan) : RgP C (.st d (.calv x xs) none ag p) t H K = calvG (x.ev t) C (xs.map (·.ev t)) d ag p t H K := by
  simp only [RgP]
  show stepK C t H (.calv x xs) _ = _
  simp only [stepK, calvG]
  generalize x.ev t = v
  cases v <;> rfl
@[simp] theorem calvG_fn (f : Nat) (cs args : List AV) (d : Option Nat) (ag) (p : Plan) : calvG (.fn f cs) C args d ag p t H K = callG C f (args ++ cs) d ag p t H K := rfl
variable (g : Nat) (d : Option Nat) (op : AOp) (p : Plan)
@[simp] theorem gG_tt : gG (.bool true) g true C d op p t H K = RgP C (.st d op none [] p) t H K := by simp [gG]
@[simp] theorem gG_tf : gG (.bool true) g false C d op p t H K = RgP C p (updO t d .un) H K := by simp [gG]
@[simp] theorem gG_ft : gG (.bool false) g true C d op p t H K = RgP C p (updO t d .un) H K := by simp [gG]
@[simp] theorem gG_ff : gG (.bool false) g false C d op p t H K = RgP C (.st d op none [] p) t H K := by simp [gG]
@[simp] theorem gG_un (b : Bool) : gG .un g b C d op p t H K = RgP C p (updO t d .un) H K := rfl
variable (a b : CC)
@[simp] theorem cG_t : cG (.bool true) C a b Q t H = W C a Q t H := by simp [cG]
@[simp] theorem cG_f : cG (.bool false) C a b Q t H = W C b Q t H := by simp [cG]
end
/-! The operations one by one. -/
@[simp] theorem stepH_mv (t : Tm) (H : Hp) (x : Od) : stepH t H (.mv x) = H := rfl
@[simp] theorem stepH_pick (t : Tm) (H : Hp) (x y z : Od) : stepH t H (.pick x y z) = H := rfl
@[simp] theorem stepC_box (t : Tm) (H : Hp) (e n : Nat) (x : Od) : stepC t H (.box e n x) = ((stepA t H (.box e n x)).isSome = true) := rfl
@[simp] theorem stepV_box (t : Tm) (H : Hp) (e n : Nat) (x : Od) : stepV t H (.box e n x) = oV (stepA t H (.box e n x)) := rfl
@[simp] theorem stepH_box (t : Tm) (H : Hp) (e n : Nat) (x : Od) : stepH t H (.box e n x) = oH (stepA t H (.box e n x)) H := rfl
@[simp] theorem stepC_build (t : Tm) (H : Hp) (zs : List AV) (ps : List (Nat × Nat × Od)) : stepC t H (.build zs ps) = ((stepA t H (.build zs ps)).isSome = true) := rfl
@[simp] theorem stepV_build (t : Tm) (H : Hp) (zs : List AV) (ps : List (Nat × Nat × Od)) : stepV t H (.build zs ps) = oV (stepA t H (.build zs ps)) := rfl
@[simp] theorem stepH_build (t : Tm) (H : Hp) (zs : List AV) (ps : List (Nat × Nat × Od)) : stepH t H (.build zs ps) = oH (stepA t H (.build zs ps)) H := rfl
@[simp] theorem stepC_lit (t : Tm) (H : Hp) (e n m : Nat) (zs : List AV) (ps : List (Nat × Nat × Od)) : stepC t H (.lit e n m zs ps) = ((stepA t H (.lit e n m zs ps)).isSome = true) := rfl
@[simp] theorem stepV_lit (t : Tm) (H : Hp) (e n m : Nat) (zs : List AV) (ps : List (Nat × Nat × Od)) : stepV t H (.lit e n m zs ps) = oV (stepA t H (.lit e n m zs ps)) := rfl
@[simp] theorem stepH_lit (t : Tm) (H : Hp) (e n m : Nat) (zs : List AV) (ps : List (Nat × Nat × Od)) : stepH t H (.lit e n m zs ps) = oH (stepA t H (.lit e n m zs ps)) H := rfl
@[simp] theorem stepC_ld (t : Tm) (H : Hp) (x : Od) : stepC t H (.ld x) = ((stepA t H (.ld x)).isSome = true) := rfl
@[simp] theorem stepV_ld (t : Tm) (H : Hp) (x : Od) : stepV t H (.ld x) = oV (stepA t H (.ld x)) := rfl
@[simp] theorem stepH_ld (t : Tm) (H : Hp) (x : Od) : stepH t H (.ld x) = oH (stepA t H (.ld x)) H := rfl
@[simp] theorem stepC_lda (t : Tm) (H : Hp) (n : Nat) (x : Od) : stepC t H (.lda n x) = ((stepA t H (.lda n x)).isSome = true) := rfl
@[simp] theorem stepV_lda (t : Tm) (H : Hp) (n : Nat) (x : Od) : stepV t H (.lda n x) = oV (stepA t H (.lda n x)) := rfl
@[simp] theorem stepH_lda (t : Tm) (H : Hp) (n : Nat) (x : Od) : stepH t H (.lda n x) = oH (stepA t H (.lda n x)) H := rfl
@[simp] theorem stepC_st (t : Tm) (H : Hp) (n : Nat) (x y : Od) : stepC t H (.st n x y) = ((stepA t H (.st n x y)).isSome = true) := rfl
@[simp] theorem stepV_st (t : Tm) (H : Hp) (n : Nat) (x y : Od) : stepV t H (.st n x y) = oV (stepA t H (.st n x y)) := rfl
@[simp] theorem stepH_st (t : Tm) (H : Hp) (n : Nat) (x y : Od) : stepH t H (.st n x y) = oH (stepA t H (.st n x y)) H := rfl
@[simp] theorem stepC_nck (t : Tm) (H : Hp) (x : Od) : stepC t H (.nck x) = ((stepA t H (.nck x)).isSome = true) := rfl
@[simp] theorem stepV_nck (t : Tm) (H : Hp) (x : Od) : stepV t H (.nck x) = oV (stepA t H (.nck x)) := rfl
@[simp] theorem stepH_nck (t : Tm) (H : Hp) (x : Od) : stepH t H (.nck x) = oH (stepA t H (.nck x)) H := rfl
@[simp] theorem stepH_bin (t : Tm) (H : Hp) (b : BinOp) (x y : Od) : stepH t H (.bin b x y) = H := rfl
@[simp] theorem stepC_eqb (t : Tm) (H : Hp) (b : Bool) (x y : Od) : stepC t H (.eqb b x y) = ((stepA t H (.eqb b x y)).isSome = true) := rfl
@[simp] theorem stepV_eqb (t : Tm) (H : Hp) (b : Bool) (x y : Od) : stepV t H (.eqb b x y) = oV (stepA t H (.eqb b x y)) := rfl
@[simp] theorem stepH_eqb (t : Tm) (H : Hp) (b : Bool) (x y : Od) : stepH t H (.eqb b x y) = oH (stepA t H (.eqb b x y)) H := rfl
@[simp] theorem stepC_eqn (t : Tm) (H : Hp) (n : Nat) (b : Bool) (x y : Od) : stepC t H (.eqn n b x y) = ((stepA t H (.eqn n b x y)).isSome = true) := rfl
@[simp] theorem stepV_eqn (t : Tm) (H : Hp) (n : Nat) (b : Bool) (x y : Od) : stepV t H (.eqn n b x y) = oV (stepA t H (.eqn n b x y)) := rfl
@[simp] theorem stepH_eqn (t : Tm) (H : Hp) (n : Nat) (b : Bool) (x y : Od) : stepH t H (.eqn n b x y) = oH (stepA t H (.eqn n b x y)) H := rfl
@[simp] theorem stepC_eqs (t : Tm) (H : Hp) (b : Bool) (ks : List Nat) (x y : Od) : stepC t H (.eqs b ks x y) = ((stepA t H (.eqs b ks x y)).isSome = true) := rfl
@[simp] theorem stepV_eqs (t : Tm) (H : Hp) (b : Bool) (ks : List Nat) (x y : Od) : stepV t H (.eqs b ks x y) = oV (stepA t H (.eqs b ks x y)) := rfl
@[simp] theorem stepH_eqs (t : Tm) (H : Hp) (b : Bool) (ks : List Nat) (x y : Od) : stepH t H (.eqs b ks x y) = oH (stepA t H (.eqs b ks x y)) H := rfl
@[simp] theorem stepH_not (t : Tm) (H : Hp) (x : Od) : stepH t H (.not x) = H := rfl
@[simp] theorem stepC_neg (t : Tm) (H : Hp) (x : Od) : stepC t H (.neg x) = ((stepA t H (.neg x)).isSome = true) := rfl
@[simp] theorem stepV_neg (t : Tm) (H : Hp) (x : Od) : stepV t H (.neg x) = oV (stepA t H (.neg x)) := rfl
@[simp] theorem stepH_neg (t : Tm) (H : Hp) (x : Od) : stepH t H (.neg x) = oH (stepA t H (.neg x)) H := rfl
@[simp] theorem stepC_cv (t : Tm) (H : Hp) (k : IntKind) (x : Od) : stepC t H (.cv k x) = ((stepA t H (.cv k x)).isSome = true) := rfl
@[simp] theorem stepV_cv (t : Tm) (H : Hp) (k : IntKind) (x : Od) : stepV t H (.cv k x) = oV (stepA t H (.cv k x)) := rfl
@[simp] theorem stepH_cv (t : Tm) (H : Hp) (k : IntKind) (x : Od) : stepH t H (.cv k x) = oH (stepA t H (.cv k x)) H := rfl
@[simp] theorem stepC_mk (t : Tm) (H : Hp) (e n m : Nat) (zs : List AV) (x : Od) : stepC t H (.mk e n m zs x) = ((stepA t H (.mk e n m zs x)).isSome = true) := rfl
@[simp] theorem stepV_mk (t : Tm) (H : Hp) (e n m : Nat) (zs : List AV) (x : Od) : stepV t H (.mk e n m zs x) = oV (stepA t H (.mk e n m zs x)) := rfl
@[simp] theorem stepH_mk (t : Tm) (H : Hp) (e n m : Nat) (zs : List AV) (x : Od) : stepH t H (.mk e n m zs x) = oH (stepA t H (.mk e n m zs x)) H := rfl
@[simp] theorem stepC_cut (t : Tm) (H : Hp) (n : Nat) (x : Od) (y z : Option Od) : stepC t H (.cut n x y z) = ((stepA t H (.cut n x y z)).isSome = true) := rfl
@[simp] theorem stepV_cut (t : Tm) (H : Hp) (n : Nat) (x : Od) (y z : Option Od) : stepV t H (.cut n x y z) = oV (stepA t H (.cut n x y z)) := rfl
@[simp] theorem stepH_cut (t : Tm) (H : Hp) (n : Nat) (x : Od) (y z : Option Od) : stepH t H (.cut n x y z) = oH (stepA t H (.cut n x y z)) H := rfl
@[simp] theorem stepH_fa (t : Tm) (H : Hp) (n : Nat) (x : Od) : stepH t H (.fa n x) = H := rfl
@[simp] theorem stepC_fd (t : Tm) (H : Hp) (n m : Nat) (x : Od) : stepC t H (.fd n m x) = ((stepA t H (.fd n m x)).isSome = true) := rfl
@[simp] theorem stepV_fd (t : Tm) (H : Hp) (n m : Nat) (x : Od) : stepV t H (.fd n m x) = oV (stepA t H (.fd n m x)) := rfl
@[simp] theorem stepH_fd (t : Tm) (H : Hp) (n m : Nat) (x : Od) : stepH t H (.fd n m x) = oH (stepA t H (.fd n m x)) H := rfl
@[simp] theorem stepH_ix (t : Tm) (H : Hp) (x y : Od) : stepH t H (.ix x y) = H := rfl
@[simp] theorem stepH_ext (t : Tm) (H : Hp) (n : Nat) (x : Od) : stepH t H (.ext n x) = H := rfl
@[simp] theorem stepH_len (t : Tm) (H : Hp) (x : Od) : stepH t H (.len x) = H := rfl
@[simp] theorem stepH_lns (t : Tm) (H : Hp) (x : Od) : stepH t H (.lns x) = H := rfl
@[simp] theorem stepC_mx (t : Tm) (H : Hp) (x y : Od) : stepC t H (.mx x y) = ((stepA t H (.mx x y)).isSome = true) := rfl
@[simp] theorem stepV_mx (t : Tm) (H : Hp) (x y : Od) : stepV t H (.mx x y) = oV (stepA t H (.mx x y)) := rfl
@[simp] theorem stepH_mx (t : Tm) (H : Hp) (x y : Od) : stepH t H (.mx x y) = oH (stepA t H (.mx x y)) H := rfl
@[simp] theorem stepC_mn (t : Tm) (H : Hp) (x y : Od) : stepC t H (.mn x y) = ((stepA t H (.mn x y)).isSome = true) := rfl
@[simp] theorem stepV_mn (t : Tm) (H : Hp) (x y : Od) : stepV t H (.mn x y) = oV (stepA t H (.mn x y)) := rfl
@[simp] theorem stepH_mn (t : Tm) (H : Hp) (x y : Od) : stepH t H (.mn x y) = oH (stepA t H (.mn x y)) H := rfl
@[simp] theorem stepH_fn (t : Tm) (H : Hp) (n : Nat) (xs : List Od) : stepH t H (.fn n xs) = H := rfl
@[simp] theorem stepC_app (t : Tm) (H : Hp) (e n m : Nat) (x y : Od) : stepC t H (.app e n m x y) = ((stepA t H (.app e n m x y)).isSome = true) := rfl
@[simp] theorem stepV_app (t : Tm) (H : Hp) (e n m : Nat) (x y : Od) : stepV t H (.app e n m x y) = oV (stepA t H (.app e n m x y)) := rfl
@[simp] theorem stepH_app (t : Tm) (H : Hp) (e n m : Nat) (x y : Od) : stepH t H (.app e n m x y) = oH (stepA t H (.app e n m x y)) H := rfl
@[simp] theorem stepH_alloc (t : Tm) (H : Hp) (e : Nat) (zs : List AV) : stepH t H (.alloc e zs) = H ++ [some ⟨[zs], zs.length, e, false⟩] := rfl
@[simp] theorem stepV_mv (t : Tm) (H : Hp) (x : Od) : stepV t H (.mv x) = x.ev t := rfl
@[simp] theorem stepC_mv (t : Tm) (H : Hp) (x : Od) : stepC t H (.mv x) = True := rfl
@[simp] theorem stepV_alloc (t : Tm) (H : Hp) (e : Nat) (zs : List AV) : stepV t H (.alloc e zs) = .pt H.length 0 0 := rfl
@[simp] theorem stepC_alloc (t : Tm) (H : Hp) (e : Nat) (zs : List AV) : stepC t H (.alloc e zs) = True := rfl
@[simp] theorem stepV_fn (t : Tm) (H : Hp) (n : Nat) (xs : List Od) : stepV t H (.fn n xs) = .fn n (xs.map (·.ev t)) := rfl
@[simp] theorem stepC_fn (t : Tm) (H : Hp) (n : Nat) (xs : List Od) : stepC t H (.fn n xs) = True := rfl
@[simp] theorem stepV_bin (t : Tm) (H : Hp) (b : BinOp) (x y : Od) : stepV t H (.bin b x y) = binV b (x.ev t) (y.ev t) := rfl
@[simp] theorem stepC_bin (t : Tm) (H : Hp) (b : BinOp) (x y : Od) : stepC t H (.bin b x y) = binC b (x.ev t) (y.ev t) := rfl
@[simp] theorem R_mv (C : CallP) (t : Tm) (H : Hp) (K : Tm → Hp → Prop) (d : Option Nat) (pl : Plan) (x : Od) : RgP C (.st d (.mv x) none [] pl) t H K = (stepC t H (.mv x) ∧ RgP C pl (updO t d (stepV t H (.mv x))) (stepH t H (.mv x)) K) := RgP_op C t H K rfl d pl
@[simp] theorem RA_mv (C : CallP) (t : Tm) (H : Hp) (K : Tm → Hp → Prop) (d : Option Nat) (pl : Plan) (q) (ag) (x : Od) : RgP C (.st d (.mv x) none (q :: ag) pl) t H K = (stepC t H (.mv x) ∧ againG (q :: ag) (updO t d (stepV t H (.mv x))) (stepH t H (.mv x)) ∧ RgP C pl (updO t d (stepV t H (.mv x))) (stepH t H (.mv x)) K) := RgP_ag C t H K rfl d q ag pl
@[simp] theorem R_pick (C : CallP) (t : Tm) (H : Hp) (K : Tm → Hp → Prop) (d : Option Nat) (pl : Plan) (x y z : Od) : RgP C (.st d (.pick x y z) none [] pl) t H K = (stepC t H (.pick x y z) ∧ RgP C pl (updO t d (stepV t H (.pick x y z))) (stepH t H (.pick x y z)) K) := RgP_op C t H K rfl d pl
@[simp] theorem R_alloc (C : CallP) (t : Tm) (H : Hp) (K : Tm → Hp → Prop) (d : Option Nat) (pl : Plan) (e : Nat) (zs : List AV) : RgP C (.st d (.alloc e zs) none [] pl) t H K = (stepC t H (.alloc e zs) ∧ RgP C pl (updO t d (stepV t H (.alloc e zs))) (stepH t H (.alloc e zs)) K) := RgP_op C t H K rfl d pl
@[simp] theorem RA_alloc (C : CallP) (t : Tm) (H : Hp) (K : Tm → Hp → Prop) (d : Option Nat) (pl : Plan) (q) (ag) (e : Nat) (zs : List AV) : RgP C (.st d (.alloc e zs) none (q :: ag) pl) t H K = (stepC t H (.alloc e zs) ∧ againG (q :: ag) (updO t d (stepV t H (.alloc e zs))) (stepH t H (.alloc e zs)) ∧ RgP C pl (updO t d (stepV t H (.alloc e zs))) (stepH t H (.alloc e zs)) K) := RgP_ag C t H K rfl d q ag pl
@[simp] theorem R_box (C : CallP) (t : Tm) (H : Hp) (K : Tm → Hp → Prop) (d : Option Nat) (pl : Plan) (e n : Nat) (x : Od) : RgP C (.st d (.box e n x) none [] pl) t H K = (stepC t H (.box e n x) ∧ RgP C pl (updO t d (stepV t H (.box e n x))) (stepH t H (.box e n x)) K) := RgP_op C t H K rfl d pl
@[simp] theorem RA_box (C : CallP) (t : Tm) (H : Hp) (K : Tm → Hp → Prop) (d : Option Nat) (pl : Plan) (q) (ag) (e n : Nat) (x : Od) : RgP C (.st d (.box e n x) none (q :: ag) pl) t H K = (stepC t H (.box e n x) ∧ againG (q :: ag) (updO t d (stepV t H (.box e n x))) (stepH t H (.box e n x)) ∧ RgP C pl (updO t d (stepV t H (.box e n x))) (stepH t H (.box e n x)) K) := RgP_ag C t H K rfl d q ag pl
@[simp] theorem R_build (C : CallP) (t : Tm) (H : Hp) (K : Tm → Hp → Prop) (d : Option Nat) (pl : Plan) (zs : List AV) (ps : List (Nat × Nat × Od)) : RgP C (.st d (.build zs ps) none [] pl) t H K = (stepC t H (.build zs ps) ∧ RgP C pl (updO t d (stepV t H (.build zs ps))) (stepH t H (.build zs ps)) K) := RgP_op C t H K rfl d pl
@[simp] theorem R_lit (C : CallP) (t : Tm) (H : Hp) (K : Tm → Hp → Prop) (d : Option Nat) (pl : Plan) (e n m : Nat) (zs : List AV) (ps : List (Nat × Nat × Od)) : RgP C (.st d (.lit e n m zs ps) none [] pl) t H K = (stepC t H (.lit e n m zs ps) ∧ RgP C pl (updO t d (stepV t H (.lit e n m zs ps))) (stepH t H (.lit e n m zs ps)) K) := RgP_op C t H K rfl d pl
@[simp] theorem RA_lit (C : CallP) (t : Tm) (H : Hp) (K : Tm → Hp → Prop) (d : Option Nat) (pl : Plan) (q) (ag) (e n m : Nat) (zs : List AV) (ps : List (Nat × Nat × Od)) : RgP C (.st d (.lit e n m zs ps) none (q :: ag) pl) t H K = (stepC t H (.lit e n m zs ps) ∧ againG (q :: ag) (updO t d (stepV t H (.lit e n m zs ps))) (stepH t H (.lit e n m zs ps)) ∧ RgP C pl (updO t d (stepV t H (.lit e n m zs ps))) (stepH t H (.lit e n m zs ps)) K) := RgP_ag C t H K rfl d q ag pl
@[simp] theorem R_ld (C : CallP) (t : Tm) (H : Hp) (K : Tm → Hp → Prop) (d : Option Nat) (pl : Plan) (x : Od) : RgP C (.st d (.ld x) none [] pl) t H K = (stepC t H (.ld x) ∧ RgP C pl (updO t d (stepV t H (.ld x))) (stepH t H (.ld x)) K) := RgP_op C t H K rfl d pl
@[simp] theorem R_lda (C : CallP) (t : Tm) (H : Hp) (K : Tm → Hp → Prop) (d : Option Nat) (pl : Plan) (n : Nat) (x : Od) : RgP C (.st d (.lda n x) none [] pl) t H K = (stepC t H (.lda n x) ∧ RgP C pl (updO t d (stepV t H (.lda n x))) (stepH t H (.lda n x)) K) := RgP_op C t H K rfl d pl
@[simp] theorem R_st (C : CallP) (t : Tm) (H : Hp) (K : Tm → Hp → Prop) (d : Option Nat) (pl : Plan) (n : Nat) (x y : Od) : RgP C (.st d (.st n x y) none [] pl) t H K = (stepC t H (.st n x y) ∧ RgP C pl (updO t d (stepV t H (.st n x y))) (stepH t H (.st n x y)) K) := RgP_op C t H K rfl d pl
@[simp] theorem RA_st (C : CallP) (t : Tm) (H : Hp) (K : Tm → Hp → Prop) (d : Option Nat) (pl : Plan) (q) (ag) (n : Nat) (x y : Od) : RgP C (.st d (.st n x y) none (q :: ag) pl) t H K = (stepC t H (.st n x y) ∧ againG (q :: ag) (updO t d (stepV t H (.st n x y))) (stepH t H (.st n x y)) ∧ RgP C pl (updO t d (stepV t H (.st n x y))) (stepH t H (.st n x y)) K) := RgP_ag C t H K rfl d q ag pl
@[simp] theorem R_nck (C : CallP) (t : Tm) (H : Hp) (K : Tm → Hp → Prop) (d : Option Nat) (pl : Plan) (x : Od) : RgP C (.st d (.nck x) none [] pl) t H K = (stepC t H (.nck x) ∧ RgP C pl (updO t d (stepV t H (.nck x))) (stepH t H (.nck x)) K) := RgP_op C t H K rfl d pl
@[simp] theorem R_bin (C : CallP) (t : Tm) (H : Hp) (K : Tm → Hp → Prop) (d : Option Nat) (pl : Plan) (b : BinOp) (x y : Od) : RgP C (.st d (.bin b x y) none [] pl) t H K = (stepC t H (.bin b x y) ∧ RgP C pl (updO t d (stepV t H (.bin b x y))) (stepH t H (.bin b x y)) K) := RgP_op C t H K rfl d pl
@[simp] theorem R_eqb (C : CallP) (t : Tm) (H : Hp) (K : Tm → Hp → Prop) (d : Option Nat) (pl : Plan) (b : Bool) (x y : Od) : RgP C (.st d (.eqb b x y) none [] pl) t H K = (stepC t H (.eqb b x y) ∧ RgP C pl (updO t d (stepV t H (.eqb b x y))) (stepH t H (.eqb b x y)) K) := RgP_op C t H K rfl d pl
@[simp] theorem R_eqn (C : CallP) (t : Tm) (H : Hp) (K : Tm → Hp → Prop) (d : Option Nat) (pl : Plan) (n : Nat) (b : Bool) (x y : Od) : RgP C (.st d (.eqn n b x y) none [] pl) t H K = (stepC t H (.eqn n b x y) ∧ RgP C pl (updO t d (stepV t H (.eqn n b x y))) (stepH t H (.eqn n b x y)) K) := RgP_op C t H K rfl d pl
@[simp] theorem R_eqs (C : CallP) (t : Tm) (H : Hp) (K : Tm → Hp → Prop) (d : Option Nat) (pl : Plan) (b : Bool) (ks : List Nat) (x y : Od) : RgP C (.st d (.eqs b ks x y) none [] pl) t H K = (stepC t H (.eqs b ks x y) ∧ RgP C pl (updO t d (stepV t H (.eqs b ks x y))) (stepH t H (.eqs b ks x y)) K) := RgP_op C t H K rfl d pl
@[simp] theorem R_not (C : CallP) (t : Tm) (H : Hp) (K : Tm → Hp → Prop) (d : Option Nat) (pl : Plan) (x : Od) : RgP C (.st d (.not x) none [] pl) t H K = (stepC t H (.not x) ∧ RgP C pl (updO t d (stepV t H (.not x))) (stepH t H (.not x)) K) := RgP_op C t H K rfl d pl
@[simp] theorem R_neg (C : CallP) (t : Tm) (H : Hp) (K : Tm → Hp → Prop) (d : Option Nat) (pl : Plan) (x : Od) : RgP C (.st d (.neg x) none [] pl) t H K = (stepC t H (.neg x) ∧ RgP C pl (updO t d (stepV t H (.neg x))) (stepH t H (.neg x)) K) := RgP_op C t H K rfl d pl
@[simp] theorem R_cv (C : CallP) (t : Tm) (H : Hp) (K : Tm → Hp → Prop) (d : Option Nat) (pl : Plan) (k : IntKind) (x : Od) : RgP C (.st d (.cv k x) none [] pl) t H K = (stepC t H (.cv k x) ∧ RgP C pl (updO t d (stepV t H (.cv k x))) (stepH t H (.cv k x)) K) := RgP_op C t H K rfl d pl
@[simp] theorem R_mk (C : CallP) (t : Tm) (H : Hp) (K : Tm → Hp → Prop) (d : Option Nat) (pl : Plan) (e n m : Nat) (zs : List AV) (x : Od) : RgP C (.st d (.mk e n m zs x) none [] pl) t H K = (stepC t H (.mk e n m zs x) ∧ RgP C pl (updO t d (stepV t H (.mk e n m zs x))) (stepH t H (.mk e n m zs x)) K) := RgP_op C t H K rfl d pl
@[simp] theorem RA_mk (C : CallP) (t : Tm) (H : Hp) (K : Tm → Hp → Prop) (d : Option Nat) (pl : Plan) (q) (ag) (e n m : Nat) (zs : List AV) (x : Od) : RgP C (.st d (.mk e n m zs x) none (q :: ag) pl) t H K = (stepC t H (.mk e n m zs x) ∧ againG (q :: ag) (updO t d (stepV t H (.mk e n m zs x))) (stepH t H (.mk e n m zs x)) ∧ RgP C pl (updO t d (stepV t H (.mk e n m zs x))) (stepH t H (.mk e n m zs x)) K) := RgP_ag C t H K rfl d q ag pl
theorem R_cut (C : CallP) (t : Tm) (H : Hp) (K : Tm → Hp → Prop) (d : Option Nat) (pl : Plan) (n : Nat) (x : Od) (y z : Option Od) : RgP C (.st d (.cut n x y z) none [] pl) t H K = (stepC t H (.cut n x y z) ∧ RgP C pl (updO t d (stepV t H (.cut n x y z))) (stepH t H (.cut n x y z)) K) := RgP_op C t H K rfl d pl
@[simp] theorem R_cuts (C : CallP) (t : Tm) (H : Hp) (K : Tm → Hp → Prop) (d : Option Nat) (pl : Plan) (x : Od) (y z : Option Od) : RgP C (.st d (.cuts x y z) none [] pl) t H K = (stepC t H (.cuts x y z) ∧ RgP C pl (updO t d (stepV t H (.cuts x y z))) (stepH t H (.cuts x y z)) K) := RgP_op C t H K rfl d pl
@[simp] theorem R_fa (C : CallP) (t : Tm) (H : Hp) (K : Tm → Hp → Prop) (d : Option Nat) (pl : Plan) (n : Nat) (x : Od) : RgP C (.st d (.fa n x) none [] pl) t H K = (stepC t H (.fa n x) ∧ RgP C pl (updO t d (stepV t H (.fa n x))) (stepH t H (.fa n x)) K) := RgP_op C t H K rfl d pl
@[simp] theorem R_fd (C : CallP) (t : Tm) (H : Hp) (K : Tm → Hp → Prop) (d : Option Nat) (pl : Plan) (n m : Nat) (x : Od) : RgP C (.st d (.fd n m x) none [] pl) t H K = (stepC t H (.fd n m x) ∧ RgP C pl (updO t d (stepV t H (.fd n m x))) (stepH t H (.fd n m x)) K) := RgP_op C t H K rfl d pl
@[simp] theorem R_ia (C : CallP) (t : Tm) (H : Hp) (K : Tm → Hp → Prop) (d : Option Nat) (pl : Plan) (n : Nat) (x y : Od) : RgP C (.st d (.ia n x y) none [] pl) t H K = (stepC t H (.ia n x y) ∧ RgP C pl (updO t d (stepV t H (.ia n x y))) (stepH t H (.ia n x y)) K) := RgP_op C t H K rfl d pl
@[simp] theorem R_ix (C : CallP) (t : Tm) (H : Hp) (K : Tm → Hp → Prop) (d : Option Nat) (pl : Plan) (x y : Od) : RgP C (.st d (.ix x y) none [] pl) t H K = (stepC t H (.ix x y) ∧ RgP C pl (updO t d (stepV t H (.ix x y))) (stepH t H (.ix x y)) K) := RgP_op C t H K rfl d pl
@[simp] theorem R_ext (C : CallP) (t : Tm) (H : Hp) (K : Tm → Hp → Prop) (d : Option Nat) (pl : Plan) (n : Nat) (x : Od) : RgP C (.st d (.ext n x) none [] pl) t H K = (stepC t H (.ext n x) ∧ RgP C pl (updO t d (stepV t H (.ext n x))) (stepH t H (.ext n x)) K) := RgP_op C t H K rfl d pl
@[simp] theorem R_len (C : CallP) (t : Tm) (H : Hp) (K : Tm → Hp → Prop) (d : Option Nat) (pl : Plan) (x : Od) : RgP C (.st d (.len x) none [] pl) t H K = (stepC t H (.len x) ∧ RgP C pl (updO t d (stepV t H (.len x))) (stepH t H (.len x)) K) := RgP_op C t H K rfl d pl
@[simp] theorem R_lns (C : CallP) (t : Tm) (H : Hp) (K : Tm → Hp → Prop) (d : Option Nat) (pl : Plan) (x : Od) : RgP C (.st d (.lns x) none [] pl) t H K = (stepC t H (.lns x) ∧ RgP C pl (updO t d (stepV t H (.lns x))) (stepH t H (.lns x)) K) := RgP_op C t H K rfl d pl
@[simp] theorem R_mx (C : CallP) (t : Tm) (H : Hp) (K : Tm → Hp → Prop) (d : Option Nat) (pl : Plan) (x y : Od) : RgP C (.st d (.mx x y) none [] pl) t H K = (stepC t H (.mx x y) ∧ RgP C pl (updO t d (stepV t H (.mx x y))) (stepH t H (.mx x y)) K) := RgP_op C t H K rfl d pl
@[simp] theorem R_mn (C : CallP) (t : Tm) (H : Hp) (K : Tm → Hp → Prop) (d : Option Nat) (pl : Plan) (x y : Od) : RgP C (.st d (.mn x y) none [] pl) t H K = (stepC t H (.mn x y) ∧ RgP C pl (updO t d (stepV t H (.mn x y))) (stepH t H (.mn x y)) K) := RgP_op C t H K rfl d pl
@[simp] theorem R_fn (C : CallP) (t : Tm) (H : Hp) (K : Tm → Hp → Prop) (d : Option Nat) (pl : Plan) (n : Nat) (xs : List Od) : RgP C (.st d (.fn n xs) none [] pl) t H K = (stepC t H (.fn n xs) ∧ RgP C pl (updO t d (stepV t H (.fn n xs))) (stepH t H (.fn n xs)) K) := RgP_op C t H K rfl d pl
theorem R_app (C : CallP) (t : Tm) (H : Hp) (K : Tm → Hp → Prop) (d : Option Nat) (pl : Plan) (e n m : Nat) (x y : Od) : RgP C (.st d (.app e n m x y) none [] pl) t H K = (stepC t H (.app e n m x y) ∧ RgP C pl (updO t d (stepV t H (.app e n m x y))) (stepH t H (.app e n m x y)) K) := RgP_op C t H K rfl d pl
theorem RA_app (C : CallP) (t : Tm) (H : Hp) (K : Tm → Hp → Prop) (d : Option Nat) (pl : Plan) (q) (ag) (e n m : Nat) (x y : Od) : RgP C (.st d (.app e n m x y) none (q :: ag) pl) t H K = (stepC t H (.app e n m x y) ∧ againG (q :: ag) (updO t d (stepV t H (.app e n m x y))) (stepH t H (.app e n m x y)) ∧ RgP C pl (updO t d (stepV t H (.app e n m x y))) (stepH t H (.app e n m x y)) K) := RgP_ag C t H K rfl d q ag pl
@[simp] theorem stepA_box (t : Tm) (H : Hp) (ety : Nat) (esz : Nat) (x : Od) : stepA t H (.box ety esz x) = (if (x.ev t).cells.length = esz ∧ cells1 (x.ev t) = true then some (.pt H.length 0 0, H ++ [some ⟨[(x.ev t).cells], esz, ety, false⟩]) else none) := rfl
@[simp] theorem stepA_build (t : Tm) (H : Hp) (zs : List AV) (ps : List (Nat × Nat × Od)) : stepA t H (.build zs ps) = ((fillA t zs ps).map fun cs => (.ag cs, H)) := rfl
@[simp] theorem stepA_lit (t : Tm) (H : Hp) (ety : Nat) (esz : Nat) (n : Nat) (zs : List AV) (ps : List (Nat × Nat × Od)) : stepA t H (.lit ety esz n zs ps) = ((fillA t zs ps).map fun cs => (.sl H.length 0 n, H ++ [some ⟨chunk esz n cs, esz, ety, false⟩])) := rfl
@[simp] theorem stepA_ld (t : Tm) (H : Hp) (x : Od) : stepA t H (.ld x) = (match x.ev t with
      | .pt o i f => (H.at o).bind fun ob => (ob.rows[i]?).bind fun r => (r[f]?).map fun v => (v, H)
      | _ => none) := rfl
@[simp] theorem stepA_lda (t : Tm) (H : Hp) (n : Nat) (x : Od) : stepA t H (.lda n x) = (match x.ev t with
      | .pt o i f => (H.at o).bind fun ob => (ob.rows[i]?).bind fun r => if f + n ≤ r.length then some (.ag ((r.drop f).take n), H) else none
      | _ => none) := rfl
@[simp] theorem stepA_st (t : Tm) (H : Hp) (n : Nat) (x : Od) (y : Od) : stepA t H (.st n x y) = (match x.ev t with
      | .pt o i f => (H.at o).bind fun ob => (ob.rows[i]?).bind fun r =>
          if ob.ro = false ∧ (y.ev t).cells.length = n ∧ f + n ≤ r.length ∧ cells1 (y.ev t) = true then some (.un, H.set o (some { ob with rows := ob.rows.set i (putAt r f (y.ev t).cells) })) else none
      | _ => none) := rfl
@[simp] theorem stepA_nck (t : Tm) (H : Hp) (x : Od) : stepA t H (.nck x) = (match x.ev t with
      | .pt o i f => some (.pt o i f, H)
      | .fn f cs => some (.fn f cs, H)
      | _ => none) := rfl
@[simp] theorem stepA_eqb (t : Tm) (H : Hp) (ne : Bool) (x : Od) (y : Od) : stepA t H (.eqb ne x y) = (match x.ev t, y.ev t with
      | .bool p, .bool q => some (.bool ((p == q) != ne), H)
      | _, _ => none) := rfl
@[simp] theorem stepA_eqn (t : Tm) (H : Hp) (k : Nat) (ne : Bool) (x : Od) (y : Od) : stepA t H (.eqn k ne x y) = ((eqnA k (x.ev t) (y.ev t)).map fun r => (.bool (r != ne), H)) := rfl
@[simp] theorem stepA_eqs (t : Tm) (H : Hp) (ne : Bool) (ks : List Nat) (x : Od) (y : Od) : stepA t H (.eqs ne ks x y) = (match x.ev t, y.ev t with
      | .ag p, .ag q => (eqcs ks p q).map fun r => (.bool (r != ne), H)
      | _, _ => none) := rfl
@[simp] theorem stepA_neg (t : Tm) (H : Hp) (x : Od) : stepA t H (.neg x) = (match x.ev t with
      | .int k n => some (.int k (k.wrap (0 - n)), H)
      | _ => none) := rfl
@[simp] theorem stepA_cv (t : Tm) (H : Hp) (k : IntKind) (x : Od) : stepA t H (.cv k x) = (match x.ev t with
      | .int _ n => some (.int k (k.wrap n), H)
      | _ => none) := rfl
@[simp] theorem stepA_mk (t : Tm) (H : Hp) (ety : Nat) (esz : Nat) (bytes : Nat) (zs : List AV) (x : Od) : stepA t H (.mk ety esz bytes zs x) = (match x.ev t with
      | .int .i64 n => if 0 ≤ n ∧ n * bytes ≤ 140737488355328 then some (.sl H.length 0 n.toNat, H ++ [some ⟨List.replicate n.toNat zs, esz, ety, false⟩]) else none
      | _ => none) := rfl
@[simp] theorem stepA_cut (t : Tm) (H : Hp) (esz : Nat) (x : Od) (lo : Option Od) (hi : Option Od) : stepA t H (.cut esz x lo hi) = (match x.ev t with
      | .sl o i n => (H.at o).bind fun ob => if ob.esz = esz then (optI t 0 lo).bind fun l => (optI t n hi).bind fun h =>
          if 0 ≤ l ∧ l ≤ h ∧ h ≤ n then some (.sl o (i + l.toNat) (h.toNat - l.toNat), H) else none else none
      | .nils => (optI t 0 lo).bind fun l => (optI t 0 hi).bind fun h => if l = 0 ∧ h = 0 then some (.nils, H) else none
      | .sz => (optI t 0 lo).bind fun l => (optI t 0 hi).bind fun h => if l = 0 ∧ h = 0 then some (.sz, H) else none
      | _ => none) := rfl
@[simp] theorem stepA_cuts (t : Tm) (H : Hp) (x : Od) (lo : Option Od) (hi : Option Od) : stepA t H (.cuts x lo hi) = (match x.ev t with
      | .str s => (optI t 0 lo).bind fun l => (optI t s.size hi).bind fun h => if 0 ≤ l ∧ l ≤ h ∧ h ≤ s.size then some (.str (s.extract l.toNat h.toNat), H) else none
      | _ => none) := rfl
@[simp] theorem stepA_fd (t : Tm) (H : Hp) (off : Nat) (n : Nat) (x : Od) : stepA t H (.fd off n x) = (match x.ev t with
      | .ag cs => if n = 0 then (cs[off]?).map (·, H) else some (.ag ((cs.drop off).take n), H)
      | _ => none) := rfl
@[simp] theorem stepA_ia (t : Tm) (H : Hp) (esz : Nat) (x : Od) (y : Od) : stepA t H (.ia esz x y) = (match x.ev t, y.ev t with
      | .sl o i n, .int _ j => (H.at o).bind fun ob => if ob.esz = esz ∧ 0 ≤ j ∧ j < n then some (.pt o (i + j.toNat) 0, H) else none
      | _, _ => none) := rfl
@[simp] theorem stepA_mx (t : Tm) (H : Hp) (x : Od) (y : Od) : stepA t H (.mx x y) = (match x.ev t, y.ev t with
      | .int k a, .int _ b => some (.int k (if b > a then b else a), H)
      | _, _ => none) := rfl
@[simp] theorem stepA_mn (t : Tm) (H : Hp) (x : Od) (y : Od) : stepA t H (.mn x y) = (match x.ev t, y.ev t with
      | .int k a, .int _ b => some (.int k (if b < a then b else a), H)
      | _, _ => none) := rfl
@[simp] theorem stepA_app (t : Tm) (H : Hp) (ety : Nat) (esz : Nat) (bytes : Nat) (x : Od) (y : Od) : stepA t H (.app ety esz bytes x y) = (match y.ev t with
      | .nils => match x.ev t with
        | .nils => some (.nils, H)
        | .sz => some (.sz, H)
        | .sl o i n => some (.sl o i n, H)
        | _ => none
      | .sz => match x.ev t with
        | .nils => some (.nils, H)
        | .sz => some (.sz, H)
        | .sl o i n => some (.sl o i n, H)
        | _ => none
      | .sl o2 i2 m => (H.at o2).bind fun ob2 => if ob2.esz = esz ∧ m * bytes ≤ 140737488355328 ∧ i2 + m ≤ ob2.rows.length then match x.ev t with
        | .nils => some (if m = 0 then (.nils, H) else (.sl H.length 0 m, H ++ [some ⟨(ob2.rows.drop i2).take m, esz, ety, false⟩]))
        | .sz => some (if m = 0 then (.sz, H) else (.sl H.length 0 m, H ++ [some ⟨(ob2.rows.drop i2).take m, esz, ety, false⟩]))
        | .sl o 0 n => (H.at o).bind fun ob =>
          if ob.ro = false ∧ ob.esz = esz ∧ ob.ety = ety ∧ (n + m) * bytes ≤ 140737488355328 ∧ n ≤ ob.rows.length then
            some (.sl H.length 0 (n + m), (H.set o none) ++ [some ⟨ob.rows.take n ++ (ob2.rows.drop i2).take m, esz, ety, false⟩]) else none
        | _ => none else none
      | _ => none) := rfl
@[simp] theorem stepA_cvs (t : Tm) (H : Hp) (x : Od) : stepA t H (.cvs x) = (match x.ev t with
      | .sl o i n => (H.at o).bind fun ob => if ob.esz = 1 ∧ i + n ≤ ob.rows.length then (u8s ((ob.rows.drop i).take n)).map fun ns => (.str (strOf ns), H) else none
      | _ => none) := rfl
@[simp] theorem stepC_cvs (t : Tm) (H : Hp) (x : Od) : stepC t H (.cvs x) = ((stepA t H (.cvs x)).isSome = true) := rfl
@[simp] theorem stepV_cvs (t : Tm) (H : Hp) (x : Od) : stepV t H (.cvs x) = oV (stepA t H (.cvs x)) := rfl
@[simp] theorem stepH_cvs (t : Tm) (H : Hp) (x : Od) : stepH t H (.cvs x) = oH (stepA t H (.cvs x)) H := rfl
@[simp] theorem R_cvs (C : CallP) (t : Tm) (H : Hp) (K : Tm → Hp → Prop) (d : Option Nat) (pl : Plan) (x : Od) : RgP C (.st d (.cvs x) none [] pl) t H K = (stepC t H (.cvs x) ∧ RgP C pl (updO t d (stepV t H (.cvs x))) (stepH t H (.cvs x)) K) := RgP_op C t H K rfl d pl
attribute [simp] u8s
attribute [simp] againG_nil againG_cons pend1_n optI intA RgP_g RgP_call W_cond
attribute [simp] Od.ev updO resA rvA rvsA endX AV.plain AV.plains eqcs eqc eqnA fillA putAt chunk oV oH
@[simp] theorem cells_int (k : IntKind) (n : Int) : AV.cells (.int k n) = [.int k n] := rfl
@[simp] theorem cells1_int (k : IntKind) (n : Int) : cells1 (.int k n) = true := rfl
@[simp] theorem one_int (k : IntKind) (n : Int) : one (.int k n) = true := rfl
@[simp] theorem cells_bool (b : Bool) : AV.cells (.bool b) = [.bool b] := rfl
@[simp] theorem cells1_bool (b : Bool) : cells1 (.bool b) = true := rfl
@[simp] theorem one_bool (b : Bool) : one (.bool b) = true := rfl
@[simp] theorem cells_str (s : ByteArray) : AV.cells (.str s) = [.str s] := rfl
@[simp] theorem cells1_str (s : ByteArray) : cells1 (.str s) = true := rfl
@[simp] theorem one_str (s : ByteArray) : one (.str s) = true := rfl
@[simp] theorem cells_nilp : AV.cells (.nilp) = [.nilp] := rfl
@[simp] theorem cells1_nilp : cells1 (.nilp) = true := rfl
@[simp] theorem one_nilp : one (.nilp) = true := rfl
@[simp] theorem cells_nils : AV.cells (.nils) = [.nils] := rfl
@[simp] theorem cells1_nils : cells1 (.nils) = true := rfl
@[simp] theorem one_nils : one (.nils) = true := rfl
@[simp] theorem cells_sz : AV.cells (.sz) = [.sz] := rfl
@[simp] theorem cells1_sz : cells1 (.sz) = true := rfl
@[simp] theorem one_sz : one (.sz) = true := rfl
@[simp] theorem cells_nilf : AV.cells (.nilf) = [.nilf] := rfl
@[simp] theorem cells1_nilf : cells1 (.nilf) = true := rfl
@[simp] theorem one_nilf : one (.nilf) = true := rfl
@[simp] theorem cells_nili : AV.cells (.nili) = [.nili] := rfl
@[simp] theorem cells1_nili : cells1 (.nili) = true := rfl
@[simp] theorem one_nili : one (.nili) = true := rfl
@[simp] theorem cells_un : AV.cells (.un) = [.un] := rfl
@[simp] theorem cells1_un : cells1 (.un) = false := rfl
@[simp] theorem one_un : one (.un) = false := rfl
@[simp] theorem cells_any : AV.cells (.any) = [.any] := rfl
@[simp] theorem cells1_any : cells1 (.any) = false := rfl
@[simp] theorem one_any : one (.any) = false := rfl
@[simp] theorem cells_sl (o i n : Nat) : AV.cells (.sl o i n) = [.sl o i n] := rfl
@[simp] theorem cells1_sl (o i n : Nat) : cells1 (.sl o i n) = true := rfl
@[simp] theorem one_sl (o i n : Nat) : one (.sl o i n) = true := rfl
@[simp] theorem cells_pt (o i f : Nat) : AV.cells (.pt o i f) = [.pt o i f] := rfl
@[simp] theorem cells1_pt (o i f : Nat) : cells1 (.pt o i f) = true := rfl
@[simp] theorem one_pt (o i f : Nat) : one (.pt o i f) = true := rfl
@[simp] theorem cells_tu (vs : List AV) : AV.cells (.tu vs) = [.tu vs] := rfl
@[simp] theorem cells1_tu (vs : List AV) : cells1 (.tu vs) = false := rfl
@[simp] theorem one_tu (vs : List AV) : one (.tu vs) = false := rfl
@[simp] theorem cells_fn (f : Nat) (vs : List AV) : AV.cells (.fn f vs) = [.fn f vs] := rfl
@[simp] theorem cells1_fn (f : Nat) (vs : List AV) : cells1 (.fn f vs) = true := rfl
@[simp] theorem one_fn (f : Nat) (vs : List AV) : one (.fn f vs) = true := rfl
@[simp] theorem cells_er (c : Nat) : AV.cells (.er c) = [.er c] := rfl
@[simp] theorem cells1_er (c : Nat) : cells1 (.er c) = true := rfl
@[simp] theorem one_er (c : Nat) : one (.er c) = true := rfl
@[simp] theorem cells_ag (cs : List AV) : AV.cells (.ag cs) = cs := rfl
@[simp] theorem cells1_ag (cs : List AV) : cells1 (.ag cs) = cs.all one := rfl
@[simp] theorem one_ag (cs : List AV) : one (.ag cs) = false := rfl
@[simp] theorem thenX_n (K : Tm → Hp → Prop) (Q : Ex → Tm → Hp → Prop) (t : Tm) (H : Hp) : thenX K Q .normal t H = K t H := rfl
@[simp] theorem thenX_e (K : Tm → Hp → Prop) (Q : Ex → Tm → Hp → Prop) (id : Nat) (t : Tm) (H : Hp) : thenX K Q (.exit id) t H = Q (.exit id) t H := rfl
@[simp] theorem thenX_r (K : Tm → Hp → Prop) (Q : Ex → Tm → Hp → Prop) (t : Tm) (H : Hp) : thenX K Q .ret t H = Q .ret t H := rfl
@[simp] theorem inB_n (id : Nat) (Q : Ex → Tm → Hp → Prop) (t : Tm) (H : Hp) : inB id Q .normal t H = Q .normal t H := rfl
@[simp] theorem inB_e (id id' : Nat) (Q : Ex → Tm → Hp → Prop) (t : Tm) (H : Hp) : inB id Q (.exit id') t H = if id' = id then Q .normal t H else Q (.exit id') t H := rfl
@[simp] theorem inB_r (id : Nat) (Q : Ex → Tm → Hp → Prop) (t : Tm) (H : Hp) : inB id Q .ret t H = Q .ret t H := rfl
@[simp] theorem upd_app (t : Tm) (d : Nat) (v : AV) (x : Nat) : upd t d v x = if x = d then v else t x := rfl
@[simp] theorem initT_app (args : List AV) (x : Nat) : initT args x = args.getD x .un := rfl
attribute [simp] Hp.at_app_0 Hp.at_app_ge Hp.at_0 Hp.at_s Hp.set_app Hp.set_app_0 HLe.refl HLe.self List.append_assoc List.getD_cons_zero List.getD_cons_succ

section
variable {t : Tm} {H : Hp} {x y z : Od}
@[simp] theorem stepC_ix (t : Tm) (H : Hp) (x y : Od) : stepC t H (.ix x y) = ixC (x.ev t) (y.ev t) := rfl
@[simp] theorem stepV_ix (t : Tm) (H : Hp) (x y : Od) : stepV t H (.ix x y) = ixV (x.ev t) (y.ev t) := rfl
@[simp] theorem stepC_pick (t : Tm) (H : Hp) (x y z : Od) : stepC t H (.pick x y z) = boolC (x.ev t) := rfl
@[simp] theorem stepV_pick (t : Tm) (H : Hp) (x y z : Od) : stepV t H (.pick x y z) = pickV (x.ev t) (y.ev t) (z.ev t) := rfl
@[simp] theorem stepC_lns (t : Tm) (H : Hp) (x : Od) : stepC t H (.lns x) = strC (x.ev t) := rfl
@[simp] theorem stepV_lns (t : Tm) (H : Hp) (x : Od) : stepV t H (.lns x) = lnsV (x.ev t) := rfl
@[simp] theorem stepC_len (t : Tm) (H : Hp) (x : Od) : stepC t H (.len x) = slC (x.ev t) := rfl
@[simp] theorem stepV_len (t : Tm) (H : Hp) (x : Od) : stepV t H (.len x) = lenV (x.ev t) := rfl
@[simp] theorem stepC_not (t : Tm) (H : Hp) (x : Od) : stepC t H (.not x) = boolC (x.ev t) := rfl
@[simp] theorem stepV_not (t : Tm) (H : Hp) (x : Od) : stepV t H (.not x) = notV (x.ev t) := rfl
@[simp] theorem stepC_ext (t : Tm) (H : Hp) (i : Nat) (x : Od) : stepC t H (.ext i x) = extC i (x.ev t) := rfl
@[simp] theorem stepV_ext (t : Tm) (H : Hp) (i : Nat) (x : Od) : stepV t H (.ext i x) = extV i (x.ev t) := rfl
@[simp] theorem stepC_fa (t : Tm) (H : Hp) (n : Nat) (x : Od) : stepC t H (.fa n x) = ptC (x.ev t) := rfl
@[simp] theorem stepV_fa (t : Tm) (H : Hp) (n : Nat) (x : Od) : stepV t H (.fa n x) = faV n (x.ev t) := rfl
end

@[simp] theorem ixC_c (s : ByteArray) (k : IntKind) (j : Int) : ixC (.str s) (.int k j) = (0 ≤ j ∧ j < s.size) := rfl
@[simp] theorem ixV_c (s : ByteArray) (k : IntKind) (j : Int) : ixV (.str s) (.int k j) = .int .u8 (bt s j) := rfl
@[simp] theorem boolC_c (q : Bool) : boolC (.bool q) = True := rfl
@[simp] theorem pickV_c (q : Bool) (a b : AV) : pickV (.bool q) a b = if q = true then a else b := rfl
@[simp] theorem strC_c (s : ByteArray) : strC (.str s) = True := rfl
@[simp] theorem lnsV_c (s : ByteArray) : lnsV (.str s) = .int .i64 s.size := rfl
@[simp] theorem slC_1 (o i n : Nat) : slC (.sl o i n) = True := rfl
@[simp] theorem slC_2 : slC .nils = True := rfl
@[simp] theorem slC_3 : slC .sz = True := rfl
@[simp] theorem lenV_1 (o i n : Nat) : lenV (.sl o i n) = .int .i64 n := rfl
@[simp] theorem lenV_2 : lenV .nils = .int .i64 0 := rfl
@[simp] theorem lenV_3 : lenV .sz = .int .i64 0 := rfl
@[simp] theorem notV_c (q : Bool) : notV (.bool q) = .bool (!q) := rfl
@[simp] theorem extC_c (i : Nat) (vs : List AV) : extC i (.tu vs) = (i < vs.length) := rfl
@[simp] theorem extV_c (i : Nat) (vs : List AV) : extV i (.tu vs) = vs.getD i .un := rfl
@[simp] theorem ptC_c (o i f : Nat) : ptC (.pt o i f) = True := rfl
@[simp] theorem faV_c (n o i f : Nat) : faV n (.pt o i f) = .pt o i (f + n) := rfl
@[simp] theorem binC_iadd (k k' : IntKind) (x y : Int) : binC .add (.int k x) (.int k' y) = (k = k') := by simp [binC]
@[simp] theorem binC_isub (k k' : IntKind) (x y : Int) : binC .sub (.int k x) (.int k' y) = (k = k') := by simp [binC]
@[simp] theorem binC_imul (k k' : IntKind) (x y : Int) : binC .mul (.int k x) (.int k' y) = (k = k') := by simp [binC]
@[simp] theorem binC_ixor (k k' : IntKind) (x y : Int) : binC .xor (.int k x) (.int k' y) = (k = k') := by simp [binC]
@[simp] theorem binC_ieql (k k' : IntKind) (x y : Int) : binC .eql (.int k x) (.int k' y) = (k = k') := by simp [binC]
@[simp] theorem binC_ineq (k k' : IntKind) (x y : Int) : binC .neq (.int k x) (.int k' y) = (k = k') := by simp [binC]
@[simp] theorem binC_ilss (k k' : IntKind) (x y : Int) : binC .lss (.int k x) (.int k' y) = (k = k') := by simp [binC]
@[simp] theorem binC_ileq (k k' : IntKind) (x y : Int) : binC .leq (.int k x) (.int k' y) = (k = k') := by simp [binC]
@[simp] theorem binC_igtr (k k' : IntKind) (x y : Int) : binC .gtr (.int k x) (.int k' y) = (k = k') := by simp [binC]
@[simp] theorem binC_igeq (k k' : IntKind) (x y : Int) : binC .geq (.int k x) (.int k' y) = (k = k') := by simp [binC]
@[simp] theorem binC_iquo (k k' : IntKind) (x y : Int) : binC .quo (.int k x) (.int k' y) = (k = k' ∧ y ≠ 0) := by simp [binC]
@[simp] theorem binC_irem (k k' : IntKind) (x y : Int) : binC .rem (.int k x) (.int k' y) = (k = k' ∧ y ≠ 0) := by simp [binC]
@[simp] theorem binC_seql (x y : ByteArray) : binC .eql (.str x) (.str y) = True := rfl
@[simp] theorem binC_sneq (x y : ByteArray) : binC .neq (.str x) (.str y) = True := rfl
@[simp] theorem binC_slss (x y : ByteArray) : binC .lss (.str x) (.str y) = True := rfl
@[simp] theorem binC_sleq (x y : ByteArray) : binC .leq (.str x) (.str y) = True := rfl
@[simp] theorem binC_sgtr (x y : ByteArray) : binC .gtr (.str x) (.str y) = True := rfl
@[simp] theorem binC_sgeq (x y : ByteArray) : binC .geq (.str x) (.str y) = True := rfl
@[simp] theorem binC_sadd (x y : ByteArray) : binC .add (.str x) (.str y) = (x.size + y.size ≤ 9223372036854775807) := rfl
@[simp] theorem binV_iadd (k k' : IntKind) (x y : Int) : binV .add (.int k x) (.int k' y) = .int k (k.wrap (x + y)) := rfl
@[simp] theorem binV_isub (k k' : IntKind) (x y : Int) : binV .sub (.int k x) (.int k' y) = .int k (k.wrap (x - y)) := rfl
@[simp] theorem binV_imul (k k' : IntKind) (x y : Int) : binV .mul (.int k x) (.int k' y) = .int k (k.wrap (x * y)) := rfl
@[simp] theorem binV_iquo (k k' : IntKind) (x y : Int) : binV .quo (.int k x) (.int k' y) = .int k (k.wrap (x.tdiv y)) := rfl
@[simp] theorem binV_irem (k k' : IntKind) (x y : Int) : binV .rem (.int k x) (.int k' y) = .int k (x.tmod y) := rfl
@[simp] theorem binV_ixor (k k' : IntKind) (x y : Int) : binV .xor (.int k x) (.int k' y) = .int k (k.wrap ((BitVec.ofInt k.bits x ^^^ BitVec.ofInt k.bits y).toNat)) := rfl
@[simp] theorem binV_ieql (k k' : IntKind) (x y : Int) : binV .eql (.int k x) (.int k' y) = .bool (decide (x = y)) := rfl
@[simp] theorem binV_ineq (k k' : IntKind) (x y : Int) : binV .neq (.int k x) (.int k' y) = .bool (!decide (x = y)) := rfl
@[simp] theorem binV_ilss (k k' : IntKind) (x y : Int) : binV .lss (.int k x) (.int k' y) = .bool (decide (x < y)) := rfl
@[simp] theorem binV_ileq (k k' : IntKind) (x y : Int) : binV .leq (.int k x) (.int k' y) = .bool (decide (x ≤ y)) := rfl
@[simp] theorem binV_igtr (k k' : IntKind) (x y : Int) : binV .gtr (.int k x) (.int k' y) = .bool (decide (y < x)) := rfl
@[simp] theorem binV_igeq (k k' : IntKind) (x y : Int) : binV .geq (.int k x) (.int k' y) = .bool (decide (y ≤ x)) := rfl
@[simp] theorem binV_sadd (x y : ByteArray) : binV .add (.str x) (.str y) = .str (x ++ y) := rfl
@[simp] theorem binV_seql (x y : ByteArray) : binV .eql (.str x) (.str y) = .bool (decide (x = y)) := rfl
@[simp] theorem binV_sneq (x y : ByteArray) : binV .neq (.str x) (.str y) = .bool (!decide (x = y)) := rfl
@[simp] theorem binV_slss (x y : ByteArray) : binV .lss (.str x) (.str y) = .bool (sless x y) := rfl
@[simp] theorem binV_sleq (x y : ByteArray) : binV .leq (.str x) (.str y) = .bool (!sless y x) := congrArg AV.bool (sless_le x y)
@[simp] theorem binV_sgtr (x y : ByteArray) : binV .gtr (.str x) (.str y) = .bool (sless y x) := congrArg AV.bool (sless_gt x y)
@[simp] theorem binV_sgeq (x y : ByteArray) : binV .geq (.str x) (.str y) = .bool (!sless x y) := rfl

@[simp] theorem stepC_ia (t : Tm) (H : Hp) (n : Nat) (x y : Od) : stepC t H (.ia n x y) = iaC H n (x.ev t) (y.ev t) := rfl
@[simp] theorem stepV_ia (t : Tm) (H : Hp) (n : Nat) (x y : Od) : stepV t H (.ia n x y) = iaV (x.ev t) (y.ev t) := rfl
@[simp] theorem stepH_ia (t : Tm) (H : Hp) (n : Nat) (x y : Od) : stepH t H (.ia n x y) = H := rfl
@[simp] theorem iaC_c (H : Hp) (esz o i n : Nat) (k : IntKind) (j : Int) : iaC H esz (.sl o i n) (.int k j) = ((∃ ob, H.at o = some ob ∧ ob.esz = esz) ∧ 0 ≤ j ∧ j < n) := rfl
@[simp] theorem iaV_c (o i n : Nat) (k : IntKind) (j : Int) : iaV (.sl o i n) (.int k j) = .pt o (i + j.toNat) 0 := rfl
@[simp] theorem stepC_cuts (t : Tm) (H : Hp) (x : Od) (l h : Option Od) : stepC t H (.cuts x l h) = cutsC (fun d => optI t d l) (fun d => optI t d h) (x.ev t) := rfl
@[simp] theorem stepV_cuts (t : Tm) (H : Hp) (x : Od) (l h : Option Od) : stepV t H (.cuts x l h) = cutsV (fun d => optI t d l) (fun d => optI t d h) (x.ev t) := rfl
@[simp] theorem stepH_cuts (t : Tm) (H : Hp) (x : Od) (l h : Option Od) : stepH t H (.cuts x l h) = H := rfl
@[simp] theorem cutsC_c (d e : Int → Option Int) (s : ByteArray) : cutsC d e (.str s) = ∃ l h, d 0 = some l ∧ e s.size = some h ∧ 0 ≤ l ∧ l ≤ h ∧ h ≤ s.size := rfl
@[simp] theorem cutsV_c (d e : Int → Option Int) (s : ByteArray) : cutsV d e (.str s) = .str (s.extract ((d 0).getD 0).toNat ((e s.size).getD 0).toNat) := rfl

/-- Where a guard is not known: both. -/
theorem g_split {q : Bool} {g : Nat} {b : Bool} {C : CallP} {d : Option Nat} {op : AOp} {p : Plan} {t : Tm} {H : Hp} {K : Tm → Hp → Prop}
    (h1 : q = true → gG (.bool true) g b C d op p (upd t g (.bool true)) H K) (h2 : q = false → gG (.bool false) g b C d op p (upd t g (.bool false)) H K) (ht : t g = .bool q) : gG (.bool q) g b C d op p t H K := by
  have e : upd t g (.bool q) = t := by
    funext x
    simp only [upd]
    split
    · rename_i e
      rw [e, ht]
    · rfl
  cases q
  · have := h2 rfl
    rwa [e] at this
  · have := h1 rfl
    rwa [e] at this
theorem c_split {q : Bool} {C : CallP} {a b : CC} {Q : Ex → Tm → Hp → Prop} {t : Tm} {H : Hp} (h1 : q = true → W C a Q t H) (h2 : q = false → W C b Q t H) : cG (.bool q) C a b Q t H := ⟨h1, h2⟩

theorem wrap64 {n : Int} (h1 : -9223372036854775808 ≤ n) (h2 : n < 9223372036854775808) : IntKind.i64.wrap n = n := by rw [IntKind.wrap_i64]; omega

end Go.Proofs.YtkdnijiipegabaaDoor.B

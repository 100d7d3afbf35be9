/- The document's parts of a float's bits: what the reference gives. Condition: sizes of at most 52 and 11 bits. -/
import Derived.Test.YtpemchghaddgdaaRa
namespace Go.Proofs.Ytpemchghaddgdaa
open Go.RowKit Go.Pst
set_option maxRecDepth 20000
set_option linter.unusedSimpArgs false
set_option linter.unusedVariables false

theorem rsign_any (f T Bs e : Nat) (w : World) (hf : f ≤ 52) (he : e ≤ 11) (hT : T + 1 = 2 ^ e) :
    Calls Try.prog 78 #[.agg #[.int .i64 f, .int .i64 T, .int .i64 Bs]] w fun en w' => en = .returned (.int .u64 ((2 ^ (f + e) : Nat) : Int)) ∧ Below w.heap.size w w' := by
  have h1 : 2 ^ e ≤ 2 ^ 11 := Nat.pow_le_pow_right (by omega) he
  have a1 : T ≤ 2047 := by omega
  have a2 : IntKind.u64.wrap (((T : Int) + 1) * 2 ^ f) = ((2 ^ (f + e) : Nat) : Int) := by
    rw [show ((T : Int) + 1) * 2 ^ f = ((2 ^ (f + e) : Nat) : Int) by rw [show (T : Int) + 1 = ((T + 1 : Nat) : Int) by simp, hT, Nat.pow_add]; simp [Int.mul_comm]]
    have := pow_lt64 (n := f + e) (by omega)
    exact wrapU _ (by omega)
  obtain ⟨G, hG⟩ : ∃ G : Nat, G = 2 ^ (f + e) := ⟨_, rfl⟩
  rw [← hG] at a2 ⊢
  clear hT h1 hG
  go_enter Try.func78, Try.ntmps78
  go_wp2
  go_ret
  exact ⟨rfl, (Below.refl _ _).alloc (Nat.le_refl _) _⟩


theorem rpartsA (f T Bs b P G fr ex sg : Nat) (neg : Bool) (w : World) (_hf : f ≤ 52) (_hf1 : 1 ≤ f)
    (hs : ∀ w, Calls Try.prog 78 #[.agg #[.int .i64 f, .int .i64 T, .int .i64 Bs]] w fun en w' => en = .returned (.int .u64 G) ∧ Below w.heap.size w w')
    (a0 : (2 : Int) ^ f = P) (_a1 : 1 ≤ P) (_a2 : P ≤ 2 ^ 52) (_a3 : T ≤ 2047) (_a4 : ex ≤ T) (_a4' : fr < P) (_ab : Bs ≤ 2047)
    (a5 : bits .and .u64 (b : Int) ((P : Int) - 1) = fr) (a6 : bits .and .u64 ((b : Int) / (P : Int)) (T : Int) = ex) (a7 : bits .and .u64 (b : Int) (G : Int) = sg)
    (a8 : ((sg : Int) != 0) = neg) (t1 : ((ex : Int) == (T : Int)) = true) (t2 : ((fr : Int) == 0) = true) :
    Calls Try.prog 31 #[.int .u64 b, .agg #[.int .i64 f, .int .i64 T, .int .i64 Bs]] w fun en w' =>
      en = .returned (FP.val ⟨3, neg, 0, 0, false, 0⟩) ∧ Below w.heap.size w w' := by
  have HS := Lib.hid hs; clear hs
  go_enter Try.func31, Try.ntmps31
  go_wp2_with fail
  refine (HS.out _).mono ?_
  rintro en w2 ⟨rfl, hb⟩
  have O := (((Reg.Own.nil w).alloc rfl _ _).alloc (k := w.heap.size + 1) (by simp) _ _).keep hb
  obtain ⟨c1, f1, z1, y1, ⟨n10, -⟩, c0, f0, z0, y0, -, zz⟩ := O.rules
  have HO := Lib.hid O; clear O
  clear hb
  go_wp2_with fail
  refine bodyPost_ret (v := FP.val ⟨3, neg, 0, 0, false, 0⟩) (by simp [results, Try.results31, go_sem, FP.val, c1, z1]) rfl ⟨rfl, ?_⟩
  repeat (first | (with_reducible exact HO.out.below) | (with_reducible refine Below.setCell ?_ (by first | (with_reducible assumption) | omega) _) | (with_reducible refine Below.drew ?_) | (with_reducible refine Below.alloc ?_ (by simp; try omega) _))

theorem rpartsB (f T Bs b P G fr ex sg H q ld : Nat) (neg quiet : Bool) (w : World) (_hf : f ≤ 52) (_hf1 : 1 ≤ f)
    (hs : ∀ w, Calls Try.prog 78 #[.agg #[.int .i64 f, .int .i64 T, .int .i64 Bs]] w fun en w' => en = .returned (.int .u64 G) ∧ Below w.heap.size w w')
    (a0 : (2 : Int) ^ f = P) (_a1 : 1 ≤ P) (_a2 : P ≤ 2 ^ 52) (_a3 : T ≤ 2047) (_a4 : ex ≤ T) (_a4' : fr < P) (_ab : Bs ≤ 2047)
    (a5 : bits .and .u64 (b : Int) ((P : Int) - 1) = fr) (a6 : bits .and .u64 ((b : Int) / (P : Int)) (T : Int) = ex) (a7 : bits .and .u64 (b : Int) (G : Int) = sg)
    (a8 : ((sg : Int) != 0) = neg) (t1 : ((ex : Int) == (T : Int)) = true) (t2 : ((fr : Int) == 0) = false)
    (a9 : (2 : Int) ^ (f - 1) = H) (_a10 : H ≤ 2 ^ 52) (_a10' : 1 ≤ H) (_a11 : (fr : Int) / (H : Int) = q) (a12 : ((q : Int) == 1) = quiet) (a13 : bits .and .u64 (fr : Int) ((H : Int) - 1) = ld) :
    Calls Try.prog 31 #[.int .u64 b, .agg #[.int .i64 f, .int .i64 T, .int .i64 Bs]] w fun en w' =>
      en = .returned (FP.val ⟨4, neg, 0, 0, quiet, ld⟩) ∧ Below w.heap.size w w' := by
  have HS := Lib.hid hs; clear hs
  go_enter Try.func31, Try.ntmps31
  go_wp2_with fail
  refine (HS.out _).mono ?_
  rintro en w2 ⟨rfl, hb⟩
  have O := (((Reg.Own.nil w).alloc rfl _ _).alloc (k := w.heap.size + 1) (by simp) _ _).keep hb
  obtain ⟨c1, f1, z1, y1, ⟨n10, -⟩, c0, f0, z0, y0, -, zz⟩ := O.rules
  have HO := Lib.hid O; clear O
  clear hb
  go_wp2_with fail
  refine bodyPost_ret (v := FP.val ⟨4, neg, 0, 0, quiet, ld⟩) (by simp [results, Try.results31, go_sem, FP.val, c1, z1]) rfl ⟨rfl, ?_⟩
  repeat (first | (with_reducible exact HO.out.below) | (with_reducible refine Below.setCell ?_ (by first | (with_reducible assumption) | omega) _) | (with_reducible refine Below.drew ?_) | (with_reducible refine Below.alloc ?_ (by simp; try omega) _))

theorem rpartsC (f T Bs b P G fr ex sg : Nat) (neg : Bool) (w : World) (_hf : f ≤ 52) (_hf1 : 1 ≤ f)
    (hs : ∀ w, Calls Try.prog 78 #[.agg #[.int .i64 f, .int .i64 T, .int .i64 Bs]] w fun en w' => en = .returned (.int .u64 G) ∧ Below w.heap.size w w')
    (a0 : (2 : Int) ^ f = P) (_a1 : 1 ≤ P) (_a2 : P ≤ 2 ^ 52) (_a3 : T ≤ 2047) (_a4 : ex ≤ T) (_a4' : fr < P) (_ab : Bs ≤ 2047)
    (a5 : bits .and .u64 (b : Int) ((P : Int) - 1) = fr) (a6 : bits .and .u64 ((b : Int) / (P : Int)) (T : Int) = ex) (a7 : bits .and .u64 (b : Int) (G : Int) = sg)
    (a8 : ((sg : Int) != 0) = neg) (t1 : ((ex : Int) == (T : Int)) = false) (_t2 : 0 < ex) :
    Calls Try.prog 31 #[.int .u64 b, .agg #[.int .i64 f, .int .i64 T, .int .i64 Bs]] w fun en w' =>
      en = .returned (FP.val ⟨2, neg, (P : Int) + fr, (ex : Int) - Bs - f, false, 0⟩) ∧ Below w.heap.size w w' := by
  have HS := Lib.hid hs; clear hs
  go_enter Try.func31, Try.ntmps31
  go_wp2_with fail
  refine (HS.out _).mono ?_
  rintro en w2 ⟨rfl, hb⟩
  have O := (((Reg.Own.nil w).alloc rfl _ _).alloc (k := w.heap.size + 1) (by simp) _ _).keep hb
  obtain ⟨c1, f1, z1, y1, ⟨n10, -⟩, c0, f0, z0, y0, -, zz⟩ := O.rules
  have HO := Lib.hid O; clear O
  clear hb
  go_wp2_with fail
  have O := HO.out.alloc rfl #[.int .i64 0, .bool neg, .int .u64 0, .int .i64 0, .bool false, .int .u64 0] 32
  clear HO c1 f1 z1 y1 n10 c0 f0 z0 y0 zz
  obtain ⟨c2, f2, z2, y2, ⟨n21, n20, -⟩, c1, f1, z1, y1, ⟨n10, -⟩, c0, f0, z0, y0, -, zz⟩ := O.rules
  have HO := Lib.hid O; clear O
  refine Reg.wp_region_lex (Reg.rs _ _ _ _ _ [0, 2, 3] [(14, 0, .int .i64 2), (16, 2, .int .u64 ((P : Int) + (fr : Int))), (18, 3, .int .i64 ((ex : Int) - (Bs : Int) - (f : Int)))]) (by kernel_rfl) (by kernel_rfl) (Reg.rs_start HO.out) ?_
  repeat (refine Reg.rs_op ?_ rfl ?_; simp; apply Exists.intro; apply And.intro; (intro w' hr; obtain ⟨rc1, rf1, rz1, ry1, -, rc0, rf0, rz0, ry0, -, -⟩ := hr; go_simp; (try go_bits); first | done | (with_reducible exact rfl)); (intro a' ha'; simp only [Act.put, List.setIfInBounds_toArray, List.set_cons_zero, List.set_cons_succ] at ha'; subst ha'))
  refine Reg.rs_store rfl 0 (.int .i64 2) rfl (by simp) (by simp) (by simp) (by simp) (fun w' u hcu hfu hr => ?_) ?_
  · clear hr; go_simp
  repeat (refine Reg.rs_op ?_ rfl ?_; simp; apply Exists.intro; apply And.intro; (intro w' hr; obtain ⟨rc1, rf1, rz1, ry1, -, rc0, rf0, rz0, ry0, -, -⟩ := hr; go_simp; (try go_bits); first | done | (with_reducible exact rfl)); (intro a' ha'; simp only [Act.put, List.setIfInBounds_toArray, List.set_cons_zero, List.set_cons_succ] at ha'; subst ha'))
  refine Reg.rs_store rfl 2 (.int .u64 ((P : Int) + (fr : Int))) rfl (by simp) (by simp) (by simp) (by simp) (fun w' u hcu hfu hr => ?_) ?_
  · clear hr; go_simp
  repeat (refine Reg.rs_op ?_ rfl ?_; simp; apply Exists.intro; apply And.intro; (intro w' hr; obtain ⟨rc1, rf1, rz1, ry1, -, rc0, rf0, rz0, ry0, -, -⟩ := hr; go_simp; (try go_bits); first | done | (with_reducible exact rfl)); (intro a' ha'; simp only [Act.put, List.setIfInBounds_toArray, List.set_cons_zero, List.set_cons_succ] at ha'; subst ha'))
  refine Reg.rs_store rfl 3 (.int .i64 ((ex : Int) - (Bs : Int) - (f : Int))) rfl (by simp) (by simp) (by simp) (by simp) (fun w' u hcu hfu hr => ?_) ?_
  · clear hr; go_simp
  refine Reg.rs_end #[.int .i64 2, .bool neg, .int .u64 ((P : Int) + (fr : Int)), .int .i64 ((ex : Int) - (Bs : Int) - (f : Int)), .bool false, .int .u64 0] (by simp [Reg.agree]) (by simp) (fun wn O => ?_)
  have O := O
  clear HO c2 f2 z2 y2 n21 n20 c1 f1 z1 y1 n10 c0 f0 z0 y0 zz
  obtain ⟨c2, f2, z2, y2, ⟨n21, n20, -⟩, c1, f1, z1, y1, ⟨n10, -⟩, c0, f0, z0, y0, -, zz⟩ := O.rules
  have HO := Lib.hid O; clear O
  go_wp2_with fail
  refine bodyPost_ret (v := FP.val ⟨2, neg, (P : Int) + fr, (ex : Int) - Bs - f, false, 0⟩) (by simp [results, Try.results31, go_sem, FP.val, c1, z1]) rfl ⟨rfl, ?_⟩
  repeat (first | (with_reducible exact HO.out.below) | (with_reducible refine Below.setCell ?_ (by first | (with_reducible assumption) | omega) _) | (with_reducible refine Below.drew ?_) | (with_reducible refine Below.alloc ?_ (by simp; try omega) _))

theorem rpartsD (f T Bs b P G fr ex sg : Nat) (neg : Bool) (w : World) (_hf : f ≤ 52) (_hf1 : 1 ≤ f)
    (hs : ∀ w, Calls Try.prog 78 #[.agg #[.int .i64 f, .int .i64 T, .int .i64 Bs]] w fun en w' => en = .returned (.int .u64 G) ∧ Below w.heap.size w w')
    (a0 : (2 : Int) ^ f = P) (_a1 : 1 ≤ P) (_a2 : P ≤ 2 ^ 52) (_a3 : T ≤ 2047) (_a4 : ex ≤ T) (_a4' : fr < P) (_ab : Bs ≤ 2047)
    (a5 : bits .and .u64 (b : Int) ((P : Int) - 1) = fr) (a6 : bits .and .u64 ((b : Int) / (P : Int)) (T : Int) = ex) (a7 : bits .and .u64 (b : Int) (G : Int) = sg)
    (a8 : ((sg : Int) != 0) = neg) (t1 : ((ex : Int) == (T : Int)) = false) (_t2 : ex ≤ 0) (_t3 : 0 < fr) :
    Calls Try.prog 31 #[.int .u64 b, .agg #[.int .i64 f, .int .i64 T, .int .i64 Bs]] w fun en w' =>
      en = .returned (FP.val ⟨1, neg, fr, 1 - (Bs : Int) - f, false, 0⟩) ∧ Below w.heap.size w w' := by
  have HS := Lib.hid hs; clear hs
  go_enter Try.func31, Try.ntmps31
  go_wp2_with fail
  refine (HS.out _).mono ?_
  rintro en w2 ⟨rfl, hb⟩
  have O := (((Reg.Own.nil w).alloc rfl _ _).alloc (k := w.heap.size + 1) (by simp) _ _).keep hb
  obtain ⟨c1, f1, z1, y1, ⟨n10, -⟩, c0, f0, z0, y0, -, zz⟩ := O.rules
  have HO := Lib.hid O; clear O
  clear hb
  go_wp2_with fail
  have O := HO.out.alloc rfl #[.int .i64 0, .bool neg, .int .u64 0, .int .i64 0, .bool false, .int .u64 0] 32
  clear HO c1 f1 z1 y1 n10 c0 f0 z0 y0 zz
  obtain ⟨c2, f2, z2, y2, ⟨n21, n20, -⟩, c1, f1, z1, y1, ⟨n10, -⟩, c0, f0, z0, y0, -, zz⟩ := O.rules
  have HO := Lib.hid O; clear O
  refine Reg.wp_region_lex (Reg.rs _ _ _ _ _ [0, 2, 3] [(8, 0, .int .i64 1), (10, 2, .int .u64 ((fr : Int))), (12, 3, .int .i64 (1 - (Bs : Int) - (f : Int)))]) (by kernel_rfl) (by kernel_rfl) (Reg.rs_start HO.out) ?_
  repeat (refine Reg.rs_op ?_ rfl ?_; simp; apply Exists.intro; apply And.intro; (intro w' hr; obtain ⟨rc1, rf1, rz1, ry1, -, rc0, rf0, rz0, ry0, -, -⟩ := hr; go_simp; (try go_bits); first | done | (with_reducible exact rfl)); (intro a' ha'; simp only [Act.put, List.setIfInBounds_toArray, List.set_cons_zero, List.set_cons_succ] at ha'; subst ha'))
  refine Reg.rs_store rfl 0 (.int .i64 1) rfl (by simp) (by simp) (by simp) (by simp) (fun w' u hcu hfu hr => ?_) ?_
  · clear hr; go_simp
  repeat (refine Reg.rs_op ?_ rfl ?_; simp; apply Exists.intro; apply And.intro; (intro w' hr; obtain ⟨rc1, rf1, rz1, ry1, -, rc0, rf0, rz0, ry0, -, -⟩ := hr; go_simp; (try go_bits); first | done | (with_reducible exact rfl)); (intro a' ha'; simp only [Act.put, List.setIfInBounds_toArray, List.set_cons_zero, List.set_cons_succ] at ha'; subst ha'))
  refine Reg.rs_store rfl 2 (.int .u64 ((fr : Int))) rfl (by simp) (by simp) (by simp) (by simp) (fun w' u hcu hfu hr => ?_) ?_
  · clear hr; go_simp
  repeat (refine Reg.rs_op ?_ rfl ?_; simp; apply Exists.intro; apply And.intro; (intro w' hr; obtain ⟨rc1, rf1, rz1, ry1, -, rc0, rf0, rz0, ry0, -, -⟩ := hr; go_simp; (try go_bits); first | done | (with_reducible exact rfl)); (intro a' ha'; simp only [Act.put, List.setIfInBounds_toArray, List.set_cons_zero, List.set_cons_succ] at ha'; subst ha'))
  refine Reg.rs_store rfl 3 (.int .i64 (1 - (Bs : Int) - (f : Int))) rfl (by simp) (by simp) (by simp) (by simp) (fun w' u hcu hfu hr => ?_) ?_
  · clear hr; go_simp
  refine Reg.rs_end #[.int .i64 1, .bool neg, .int .u64 ((fr : Int)), .int .i64 (1 - (Bs : Int) - (f : Int)), .bool false, .int .u64 0] (by simp [Reg.agree]) (by simp) (fun wn O => ?_)
  have O := O
  clear HO c2 f2 z2 y2 n21 n20 c1 f1 z1 y1 n10 c0 f0 z0 y0 zz
  obtain ⟨c2, f2, z2, y2, ⟨n21, n20, -⟩, c1, f1, z1, y1, ⟨n10, -⟩, c0, f0, z0, y0, -, zz⟩ := O.rules
  have HO := Lib.hid O; clear O
  go_wp2_with fail
  refine bodyPost_ret (v := FP.val ⟨1, neg, fr, 1 - (Bs : Int) - f, false, 0⟩) (by simp [results, Try.results31, go_sem, FP.val, c1, z1]) rfl ⟨rfl, ?_⟩
  repeat (first | (with_reducible exact HO.out.below) | (with_reducible refine Below.setCell ?_ (by first | (with_reducible assumption) | omega) _) | (with_reducible refine Below.drew ?_) | (with_reducible refine Below.alloc ?_ (by simp; try omega) _))

theorem rpartsE (f T Bs b P G fr ex sg : Nat) (neg : Bool) (w : World) (_hf : f ≤ 52) (_hf1 : 1 ≤ f)
    (hs : ∀ w, Calls Try.prog 78 #[.agg #[.int .i64 f, .int .i64 T, .int .i64 Bs]] w fun en w' => en = .returned (.int .u64 G) ∧ Below w.heap.size w w')
    (a0 : (2 : Int) ^ f = P) (_a1 : 1 ≤ P) (_a2 : P ≤ 2 ^ 52) (_a3 : T ≤ 2047) (_a4 : ex ≤ T) (_a4' : fr < P) (_ab : Bs ≤ 2047)
    (a5 : bits .and .u64 (b : Int) ((P : Int) - 1) = fr) (a6 : bits .and .u64 ((b : Int) / (P : Int)) (T : Int) = ex) (a7 : bits .and .u64 (b : Int) (G : Int) = sg)
    (a8 : ((sg : Int) != 0) = neg) (t1 : ((ex : Int) == (T : Int)) = false) (_t2 : ex ≤ 0) (_t3 : fr ≤ 0) :
    Calls Try.prog 31 #[.int .u64 b, .agg #[.int .i64 f, .int .i64 T, .int .i64 Bs]] w fun en w' =>
      en = .returned (FP.val ⟨0, neg, 0, 0, false, 0⟩) ∧ Below w.heap.size w w' := by
  have HS := Lib.hid hs; clear hs
  go_enter Try.func31, Try.ntmps31
  go_wp2_with fail
  refine (HS.out _).mono ?_
  rintro en w2 ⟨rfl, hb⟩
  have O := (((Reg.Own.nil w).alloc rfl _ _).alloc (k := w.heap.size + 1) (by simp) _ _).keep hb
  obtain ⟨c1, f1, z1, y1, ⟨n10, -⟩, c0, f0, z0, y0, -, zz⟩ := O.rules
  have HO := Lib.hid O; clear O
  clear hb
  go_wp2_with fail
  refine bodyPost_ret (v := FP.val ⟨0, neg, 0, 0, false, 0⟩) (by simp [results, Try.results31, go_sem, FP.val, c1, z1]) rfl ⟨rfl, ?_⟩
  repeat (first | (with_reducible exact HO.out.below) | (with_reducible refine Below.setCell ?_ (by first | (with_reducible assumption) | omega) _) | (with_reducible refine Below.drew ?_) | (with_reducible refine Below.alloc ?_ (by simp; try omega) _))

end Go.Proofs.Ytpemchghaddgdaa

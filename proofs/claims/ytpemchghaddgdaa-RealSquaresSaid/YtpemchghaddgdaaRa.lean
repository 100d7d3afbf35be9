/- The parts of a float's bits: what each function of the two texts gives. Condition: sizes of at most 52 and 11 bits. -/
import Derived.Test.YtpemchghaddgdaaRows
import Derived.Test.YtpemchghaddgdaaReg
import Derived.Test.YtpemchghaddgdaaPl
import Derived.WalkKit
import Derived.WalkSpells
import Derived.WalkLawsBesides
import Derived.BigQuiet
import Derived.Lib.Hide
import Derived.Outline
namespace Go.Proofs.Ytpemchghaddgdaa
open Go.RowKit Go.Pst
set_option maxRecDepth 20000

theorem ret_int {k : IntKind} {a b : Int} (h : a = b) : Ending.returned (.int k a) = .returned (.int k b) := by rw [h]

theorem top_any (f e : Nat) (w : World) (he : e ≤ 11) :
    Calls Try.prog 101 #[.agg #[.int .i64 f, .int .i64 e]] w fun en w' => en = .returned (.int .i64 ((2 ^ e - 1 : Nat) : Int)) ∧ Below w.heap.size w w' := by
  have h1 : 2 ^ e ≤ 2 ^ 11 := Nat.pow_le_pow_right (by omega) he
  have h2 : 1 ≤ 2 ^ e := Nat.one_le_two_pow
  have h3 : (2 : Int) ^ e = ((2 ^ e : Nat) : Int) := by simp
  generalize hP : 2 ^ e = P at *
  have hP' := Lib.hid hP; clear hP
  go_enter Try.func101, Try.ntmps101
  go_wp2
  go_ret
  exact ⟨ret_int (by omega), (Below.refl _ _).alloc (Nat.le_refl _) _⟩

theorem least_any (f e : Nat) (w : World) (hf : f ≤ 52) (he : e ≤ 11) :
    Calls Try.prog 102 #[.agg #[.int .i64 f, .int .i64 e]] w fun en w' => en = .returned (.int .i64 (lst f e)) ∧ Below w.heap.size w w' := by
  have h1 : 2 ^ e ≤ 2 ^ 11 := Nat.pow_le_pow_right (by omega) he
  have h2 : 1 ≤ 2 ^ e := Nat.one_le_two_pow
  have hl : lst f e = 1 - ((2 ^ e - 1 : Nat) : Int) / 2 - f := by unfold lst; omega
  obtain ⟨T, hT⟩ : ∃ T : Nat, T = 2 ^ e - 1 := ⟨_, rfl⟩
  have ht := fun w => top_any f e w he
  rw [← hT] at hl ht
  have hT1 : T ≤ 2047 := by omega
  clear h1 h2 hT
  have HL := Lib.hid hl; clear hl
  have HT := Lib.hid ht; clear ht
  go_enter Try.func102, Try.ntmps102
  go_wp2_with fail
  refine Reg.wp_region_rd (by kernel_rfl) (by kernel_rfl) (fun _ => ?_)
  repeat (refine Reg.rd_op rfl ?_; apply Exists.intro; apply And.intro; (intro w' hb; have hc := Reg.rd_cells hb; clear hb; go_simp; (try go_bits); first | done | (with_reducible exact rfl)); (intro _ a' ha'; simp only [Act.put, List.setIfInBounds_toArray, List.set_cons_zero, List.set_cons_succ] at ha'; subst ha'))
  refine Reg.rd_op rfl ?_; apply Exists.intro; apply And.intro
  · intro w' hb; have hsz := Reg.rd_size hb; clear hb; go_simp; (try go_bits); exact HT.out _
  intro _ a' ha'; simp only [Act.put, List.setIfInBounds_toArray, List.set_cons_zero, List.set_cons_succ] at ha'; subst ha'
  repeat (refine Reg.rd_op rfl ?_; apply Exists.intro; apply And.intro; (intro w' hb; have hc := Reg.rd_cells hb; clear hb; go_simp; (try go_bits); first | done | (with_reducible exact rfl)); (intro _ a' ha'; simp only [Act.put, List.setIfInBounds_toArray, List.set_cons_zero, List.set_cons_succ] at ha'; subst ha'))
  refine Reg.rd_end (fun wz hb => ?_)
  go_wp2
  go_ret
  exact ⟨ret_int (by rw [HL.out]), ((Below.refl _ _).alloc (Nat.le_refl _) _).trans (hb.mono (by simp))⟩

theorem sign_any (f e : Nat) (w : World) (hf : f ≤ 52) (he : e ≤ 11) :
    Calls Try.prog 103 #[.agg #[.int .i64 f, .int .i64 e]] w fun en w' => en = .returned (.int .u64 ((2 ^ (f + e) : Nat) : Int)) ∧ Below w.heap.size w w' := by
  have h1 := wrap_pow (n := f + e) (by omega)
  have h2 : ((f : Int) + e).toNat = f + e := by omega
  obtain ⟨T, hT⟩ : ∃ T : Nat, T = 2 ^ (f + e) := ⟨_, rfl⟩
  rw [← hT] at h1 ⊢
  clear hT
  go_enter Try.func103, Try.ntmps103
  go_wp2
  go_ret
  exact ⟨rfl, (Below.refl _ _).alloc (Nat.le_refl _) _⟩


theorem partsA (f e b P T G fr ex sg : Nat) (neg : Bool) (w : World) (_he : e ≤ 11) (_hf : f ≤ 52) (_hf1 : 1 ≤ f)
    (ht : ∀ w, Calls Try.prog 101 #[.agg #[.int .i64 f, .int .i64 e]] w fun en w' => en = .returned (.int .i64 T) ∧ Below w.heap.size w w')
    (hs : ∀ w, Calls Try.prog 103 #[.agg #[.int .i64 f, .int .i64 e]] w fun en w' => en = .returned (.int .u64 G) ∧ Below w.heap.size w w')
    (hl : ∀ w, Calls Try.prog 102 #[.agg #[.int .i64 f, .int .i64 e]] w fun en w' => en = .returned (.int .i64 (lst f e)) ∧ Below w.heap.size w w')
    (_hl1 : -2000 ≤ lst f e) (_hl2 : lst f e ≤ 0)
    (a0 : (2 : Int) ^ f = P) (_a1 : 1 ≤ P) (_a2 : P ≤ 2 ^ 52) (_a3 : T ≤ 2047) (_a4 : ex ≤ T) (_a4' : fr < P)
    (a5 : bits .and .u64 (b : Int) ((P : Int) - 1) = fr) (a6 : bits .and .u64 ((b : Int) / (P : Int)) (T : Int) = ex) (a7 : bits .and .u64 (b : Int) (G : Int) = sg)
    (a8 : ((sg : Int) != 0) = neg) (t1 : ((ex : Int) == (T : Int)) = true) (t2 : ((fr : Int) == 0) = true) :
    Calls Try.prog 80 #[.agg #[.int .i64 f, .int .i64 e], .int .u64 b] w fun en w' =>
      en = .returned (FP.val ⟨3, neg, 0, 0, false, 0⟩) ∧ Below w.heap.size w w' := by
  have HT := Lib.hid ht; clear ht
  have HS := Lib.hid hs; clear hs
  have HL := Lib.hid hl; clear hl
  go_enter Try.func80, Try.ntmps80
  go_wp2_with fail
  refine Reg.wp_region_rd (by kernel_rfl) (by kernel_rfl) (fun _ => ?_)
  repeat (refine Reg.rd_op rfl ?_; apply Exists.intro; apply And.intro; (intro w' hb; have hc := Reg.rd_cells hb; clear hb; go_simp; (try go_bits); first | done | (with_reducible exact rfl)); (intro _ a' ha'; simp only [Act.put, List.setIfInBounds_toArray, List.set_cons_zero, List.set_cons_succ] at ha'; subst ha'))
  refine Reg.rd_op rfl ?_; apply Exists.intro; apply And.intro
  · intro w' hb; have hsz := Reg.rd_size hb; clear hb; go_simp; (try go_bits); exact HT.out _
  intro _ a' ha'; simp only [Act.put, List.setIfInBounds_toArray, List.set_cons_zero, List.set_cons_succ] at ha'; subst ha'
  repeat (refine Reg.rd_op rfl ?_; apply Exists.intro; apply And.intro; (intro w' hb; have hc := Reg.rd_cells hb; clear hb; go_simp; (try go_bits); first | done | (with_reducible exact rfl)); (intro _ a' ha'; simp only [Act.put, List.setIfInBounds_toArray, List.set_cons_zero, List.set_cons_succ] at ha'; subst ha'))
  refine Reg.rd_end (fun wz hb => ?_)
  have O := (((Reg.Own.nil w).alloc rfl _ _).alloc (k := w.heap.size + 1) (by simp) _ _).keep hb
  obtain ⟨c1, f1, z1, y1, ⟨n10, -⟩, c0, f0, z0, y0, -, zz⟩ := O.rules
  have HO := Lib.hid O; clear O
  clear hb
  go_wp2_with fail
  refine (HS.out _).mono ?_
  rintro en w2 ⟨rfl, hb⟩
  have O := HO.out.keep hb
  clear HO c1 f1 z1 y1 n10 c0 f0 z0 y0 zz
  obtain ⟨c1, f1, z1, y1, ⟨n10, -⟩, c0, f0, z0, y0, -, zz⟩ := O.rules
  have HO := Lib.hid O; clear O
  clear hb
  go_wp2_with fail
  refine (HT.out _).mono ?_
  rintro en w3 ⟨rfl, hb⟩
  have O := (HO.out.alloc rfl _ _).keep hb
  clear HO c1 f1 z1 y1 n10 c0 f0 z0 y0 zz
  obtain ⟨c2, f2, z2, y2, ⟨n21, n20, -⟩, c1, f1, z1, y1, ⟨n10, -⟩, c0, f0, z0, y0, -, zz⟩ := O.rules
  have HO := Lib.hid O; clear O
  clear hb
  go_wp2_with fail
  refine bodyPost_ret (v := FP.val ⟨3, neg, 0, 0, false, 0⟩) (by simp [results, Try.results80, go_sem, FP.val, c1]) rfl ⟨rfl, ?_⟩
  repeat (first | (with_reducible exact HO.out.below) | (with_reducible refine Below.setCell ?_ (by first | (with_reducible assumption) | omega) _) | (with_reducible refine Below.drew ?_) | (with_reducible refine Below.alloc ?_ (by simp; try omega) _))

theorem partsB (f e b P T G fr ex sg H q ld : Nat) (neg quiet : Bool) (w : World) (_he : e ≤ 11) (_hf : f ≤ 52) (_hf1 : 1 ≤ f)
    (ht : ∀ w, Calls Try.prog 101 #[.agg #[.int .i64 f, .int .i64 e]] w fun en w' => en = .returned (.int .i64 T) ∧ Below w.heap.size w w')
    (hs : ∀ w, Calls Try.prog 103 #[.agg #[.int .i64 f, .int .i64 e]] w fun en w' => en = .returned (.int .u64 G) ∧ Below w.heap.size w w')
    (hl : ∀ w, Calls Try.prog 102 #[.agg #[.int .i64 f, .int .i64 e]] w fun en w' => en = .returned (.int .i64 (lst f e)) ∧ Below w.heap.size w w')
    (_hl1 : -2000 ≤ lst f e) (_hl2 : lst f e ≤ 0)
    (a0 : (2 : Int) ^ f = P) (_a1 : 1 ≤ P) (_a2 : P ≤ 2 ^ 52) (_a3 : T ≤ 2047) (_a4 : ex ≤ T) (_a4' : fr < P)
    (a5 : bits .and .u64 (b : Int) ((P : Int) - 1) = fr) (a6 : bits .and .u64 ((b : Int) / (P : Int)) (T : Int) = ex) (a7 : bits .and .u64 (b : Int) (G : Int) = sg)
    (a8 : ((sg : Int) != 0) = neg) (t1 : ((ex : Int) == (T : Int)) = true) (t2 : ((fr : Int) == 0) = false)
    (a9 : (2 : Int) ^ (f - 1) = H) (_a10 : H ≤ 2 ^ 52) (a11 : bits .and .u64 (fr : Int) (H : Int) = q) (a12 : ((q : Int) != 0) = quiet) (a13 : bits .andNot .u64 (fr : Int) (H : Int) = ld) :
    Calls Try.prog 80 #[.agg #[.int .i64 f, .int .i64 e], .int .u64 b] w fun en w' =>
      en = .returned (FP.val ⟨4, neg, 0, 0, quiet, ld⟩) ∧ Below w.heap.size w w' := by
  have HT := Lib.hid ht; clear ht
  have HS := Lib.hid hs; clear hs
  have HL := Lib.hid hl; clear hl
  go_enter Try.func80, Try.ntmps80
  go_wp2_with fail
  refine Reg.wp_region_rd (by kernel_rfl) (by kernel_rfl) (fun _ => ?_)
  repeat (refine Reg.rd_op rfl ?_; apply Exists.intro; apply And.intro; (intro w' hb; have hc := Reg.rd_cells hb; clear hb; go_simp; (try go_bits); first | done | (with_reducible exact rfl)); (intro _ a' ha'; simp only [Act.put, List.setIfInBounds_toArray, List.set_cons_zero, List.set_cons_succ] at ha'; subst ha'))
  refine Reg.rd_op rfl ?_; apply Exists.intro; apply And.intro
  · intro w' hb; have hsz := Reg.rd_size hb; clear hb; go_simp; (try go_bits); exact HT.out _
  intro _ a' ha'; simp only [Act.put, List.setIfInBounds_toArray, List.set_cons_zero, List.set_cons_succ] at ha'; subst ha'
  repeat (refine Reg.rd_op rfl ?_; apply Exists.intro; apply And.intro; (intro w' hb; have hc := Reg.rd_cells hb; clear hb; go_simp; (try go_bits); first | done | (with_reducible exact rfl)); (intro _ a' ha'; simp only [Act.put, List.setIfInBounds_toArray, List.set_cons_zero, List.set_cons_succ] at ha'; subst ha'))
  refine Reg.rd_end (fun wz hb => ?_)
  have O := (((Reg.Own.nil w).alloc rfl _ _).alloc (k := w.heap.size + 1) (by simp) _ _).keep hb
  obtain ⟨c1, f1, z1, y1, ⟨n10, -⟩, c0, f0, z0, y0, -, zz⟩ := O.rules
  have HO := Lib.hid O; clear O
  clear hb
  go_wp2_with fail
  refine (HS.out _).mono ?_
  rintro en w2 ⟨rfl, hb⟩
  have O := HO.out.keep hb
  clear HO c1 f1 z1 y1 n10 c0 f0 z0 y0 zz
  obtain ⟨c1, f1, z1, y1, ⟨n10, -⟩, c0, f0, z0, y0, -, zz⟩ := O.rules
  have HO := Lib.hid O; clear O
  clear hb
  go_wp2_with fail
  refine (HT.out _).mono ?_
  rintro en w3 ⟨rfl, hb⟩
  have O := (HO.out.alloc rfl _ _).keep hb
  clear HO c1 f1 z1 y1 n10 c0 f0 z0 y0 zz
  obtain ⟨c2, f2, z2, y2, ⟨n21, n20, -⟩, c1, f1, z1, y1, ⟨n10, -⟩, c0, f0, z0, y0, -, zz⟩ := O.rules
  have HO := Lib.hid O; clear O
  clear hb
  go_wp2_with fail
  refine (HT.out _).mono ?_
  rintro en w4 ⟨rfl, hb⟩
  have O := HO.out.keep hb
  clear HO c2 f2 z2 y2 n21 n20 c1 f1 z1 y1 n10 c0 f0 z0 y0 zz
  obtain ⟨c2, f2, z2, y2, ⟨n21, n20, -⟩, c1, f1, z1, y1, ⟨n10, -⟩, c0, f0, z0, y0, -, zz⟩ := O.rules
  have HO := Lib.hid O; clear O
  clear hb
  go_wp2_with fail
  refine bodyPost_ret (v := FP.val ⟨4, neg, 0, 0, quiet, ld⟩) (by simp [results, Try.results80, go_sem, FP.val, c1]) rfl ⟨rfl, ?_⟩
  repeat (first | (with_reducible exact HO.out.below) | (with_reducible refine Below.setCell ?_ (by first | (with_reducible assumption) | omega) _) | (with_reducible refine Below.drew ?_) | (with_reducible refine Below.alloc ?_ (by simp; try omega) _))



theorem partsC (f e b P T G fr ex sg mt : Nat) (neg : Bool) (w : World) (_he : e ≤ 11) (_hf : f ≤ 52) (_hf1 : 1 ≤ f)
    (ht : ∀ w, Calls Try.prog 101 #[.agg #[.int .i64 f, .int .i64 e]] w fun en w' => en = .returned (.int .i64 T) ∧ Below w.heap.size w w')
    (hs : ∀ w, Calls Try.prog 103 #[.agg #[.int .i64 f, .int .i64 e]] w fun en w' => en = .returned (.int .u64 G) ∧ Below w.heap.size w w')
    (hl : ∀ w, Calls Try.prog 102 #[.agg #[.int .i64 f, .int .i64 e]] w fun en w' => en = .returned (.int .i64 (lst f e)) ∧ Below w.heap.size w w')
    (_hl1 : -2000 ≤ lst f e) (_hl2 : lst f e ≤ 0)
    (a0 : (2 : Int) ^ f = P) (_a1 : 1 ≤ P) (_a2 : P ≤ 2 ^ 52) (_a3 : T ≤ 2047) (_a4 : ex ≤ T) (_a4' : fr < P)
    (a5 : bits .and .u64 (b : Int) ((P : Int) - 1) = fr) (a6 : bits .and .u64 ((b : Int) / (P : Int)) (T : Int) = ex) (a7 : bits .and .u64 (b : Int) (G : Int) = sg)
    (a8 : ((sg : Int) != 0) = neg) (t1 : ((ex : Int) == (T : Int)) = false) (_t2 : 0 < ex) (a9 : bits .or .u64 (P : Int) (fr : Int) = mt) :
    Calls Try.prog 80 #[.agg #[.int .i64 f, .int .i64 e], .int .u64 b] w fun en w' =>
      en = .returned (FP.val ⟨2, neg, mt, ex - 1 + lst f e, false, 0⟩) ∧ Below w.heap.size w w' := by
  have HT := Lib.hid ht; clear ht
  have HS := Lib.hid hs; clear hs
  have HL := Lib.hid hl; clear hl
  go_enter Try.func80, Try.ntmps80
  go_wp2_with fail
  refine Reg.wp_region_rd (by kernel_rfl) (by kernel_rfl) (fun _ => ?_)
  repeat (refine Reg.rd_op rfl ?_; apply Exists.intro; apply And.intro; (intro w' hb; have hc := Reg.rd_cells hb; clear hb; go_simp; (try go_bits); first | done | (with_reducible exact rfl)); (intro _ a' ha'; simp only [Act.put, List.setIfInBounds_toArray, List.set_cons_zero, List.set_cons_succ] at ha'; subst ha'))
  refine Reg.rd_op rfl ?_; apply Exists.intro; apply And.intro
  · intro w' hb; have hsz := Reg.rd_size hb; clear hb; go_simp; (try go_bits); exact HT.out _
  intro _ a' ha'; simp only [Act.put, List.setIfInBounds_toArray, List.set_cons_zero, List.set_cons_succ] at ha'; subst ha'
  repeat (refine Reg.rd_op rfl ?_; apply Exists.intro; apply And.intro; (intro w' hb; have hc := Reg.rd_cells hb; clear hb; go_simp; (try go_bits); first | done | (with_reducible exact rfl)); (intro _ a' ha'; simp only [Act.put, List.setIfInBounds_toArray, List.set_cons_zero, List.set_cons_succ] at ha'; subst ha'))
  refine Reg.rd_end (fun wz hb => ?_)
  have O := (((Reg.Own.nil w).alloc rfl _ _).alloc (k := w.heap.size + 1) (by simp) _ _).keep hb
  obtain ⟨c1, f1, z1, y1, ⟨n10, -⟩, c0, f0, z0, y0, -, zz⟩ := O.rules
  have HO := Lib.hid O; clear O
  clear hb
  go_wp2_with fail
  refine (HS.out _).mono ?_
  rintro en w2 ⟨rfl, hb⟩
  have O := HO.out.keep hb
  clear HO c1 f1 z1 y1 n10 c0 f0 z0 y0 zz
  obtain ⟨c1, f1, z1, y1, ⟨n10, -⟩, c0, f0, z0, y0, -, zz⟩ := O.rules
  have HO := Lib.hid O; clear O
  clear hb
  go_wp2_with fail
  refine (HT.out _).mono ?_
  rintro en w3 ⟨rfl, hb⟩
  have O := (HO.out.alloc rfl _ _).keep hb
  clear HO c1 f1 z1 y1 n10 c0 f0 z0 y0 zz
  obtain ⟨c2, f2, z2, y2, ⟨n21, n20, -⟩, c1, f1, z1, y1, ⟨n10, -⟩, c0, f0, z0, y0, -, zz⟩ := O.rules
  have HO := Lib.hid O; clear O
  clear hb
  go_wp2_with fail
  refine (HT.out _).mono ?_
  rintro en w4 ⟨rfl, hb⟩
  have O := HO.out.keep hb
  clear HO c2 f2 z2 y2 n21 n20 c1 f1 z1 y1 n10 c0 f0 z0 y0 zz
  obtain ⟨c2, f2, z2, y2, ⟨n21, n20, -⟩, c1, f1, z1, y1, ⟨n10, -⟩, c0, f0, z0, y0, -, zz⟩ := O.rules
  have HO := Lib.hid O; clear O
  clear hb
  go_wp2_with fail
  refine Reg.wp_region_lex (Reg.rs _ _ _ _ _ [0, 2, 3] [(11, 0, .int .i64 2), (13, 2, .int .u64 mt), (15, 3, .int .i64 ((ex : Int) - 1 + lst f e))]) (by kernel_rfl) (by kernel_rfl) (Reg.rs_start HO.out) ?_
  repeat (refine Reg.rs_op ?_ rfl ?_; simp; apply Exists.intro; apply And.intro; (intro w' hr; obtain ⟨rc1, rf1, rz1, ry1, -, rc0, rf0, rz0, ry0, -, -⟩ := hr; go_simp; (try go_bits); first | done | (with_reducible exact rfl)); (intro a' ha'; simp only [Act.put, List.setIfInBounds_toArray, List.set_cons_zero, List.set_cons_succ] at ha'; subst ha'))
  refine Reg.rs_op ?_ rfl ?_; simp; apply Exists.intro; apply And.intro
  · intro w' hr; clear hr; go_simp; (try go_bits); exact HL.out _
  intro a' ha'; simp only [Act.put, List.setIfInBounds_toArray, List.set_cons_zero, List.set_cons_succ] at ha'; subst ha'
  repeat (refine Reg.rs_op ?_ rfl ?_; simp; apply Exists.intro; apply And.intro; (intro w' hr; obtain ⟨rc1, rf1, rz1, ry1, -, rc0, rf0, rz0, ry0, -, -⟩ := hr; go_simp; (try go_bits); first | done | (with_reducible exact rfl)); (intro a' ha'; simp only [Act.put, List.setIfInBounds_toArray, List.set_cons_zero, List.set_cons_succ] at ha'; subst ha'))
  refine Reg.rs_store rfl 0 (.int .i64 2) rfl (by simp) (by simp) (by simp) (by simp) (fun w' u hcu hfu hr => ?_) ?_
  · clear hr; go_simp
  repeat (refine Reg.rs_op ?_ rfl ?_; simp; apply Exists.intro; apply And.intro; (intro w' hr; obtain ⟨rc1, rf1, rz1, ry1, -, rc0, rf0, rz0, ry0, -, -⟩ := hr; go_simp; (try go_bits); first | done | (with_reducible exact rfl)); (intro a' ha'; simp only [Act.put, List.setIfInBounds_toArray, List.set_cons_zero, List.set_cons_succ] at ha'; subst ha'))
  refine Reg.rs_store rfl 2 (.int .u64 mt) rfl (by simp) (by simp) (by simp) (by simp) (fun w' u hcu hfu hr => ?_) ?_
  · clear hr; go_simp
  repeat (refine Reg.rs_op ?_ rfl ?_; simp; apply Exists.intro; apply And.intro; (intro w' hr; obtain ⟨rc1, rf1, rz1, ry1, -, rc0, rf0, rz0, ry0, -, -⟩ := hr; go_simp; (try go_bits); first | done | (with_reducible exact rfl)); (intro a' ha'; simp only [Act.put, List.setIfInBounds_toArray, List.set_cons_zero, List.set_cons_succ] at ha'; subst ha'))
  refine Reg.rs_store rfl 3 (.int .i64 ((ex : Int) - 1 + lst f e)) rfl (by simp) (by simp) (by simp) (by simp) (fun w' u hcu hfu hr => ?_) ?_
  · clear hr; go_simp
  refine Reg.rs_end #[.int .i64 2, .bool neg, .int .u64 mt, .int .i64 ((ex : Int) - 1 + lst f e), .bool false, .int .u64 0] (by simp [Reg.agree]) (by simp) (fun wn O => ?_)
  have O := O
  clear HO c2 f2 z2 y2 n21 n20 c1 f1 z1 y1 n10 c0 f0 z0 y0 zz
  obtain ⟨c2, f2, z2, y2, ⟨n21, n20, -⟩, c1, f1, z1, y1, ⟨n10, -⟩, c0, f0, z0, y0, -, zz⟩ := O.rules
  have HO := Lib.hid O; clear O
  go_wp2_with fail
  refine bodyPost_ret (v := FP.val ⟨2, neg, mt, ex - 1 + lst f e, false, 0⟩) (by simp [results, Try.results80, go_sem, FP.val, c1]) rfl ⟨rfl, ?_⟩
  repeat (first | (with_reducible exact HO.out.below) | (with_reducible refine Below.setCell ?_ (by first | (with_reducible assumption) | omega) _) | (with_reducible refine Below.drew ?_) | (with_reducible refine Below.alloc ?_ (by simp; try omega) _))

theorem partsD (f e b P T G fr ex sg : Nat) (neg : Bool) (w : World) (_he : e ≤ 11) (_hf : f ≤ 52) (_hf1 : 1 ≤ f)
    (ht : ∀ w, Calls Try.prog 101 #[.agg #[.int .i64 f, .int .i64 e]] w fun en w' => en = .returned (.int .i64 T) ∧ Below w.heap.size w w')
    (hs : ∀ w, Calls Try.prog 103 #[.agg #[.int .i64 f, .int .i64 e]] w fun en w' => en = .returned (.int .u64 G) ∧ Below w.heap.size w w')
    (hl : ∀ w, Calls Try.prog 102 #[.agg #[.int .i64 f, .int .i64 e]] w fun en w' => en = .returned (.int .i64 (lst f e)) ∧ Below w.heap.size w w')
    (_hl1 : -2000 ≤ lst f e) (_hl2 : lst f e ≤ 0)
    (a0 : (2 : Int) ^ f = P) (_a1 : 1 ≤ P) (_a2 : P ≤ 2 ^ 52) (_a3 : T ≤ 2047) (_a4 : ex ≤ T) (_a4' : fr < P)
    (a5 : bits .and .u64 (b : Int) ((P : Int) - 1) = fr) (a6 : bits .and .u64 ((b : Int) / (P : Int)) (T : Int) = ex) (a7 : bits .and .u64 (b : Int) (G : Int) = sg)
    (a8 : ((sg : Int) != 0) = neg) (t1 : ((ex : Int) == (T : Int)) = false) (_t2 : ex ≤ 0) (_t3 : 0 < fr) :
    Calls Try.prog 80 #[.agg #[.int .i64 f, .int .i64 e], .int .u64 b] w fun en w' =>
      en = .returned (FP.val ⟨1, neg, fr, lst f e, false, 0⟩) ∧ Below w.heap.size w w' := by
  have HT := Lib.hid ht; clear ht
  have HS := Lib.hid hs; clear hs
  have HL := Lib.hid hl; clear hl
  go_enter Try.func80, Try.ntmps80
  go_wp2_with fail
  refine Reg.wp_region_rd (by kernel_rfl) (by kernel_rfl) (fun _ => ?_)
  repeat (refine Reg.rd_op rfl ?_; apply Exists.intro; apply And.intro; (intro w' hb; have hc := Reg.rd_cells hb; clear hb; go_simp; (try go_bits); first | done | (with_reducible exact rfl)); (intro _ a' ha'; simp only [Act.put, List.setIfInBounds_toArray, List.set_cons_zero, List.set_cons_succ] at ha'; subst ha'))
  refine Reg.rd_op rfl ?_; apply Exists.intro; apply And.intro
  · intro w' hb; have hsz := Reg.rd_size hb; clear hb; go_simp; (try go_bits); exact HT.out _
  intro _ a' ha'; simp only [Act.put, List.setIfInBounds_toArray, List.set_cons_zero, List.set_cons_succ] at ha'; subst ha'
  repeat (refine Reg.rd_op rfl ?_; apply Exists.intro; apply And.intro; (intro w' hb; have hc := Reg.rd_cells hb; clear hb; go_simp; (try go_bits); first | done | (with_reducible exact rfl)); (intro _ a' ha'; simp only [Act.put, List.setIfInBounds_toArray, List.set_cons_zero, List.set_cons_succ] at ha'; subst ha'))
  refine Reg.rd_end (fun wz hb => ?_)
  have O := (((Reg.Own.nil w).alloc rfl _ _).alloc (k := w.heap.size + 1) (by simp) _ _).keep hb
  obtain ⟨c1, f1, z1, y1, ⟨n10, -⟩, c0, f0, z0, y0, -, zz⟩ := O.rules
  have HO := Lib.hid O; clear O
  clear hb
  go_wp2_with fail
  refine (HS.out _).mono ?_
  rintro en w2 ⟨rfl, hb⟩
  have O := HO.out.keep hb
  clear HO c1 f1 z1 y1 n10 c0 f0 z0 y0 zz
  obtain ⟨c1, f1, z1, y1, ⟨n10, -⟩, c0, f0, z0, y0, -, zz⟩ := O.rules
  have HO := Lib.hid O; clear O
  clear hb
  go_wp2_with fail
  refine (HT.out _).mono ?_
  rintro en w3 ⟨rfl, hb⟩
  have O := (HO.out.alloc rfl _ _).keep hb
  clear HO c1 f1 z1 y1 n10 c0 f0 z0 y0 zz
  obtain ⟨c2, f2, z2, y2, ⟨n21, n20, -⟩, c1, f1, z1, y1, ⟨n10, -⟩, c0, f0, z0, y0, -, zz⟩ := O.rules
  have HO := Lib.hid O; clear O
  clear hb
  go_wp2_with fail
  refine (HT.out _).mono ?_
  rintro en w4 ⟨rfl, hb⟩
  have O := HO.out.keep hb
  clear HO c2 f2 z2 y2 n21 n20 c1 f1 z1 y1 n10 c0 f0 z0 y0 zz
  obtain ⟨c2, f2, z2, y2, ⟨n21, n20, -⟩, c1, f1, z1, y1, ⟨n10, -⟩, c0, f0, z0, y0, -, zz⟩ := O.rules
  have HO := Lib.hid O; clear O
  clear hb
  go_wp2_with fail
  refine (HL.out _).mono ?_
  rintro en w5 ⟨rfl, hb⟩
  have O := HO.out.keep hb
  clear HO c2 f2 z2 y2 n21 n20 c1 f1 z1 y1 n10 c0 f0 z0 y0 zz
  obtain ⟨c2, f2, z2, y2, ⟨n21, n20, -⟩, c1, f1, z1, y1, ⟨n10, -⟩, c0, f0, z0, y0, -, zz⟩ := O.rules
  have HO := Lib.hid O; clear O
  clear hb
  go_wp2_with fail
  refine bodyPost_ret (v := FP.val ⟨1, neg, fr, lst f e, false, 0⟩) (by simp [results, Try.results80, go_sem, FP.val, c1]) rfl ⟨rfl, ?_⟩
  repeat (first | (with_reducible exact HO.out.below) | (with_reducible refine Below.setCell ?_ (by first | (with_reducible assumption) | omega) _) | (with_reducible refine Below.drew ?_) | (with_reducible refine Below.alloc ?_ (by simp; try omega) _))

theorem partsE (f e b P T G fr ex sg : Nat) (neg : Bool) (w : World) (_he : e ≤ 11) (_hf : f ≤ 52) (_hf1 : 1 ≤ f)
    (ht : ∀ w, Calls Try.prog 101 #[.agg #[.int .i64 f, .int .i64 e]] w fun en w' => en = .returned (.int .i64 T) ∧ Below w.heap.size w w')
    (hs : ∀ w, Calls Try.prog 103 #[.agg #[.int .i64 f, .int .i64 e]] w fun en w' => en = .returned (.int .u64 G) ∧ Below w.heap.size w w')
    (hl : ∀ w, Calls Try.prog 102 #[.agg #[.int .i64 f, .int .i64 e]] w fun en w' => en = .returned (.int .i64 (lst f e)) ∧ Below w.heap.size w w')
    (_hl1 : -2000 ≤ lst f e) (_hl2 : lst f e ≤ 0)
    (a0 : (2 : Int) ^ f = P) (_a1 : 1 ≤ P) (_a2 : P ≤ 2 ^ 52) (_a3 : T ≤ 2047) (_a4 : ex ≤ T) (_a4' : fr < P)
    (a5 : bits .and .u64 (b : Int) ((P : Int) - 1) = fr) (a6 : bits .and .u64 ((b : Int) / (P : Int)) (T : Int) = ex) (a7 : bits .and .u64 (b : Int) (G : Int) = sg)
    (a8 : ((sg : Int) != 0) = neg) (t1 : ((ex : Int) == (T : Int)) = false) (_t2 : ex ≤ 0) (_t3 : fr ≤ 0) :
    Calls Try.prog 80 #[.agg #[.int .i64 f, .int .i64 e], .int .u64 b] w fun en w' =>
      en = .returned (FP.val ⟨0, neg, 0, 0, false, 0⟩) ∧ Below w.heap.size w w' := by
  have HT := Lib.hid ht; clear ht
  have HS := Lib.hid hs; clear hs
  have HL := Lib.hid hl; clear hl
  go_enter Try.func80, Try.ntmps80
  go_wp2_with fail
  refine Reg.wp_region_rd (by kernel_rfl) (by kernel_rfl) (fun _ => ?_)
  repeat (refine Reg.rd_op rfl ?_; apply Exists.intro; apply And.intro; (intro w' hb; have hc := Reg.rd_cells hb; clear hb; go_simp; (try go_bits); first | done | (with_reducible exact rfl)); (intro _ a' ha'; simp only [Act.put, List.setIfInBounds_toArray, List.set_cons_zero, List.set_cons_succ] at ha'; subst ha'))
  refine Reg.rd_op rfl ?_; apply Exists.intro; apply And.intro
  · intro w' hb; have hsz := Reg.rd_size hb; clear hb; go_simp; (try go_bits); exact HT.out _
  intro _ a' ha'; simp only [Act.put, List.setIfInBounds_toArray, List.set_cons_zero, List.set_cons_succ] at ha'; subst ha'
  repeat (refine Reg.rd_op rfl ?_; apply Exists.intro; apply And.intro; (intro w' hb; have hc := Reg.rd_cells hb; clear hb; go_simp; (try go_bits); first | done | (with_reducible exact rfl)); (intro _ a' ha'; simp only [Act.put, List.setIfInBounds_toArray, List.set_cons_zero, List.set_cons_succ] at ha'; subst ha'))
  refine Reg.rd_end (fun wz hb => ?_)
  have O := (((Reg.Own.nil w).alloc rfl _ _).alloc (k := w.heap.size + 1) (by simp) _ _).keep hb
  obtain ⟨c1, f1, z1, y1, ⟨n10, -⟩, c0, f0, z0, y0, -, zz⟩ := O.rules
  have HO := Lib.hid O; clear O
  clear hb
  go_wp2_with fail
  refine (HS.out _).mono ?_
  rintro en w2 ⟨rfl, hb⟩
  have O := HO.out.keep hb
  clear HO c1 f1 z1 y1 n10 c0 f0 z0 y0 zz
  obtain ⟨c1, f1, z1, y1, ⟨n10, -⟩, c0, f0, z0, y0, -, zz⟩ := O.rules
  have HO := Lib.hid O; clear O
  clear hb
  go_wp2_with fail
  refine (HT.out _).mono ?_
  rintro en w3 ⟨rfl, hb⟩
  have O := (HO.out.alloc rfl _ _).keep hb
  clear HO c1 f1 z1 y1 n10 c0 f0 z0 y0 zz
  obtain ⟨c2, f2, z2, y2, ⟨n21, n20, -⟩, c1, f1, z1, y1, ⟨n10, -⟩, c0, f0, z0, y0, -, zz⟩ := O.rules
  have HO := Lib.hid O; clear O
  clear hb
  go_wp2_with fail
  refine (HT.out _).mono ?_
  rintro en w4 ⟨rfl, hb⟩
  have O := HO.out.keep hb
  clear HO c2 f2 z2 y2 n21 n20 c1 f1 z1 y1 n10 c0 f0 z0 y0 zz
  obtain ⟨c2, f2, z2, y2, ⟨n21, n20, -⟩, c1, f1, z1, y1, ⟨n10, -⟩, c0, f0, z0, y0, -, zz⟩ := O.rules
  have HO := Lib.hid O; clear O
  clear hb
  go_wp2_with fail
  refine bodyPost_ret (v := FP.val ⟨0, neg, 0, 0, false, 0⟩) (by simp [results, Try.results80, go_sem, FP.val, c1]) rfl ⟨rfl, ?_⟩
  repeat (first | (with_reducible exact HO.out.below) | (with_reducible refine Below.setCell ?_ (by first | (with_reducible assumption) | omega) _) | (with_reducible refine Below.drew ?_) | (with_reducible refine Below.alloc ?_ (by simp; try omega) _))

theorem parts_any (f e b : Nat) (w : World) (hf1 : 1 ≤ f) (hf : f ≤ 52) (he1 : 1 ≤ e) (he : e ≤ 11) (hb : b < 2 ^ 64) :
    Calls Try.prog 80 #[.agg #[.int .i64 f, .int .i64 e], .int .u64 b] w fun en w' => en = .returned (partsN f e b).val ∧ Below w.heap.size w w' := by
  have ht := fun w => top_any f e w he
  have hs := fun w => sign_any f e w hf he
  have hl := fun w => least_any f e w hf he
  have hl1 := lst_bd hf he
  have hl2 : lst f e ≤ 0 := by unfold lst; omega
  have a0 : (2 : Int) ^ f = ((2 ^ f : Nat) : Int) := by simp
  have a1 : 1 ≤ 2 ^ f := Nat.one_le_two_pow
  have a2 : 2 ^ f ≤ 2 ^ 52 := Nat.pow_le_pow_right (by omega) hf
  have a3' : 2 ^ e ≤ 2 ^ 11 := Nat.pow_le_pow_right (by omega) he
  have a3'' : 1 ≤ 2 ^ e := Nat.one_le_two_pow
  have a3 : 2 ^ e - 1 ≤ 2047 := by omega
  have hex : b / 2 ^ f % 2 ^ e < 2 ^ e := Nat.mod_lt _ (by omega)
  have hfr : b % 2 ^ f < 2 ^ f := Nat.mod_lt _ (by omega)
  have a4 : b / 2 ^ f % 2 ^ e ≤ 2 ^ e - 1 := by omega
  have a5 : bits .and .u64 (b : Int) (((2 ^ f : Nat) : Int) - 1) = ((b % 2 ^ f : Nat) : Int) := by
    rw [← and_mask hb (by omega)]; congr 1; omega
  have hbf : b / 2 ^ f < 2 ^ 64 := Nat.lt_of_le_of_lt (Nat.div_le_self _ _) hb
  have a6 : bits .and .u64 ((b : Int) / ((2 ^ f : Nat) : Int)) ((2 ^ e - 1 : Nat) : Int) = ((b / 2 ^ f % 2 ^ e : Nat) : Int) := by
    rw [← and_mask hbf (by omega)]; rfl
  have a7 := and_pow (x := b) (n := f + e) hb (by omega)
  have a8 := bitAt b (f + e)
  unfold partsN
  by_cases h1 : b / 2 ^ f % 2 ^ e = 2 ^ e - 1
  · rw [if_pos h1]
    by_cases h2 : b % 2 ^ f = 0
    · rw [if_pos h2]
      exact partsA f e b _ _ _ _ _ _ _ w he hf hf1 ht hs hl hl1.1 hl2 a0 a1 a2 a3 a4 hfr a5 a6 a7 a8 (by rw [h1]; simp) (by rw [h2]; simp)
    · rw [if_neg h2]
      have hf2 : f - 1 + 1 = f := by omega
      have hp : 2 ^ f = 2 * 2 ^ (f - 1) := by rw [← hf2, Nat.pow_succ]; simp; omega
      have q1 : b % 2 ^ f / 2 ^ (f - 1) < 2 := Nat.div_lt_of_lt_mul (by rw [Nat.mul_comm, ← hp]; exact hfr)
      have q2 : (b % 2 ^ f / 2 ^ (f - 1) == 1) = (b % 2 ^ f / 2 ^ (f - 1) % 2 == 1) := by rw [Nat.mod_eq_of_lt q1]
      rw [q2, ← bitAt (b % 2 ^ f) (f - 1)]
      exact partsB f e b _ _ _ _ _ _ _ _ _ _ _ w he hf hf1 ht hs hl hl1.1 hl2 a0 a1 a2 a3 a4 hfr a5 a6 a7 a8 (by rw [h1]; simp) (by simp only [beq_eq_false_iff_ne, ne_eq]; omega)
        (by simp) (Nat.pow_le_pow_right (by omega) (by omega)) (and_pow (Nat.lt_of_le_of_lt (Nat.mod_le _ _) hb) (by omega)) rfl (andNot_pow (by rw [hf2]; exact hfr) (by omega))
  · rw [if_neg h1]
    have t1 : (((b / 2 ^ f % 2 ^ e : Nat) : Int) == ((2 ^ e - 1 : Nat) : Int)) = false := by simp only [beq_eq_false_iff_ne, ne_eq]; omega
    by_cases h2 : 0 < b / 2 ^ f % 2 ^ e
    · rw [if_pos h2]
      exact partsC f e b _ _ _ _ _ _ _ _ w he hf hf1 ht hs hl hl1.1 hl2 a0 a1 a2 a3 a4 hfr a5 a6 a7 a8 t1 h2 (or_disj hfr (by omega))
    · rw [if_neg h2]
      by_cases h3 : 0 < b % 2 ^ f
      · rw [if_pos h3]
        exact partsD f e b _ _ _ _ _ _ _ w he hf hf1 ht hs hl hl1.1 hl2 a0 a1 a2 a3 a4 hfr a5 a6 a7 a8 t1 (by omega) h3
      · rw [if_neg h3]
        exact partsE f e b _ _ _ _ _ _ _ w he hf hf1 ht hs hl hl1.1 hl2 a0 a1 a2 a3 a4 hfr a5 a6 a7 a8 t1 (by omega) (by omega)

end Go.Proofs.Ytpemchghaddgdaa

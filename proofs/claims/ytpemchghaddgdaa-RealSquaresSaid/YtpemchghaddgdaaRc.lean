/- A float out of its parts: what the program's text gives. Condition: sizes of at most 52 and 11 bits. -/
import Derived.Test.YtpemchghaddgdaaRb
import Derived.Laws.StructEq
namespace Go.Proofs.Ytpemchghaddgdaa
open Go.RowKit Go.Pst
set_option maxRecDepth 20000
set_option linter.unusedSimpArgs false
set_option linter.unusedVariables false

section
variable {P : Program} {w : World} {d : Nat} {xs ys : Array Value} {f : Field} {fs : List Field} {a b : Value} {r s : Bool}
theorem eqf_cons (hn : (f.name == "_") = false) (ha : (part f.type xs f.offset).run P w = .ok a w) (hb : (part f.type ys f.offset).run P w = .ok b w)
    (he : (Op.equalIn d f.type a b).run P w = .ok r w) (hr : (Op.eqFields d xs ys fs).run P w = .ok s w) : (Op.eqFields d xs ys (f :: fs)).run P w = .ok (r && s) w := by
  have hn' : f.name ≠ "_" := by simpa using hn
  rw [Op.eqFields]
  simp only [if_pos hn', Sem.run_bind, ha, hb, he, Result.andThen_ok]
  cases r
  · simp
  · simpa using hr
theorem eqf_nil : (Op.eqFields d xs ys []).run P w = .ok true w := by simp [Op.eqFields]
theorem eqA_of {t : TypeId} {fs : Array Field} (hu : P.underlying t = some (.struct fs)) (hp : P.stoodInHeld t = false) (h : (Op.eqFields d xs ys fs.toList).run P w = .ok r w) :
    (Op.equalIn (d + 1) t (.agg xs) (.agg ys)).run P w = .ok r w := by
  have hf : P.fieldsOf t = fs := by simp [Program.fieldsOf, hu]
  rw [run_equalIn_struct (P := P) w d t xs ys (by rw [hf]; exact hu) hp, hf]
  exact h
end

theorem eqA24 (d : Nat) (w : World) (x0 y0 : Int) (x1 y1 : Bool) (x2 y2 x3 y3 : Int) (x4 y4 : Bool) (x5 y5 : Int) :
    (Op.equalIn (d + 2) 24 (.agg #[.int .i64 x0, .bool x1, .int .u64 x2, .int .i64 x3, .bool x4, .int .u64 x5]) (.agg #[.int .i64 y0, .bool y1, .int .u64 y2, .int .i64 y3, .bool y4, .int .u64 y5])).run Try.prog w =
      .ok (x0 == y0 && (x1 == y1 && (x2 == y2 && (x3 == y3 && (x4 == y4 && (x5 == y5 && true)))))) w := by
  refine eqA_of Try.underlying24 (by kernel_rfl) ?_
  refine eqf_cons (by rfl) (by go_simp; rfl) (by go_simp; rfl) (by go_simp) ?_
  refine eqf_cons (by rfl) (by go_simp; rfl) (by go_simp; rfl) (by go_simp) ?_
  refine eqf_cons (by rfl) (by go_simp; rfl) (by go_simp; rfl) (by go_simp) ?_
  refine eqf_cons (by rfl) (by go_simp; rfl) (by go_simp; rfl) (by go_simp) ?_
  refine eqf_cons (by rfl) (by go_simp; rfl) (by go_simp; rfl) (by go_simp) ?_
  refine eqf_cons (by rfl) (by go_simp; rfl) (by go_simp; rfl) (by go_simp) ?_
  exact eqf_nil
theorem eqA32 (d : Nat) (w : World) (x0 y0 : Int) (x1 y1 : Bool) (x2 y2 x3 y3 : Int) (x4 y4 : Bool) (x5 y5 : Int) :
    (Op.equalIn (d + 2) 32 (.agg #[.int .i64 x0, .bool x1, .int .u64 x2, .int .i64 x3, .bool x4, .int .u64 x5]) (.agg #[.int .i64 y0, .bool y1, .int .u64 y2, .int .i64 y3, .bool y4, .int .u64 y5])).run Try.prog w =
      .ok (x0 == y0 && (x1 == y1 && (x2 == y2 && (x3 == y3 && (x4 == y4 && (x5 == y5 && true)))))) w := by
  refine eqA_of Try.underlying32 (by kernel_rfl) ?_
  refine eqf_cons (by rfl) (by go_simp; rfl) (by go_simp; rfl) (by go_simp) ?_
  refine eqf_cons (by rfl) (by go_simp; rfl) (by go_simp; rfl) (by go_simp) ?_
  refine eqf_cons (by rfl) (by go_simp; rfl) (by go_simp; rfl) (by go_simp) ?_
  refine eqf_cons (by rfl) (by go_simp; rfl) (by go_simp; rfl) (by go_simp) ?_
  refine eqf_cons (by rfl) (by go_simp; rfl) (by go_simp; rfl) (by go_simp) ?_
  refine eqf_cons (by rfl) (by go_simp; rfl) (by go_simp; rfl) (by go_simp) ?_
  exact eqf_nil

theorem eqA_fp (p q : FP) : (p.kind == q.kind && (p.neg == q.neg && (p.mant == q.mant && (p.exp == q.exp && (p.quiet == q.quiet && (p.load == q.load && true)))))) = decide (p = q) := by
  obtain ⟨a, b, c, d, e, f⟩ := p
  obtain ⟨a', b', c', d', e', f'⟩ := q
  rw [Bool.eq_iff_iff]; simp



theorem of3 (f e c u0 P T G : Nat) (x : FP) (w : World) (hf1 : 1 ≤ f) (hf : f ≤ 52) (he1 : 1 ≤ e) (he : e ≤ 11) (hc : c < 2 ^ 64)
    (a0 : (2 : Int) ^ f = P) (_a1 : 1 ≤ P) (_a2 : P ≤ 2 ^ 52) (hT : 2 ^ e - 1 = T) (_a3 : T ≤ 2047) (hG : 2 ^ (f + e) = G) (_a4 : 1 ≤ G) (_a5 : G ≤ 2 ^ 63)
    (k1 : (x.kind == 3) = true) (a6 : IntKind.u64.wrap ((T : Int) * P) = u0)
    (hn : (if x.neg then bits .or .u64 (u0 : Int) (G : Int) else (u0 : Int)) = c) :
    Calls Try.prog 77 #[.agg #[.int .i64 f, .int .i64 e], x.val] w fun en w' => en = .returned (.tuple #[.int .u64 c, .bool (decide (partsN f e c = x))]) ∧ Below w.heap.size w w' := by
  obtain ⟨p, hp⟩ : ∃ p, p = partsN f e c := ⟨_, rfl⟩
  rw [← hp, ← eqA_fp]
  have hpc := fun w => parts_any f e c w hf1 hf he1 he hc
  rw [← hp] at hpc
  obtain ⟨pk, pn, pm, px, pq, pl⟩ := p
  obtain ⟨xk, xn, xm, xx, xq, xl⟩ := x
  simp only [FP.val] at hpc ⊢
  simp only at k1 a6 hn
  have HPC := Lib.hid hpc; clear hpc hp
  have ht := fun w => top_any f e w he
  have hs := fun w => sign_any f e w hf he
  have hl := fun w => least_any f e w hf he
  have hl1 := (lst_bd hf he).1
  have hl2 : lst f e ≤ 0 := by unfold lst; omega
  rw [hT] at ht
  rw [hG] at hs
  have HT := Lib.hid ht; clear ht
  have HS := Lib.hid hs; clear hs
  have HL := Lib.hid hl; clear hl
  clear hT hG
  have e24 := eqA24
  have hc' := Lib.hid hc; clear hc
  cases xn
  · simp only [Bool.false_eq_true, if_false] at hn
    obtain rfl : u0 = c := by omega
    go_enter Try.func77, Try.ntmps77
    go_wp2_with fail
    refine Reg.wp_region_rd (by kernel_rfl) (by kernel_rfl) (fun _ => ?_)
    repeat (refine Reg.rd_op rfl ?_; apply Exists.intro; apply And.intro; (intro w' hb; have hc := Reg.rd_cells hb; clear hb; go_simp; (try go_bits); first | done | (with_reducible exact rfl)); (intro _ a' ha'; simp only [Act.put, List.setIfInBounds_toArray, List.set_cons_zero, List.set_cons_succ] at ha'; subst ha'))
    refine Reg.rd_op rfl ?_; apply Exists.intro; apply And.intro
    · intro w' hb; have hsz := Reg.rd_size hb; clear hb; go_simp; (try go_bits); exact HT.out _
    intro _ a' ha'; simp only [Act.put, List.setIfInBounds_toArray, List.set_cons_zero, List.set_cons_succ] at ha'; subst ha'
    repeat (refine Reg.rd_op rfl ?_; apply Exists.intro; apply And.intro; (intro w' hb; have hc := Reg.rd_cells hb; clear hb; go_simp; (try go_bits); first | done | (with_reducible exact rfl)); (intro _ a' ha'; simp only [Act.put, List.setIfInBounds_toArray, List.set_cons_zero, List.set_cons_succ] at ha'; subst ha'))
    refine Reg.rd_end (fun wz hb => ?_)
    have O := (((Reg.Own.nil w).alloc rfl _ _).alloc (k := w.heap.size + 1) (by simp) _ _).keep hb
    obtain ⟨c1, f1, z1, y1, ⟨n10, -⟩, c0, f0, z0, y0, -, zz⟩ := O.rules
    have HO := Lib.hid O; clear O
    clear hb
    go_wp2_with fail
    refine Reg.wp_region_rd (by kernel_rfl) (by kernel_rfl) (fun _ => ?_)
    repeat (refine Reg.rd_op rfl ?_; apply Exists.intro; apply And.intro; (intro w' hb; have hc := Reg.rd_cells hb; clear hb; go_simp; (try go_bits); first | done | (with_reducible exact rfl)); (intro _ a' ha'; simp only [Act.put, List.setIfInBounds_toArray, List.set_cons_zero, List.set_cons_succ] at ha'; subst ha'))
    refine Reg.rd_op rfl ?_; apply Exists.intro; apply And.intro
    · intro w' hb; have hsz := Reg.rd_size hb; clear hb; go_simp; (try go_bits); exact HPC.out _
    intro _ a' ha'; simp only [Act.put, List.setIfInBounds_toArray, List.set_cons_zero, List.set_cons_succ] at ha'; subst ha'
    repeat (refine Reg.rd_op rfl ?_; apply Exists.intro; apply And.intro; (intro w' hb; have hc := Reg.rd_cells hb; clear hb; go_simp; (try go_bits); first | done | (with_reducible exact rfl)); (intro _ a' ha'; simp only [Act.put, List.setIfInBounds_toArray, List.set_cons_zero, List.set_cons_succ] at ha'; subst ha'))
    refine Reg.rd_end (fun wz hb => ?_)
    go_wp2
    go_ret2
    refine ⟨by simp, ?_⟩
    exact (HO.out.keep hb).below
  · simp only [if_true] at hn
    go_enter Try.func77, Try.ntmps77
    go_wp2_with fail
    refine Reg.wp_region_rd (by kernel_rfl) (by kernel_rfl) (fun _ => ?_)
    repeat (refine Reg.rd_op rfl ?_; apply Exists.intro; apply And.intro; (intro w' hb; have hc := Reg.rd_cells hb; clear hb; go_simp; (try go_bits); first | done | (with_reducible exact rfl)); (intro _ a' ha'; simp only [Act.put, List.setIfInBounds_toArray, List.set_cons_zero, List.set_cons_succ] at ha'; subst ha'))
    refine Reg.rd_op rfl ?_; apply Exists.intro; apply And.intro
    · intro w' hb; have hsz := Reg.rd_size hb; clear hb; go_simp; (try go_bits); exact HT.out _
    intro _ a' ha'; simp only [Act.put, List.setIfInBounds_toArray, List.set_cons_zero, List.set_cons_succ] at ha'; subst ha'
    repeat (refine Reg.rd_op rfl ?_; apply Exists.intro; apply And.intro; (intro w' hb; have hc := Reg.rd_cells hb; clear hb; go_simp; (try go_bits); first | done | (with_reducible exact rfl)); (intro _ a' ha'; simp only [Act.put, List.setIfInBounds_toArray, List.set_cons_zero, List.set_cons_succ] at ha'; subst ha'))
    refine Reg.rd_end (fun wz hb => ?_)
    have O := (((Reg.Own.nil w).alloc rfl _ _).alloc (k := w.heap.size + 1) (by simp) _ _).keep hb
    obtain ⟨c1, f1, z1, y1, ⟨n10, -⟩, c0, f0, z0, y0, -, zz⟩ := O.rules
    have HO := Lib.hid O; clear O
    clear hb
    go_wp2_with fail
    refine (HS.out _).mono ?_
    rintro en w3 ⟨rfl, hb3⟩
    have O := HO.out.keep hb3
    clear HO c1 f1 z1 y1 n10 c0 f0 z0 y0 zz
    obtain ⟨c1, f1, z1, y1, ⟨n10, -⟩, c0, f0, z0, y0, -, zz⟩ := O.rules
    have HO := Lib.hid O; clear O
    clear hb3
    go_wp2_with fail
    refine Reg.wp_region_rd (by kernel_rfl) (by kernel_rfl) (fun _ => ?_)
    repeat (refine Reg.rd_op rfl ?_; apply Exists.intro; apply And.intro; (intro w' hb; have hc := Reg.rd_cells hb; clear hb; go_simp; (try go_bits); first | done | (with_reducible exact rfl)); (intro _ a' ha'; simp only [Act.put, List.setIfInBounds_toArray, List.set_cons_zero, List.set_cons_succ] at ha'; subst ha'))
    refine Reg.rd_op rfl ?_; apply Exists.intro; apply And.intro
    · intro w' hb; have hsz := Reg.rd_size hb; clear hb; go_simp; (try go_bits); exact HPC.out _
    intro _ a' ha'; simp only [Act.put, List.setIfInBounds_toArray, List.set_cons_zero, List.set_cons_succ] at ha'; subst ha'
    repeat (refine Reg.rd_op rfl ?_; apply Exists.intro; apply And.intro; (intro w' hb; have hc := Reg.rd_cells hb; clear hb; go_simp; (try go_bits); first | done | (with_reducible exact rfl)); (intro _ a' ha'; simp only [Act.put, List.setIfInBounds_toArray, List.set_cons_zero, List.set_cons_succ] at ha'; subst ha'))
    refine Reg.rd_end (fun wz hb => ?_)
    go_wp2
    go_ret2
    refine ⟨by simp, ?_⟩
    exact (HO.out.keep hb).below

theorem of4 (f e c u0 P T G ld u1 H : Nat) (x : FP) (w : World) (hf1 : 1 ≤ f) (hf : f ≤ 52) (he1 : 1 ≤ e) (he : e ≤ 11) (hc : c < 2 ^ 64)
    (a0 : (2 : Int) ^ f = P) (_a1 : 1 ≤ P) (_a2 : P ≤ 2 ^ 52) (hT : 2 ^ e - 1 = T) (_a3 : T ≤ 2047) (hG : 2 ^ (f + e) = G) (_a4 : 1 ≤ G) (_a5 : G ≤ 2 ^ 63)
    (k1 : (x.kind == 3) = false) (k2 : (x.kind == 4) = true) (a6 : IntKind.u64.wrap ((T : Int) * P) = u1) (a7 : bits .and .u64 x.load ((P : Int) - 1) = ld) (a8 : bits .or .u64 (u1 : Int) (ld : Int) = u0) (a9 : x.quiet = false)
    (hn : (if x.neg then bits .or .u64 (u0 : Int) (G : Int) else (u0 : Int)) = c) :
    Calls Try.prog 77 #[.agg #[.int .i64 f, .int .i64 e], x.val] w fun en w' => en = .returned (.tuple #[.int .u64 c, .bool (decide (partsN f e c = x))]) ∧ Below w.heap.size w w' := by
  obtain ⟨p, hp⟩ : ∃ p, p = partsN f e c := ⟨_, rfl⟩
  rw [← hp, ← eqA_fp]
  have hpc := fun w => parts_any f e c w hf1 hf he1 he hc
  rw [← hp] at hpc
  obtain ⟨pk, pn, pm, px, pq, pl⟩ := p
  obtain ⟨xk, xn, xm, xx, xq, xl⟩ := x
  simp only [FP.val] at hpc ⊢
  simp only at k1 k2 a6 a7 a8 a9 hn
  have HPC := Lib.hid hpc; clear hpc hp
  have ht := fun w => top_any f e w he
  have hs := fun w => sign_any f e w hf he
  have hl := fun w => least_any f e w hf he
  have hl1 := (lst_bd hf he).1
  have hl2 : lst f e ≤ 0 := by unfold lst; omega
  rw [hT] at ht
  rw [hG] at hs
  have HT := Lib.hid ht; clear ht
  have HS := Lib.hid hs; clear hs
  have HL := Lib.hid hl; clear hl
  clear hT hG
  have e24 := eqA24
  have hc' := Lib.hid hc; clear hc
  cases xn
  · simp only [Bool.false_eq_true, if_false] at hn
    obtain rfl : u0 = c := by omega
    go_enter Try.func77, Try.ntmps77
    go_wp2_with fail
    refine Reg.wp_region_rd (by kernel_rfl) (by kernel_rfl) (fun _ => ?_)
    repeat (refine Reg.rd_op rfl ?_; apply Exists.intro; apply And.intro; (intro w' hb; have hc := Reg.rd_cells hb; clear hb; go_simp; (try go_bits); first | done | (with_reducible exact rfl)); (intro _ a' ha'; simp only [Act.put, List.setIfInBounds_toArray, List.set_cons_zero, List.set_cons_succ] at ha'; subst ha'))
    refine Reg.rd_op rfl ?_; apply Exists.intro; apply And.intro
    · intro w' hb; have hsz := Reg.rd_size hb; clear hb; go_simp; (try go_bits); exact HT.out _
    intro _ a' ha'; simp only [Act.put, List.setIfInBounds_toArray, List.set_cons_zero, List.set_cons_succ] at ha'; subst ha'
    repeat (refine Reg.rd_op rfl ?_; apply Exists.intro; apply And.intro; (intro w' hb; have hc := Reg.rd_cells hb; clear hb; go_simp; (try go_bits); first | done | (with_reducible exact rfl)); (intro _ a' ha'; simp only [Act.put, List.setIfInBounds_toArray, List.set_cons_zero, List.set_cons_succ] at ha'; subst ha'))
    refine Reg.rd_end (fun wz hb => ?_)
    have O := (((Reg.Own.nil w).alloc rfl _ _).alloc (k := w.heap.size + 1) (by simp) _ _).keep hb
    obtain ⟨c1, f1, z1, y1, ⟨n10, -⟩, c0, f0, z0, y0, -, zz⟩ := O.rules
    have HO := Lib.hid O; clear O
    clear hb
    go_wp2_with fail
    refine Reg.wp_region_rd (by kernel_rfl) (by kernel_rfl) (fun _ => ?_)
    repeat (refine Reg.rd_op rfl ?_; apply Exists.intro; apply And.intro; (intro w' hb; have hc := Reg.rd_cells hb; clear hb; go_simp; (try go_bits); first | done | (with_reducible exact rfl)); (intro _ a' ha'; simp only [Act.put, List.setIfInBounds_toArray, List.set_cons_zero, List.set_cons_succ] at ha'; subst ha'))
    refine Reg.rd_op rfl ?_; apply Exists.intro; apply And.intro
    · intro w' hb; have hsz := Reg.rd_size hb; clear hb; go_simp; (try go_bits); exact HPC.out _
    intro _ a' ha'; simp only [Act.put, List.setIfInBounds_toArray, List.set_cons_zero, List.set_cons_succ] at ha'; subst ha'
    repeat (refine Reg.rd_op rfl ?_; apply Exists.intro; apply And.intro; (intro w' hb; have hc := Reg.rd_cells hb; clear hb; go_simp; (try go_bits); first | done | (with_reducible exact rfl)); (intro _ a' ha'; simp only [Act.put, List.setIfInBounds_toArray, List.set_cons_zero, List.set_cons_succ] at ha'; subst ha'))
    refine Reg.rd_end (fun wz hb => ?_)
    go_wp2
    go_ret2
    refine ⟨by simp [a9], ?_⟩
    exact (HO.out.keep hb).below
  · simp only [if_true] at hn
    go_enter Try.func77, Try.ntmps77
    go_wp2_with fail
    refine Reg.wp_region_rd (by kernel_rfl) (by kernel_rfl) (fun _ => ?_)
    repeat (refine Reg.rd_op rfl ?_; apply Exists.intro; apply And.intro; (intro w' hb; have hc := Reg.rd_cells hb; clear hb; go_simp; (try go_bits); first | done | (with_reducible exact rfl)); (intro _ a' ha'; simp only [Act.put, List.setIfInBounds_toArray, List.set_cons_zero, List.set_cons_succ] at ha'; subst ha'))
    refine Reg.rd_op rfl ?_; apply Exists.intro; apply And.intro
    · intro w' hb; have hsz := Reg.rd_size hb; clear hb; go_simp; (try go_bits); exact HT.out _
    intro _ a' ha'; simp only [Act.put, List.setIfInBounds_toArray, List.set_cons_zero, List.set_cons_succ] at ha'; subst ha'
    repeat (refine Reg.rd_op rfl ?_; apply Exists.intro; apply And.intro; (intro w' hb; have hc := Reg.rd_cells hb; clear hb; go_simp; (try go_bits); first | done | (with_reducible exact rfl)); (intro _ a' ha'; simp only [Act.put, List.setIfInBounds_toArray, List.set_cons_zero, List.set_cons_succ] at ha'; subst ha'))
    refine Reg.rd_end (fun wz hb => ?_)
    have O := (((Reg.Own.nil w).alloc rfl _ _).alloc (k := w.heap.size + 1) (by simp) _ _).keep hb
    obtain ⟨c1, f1, z1, y1, ⟨n10, -⟩, c0, f0, z0, y0, -, zz⟩ := O.rules
    have HO := Lib.hid O; clear O
    clear hb
    go_wp2_with fail
    refine (HS.out _).mono ?_
    rintro en w3 ⟨rfl, hb3⟩
    have O := HO.out.keep hb3
    clear HO c1 f1 z1 y1 n10 c0 f0 z0 y0 zz
    obtain ⟨c1, f1, z1, y1, ⟨n10, -⟩, c0, f0, z0, y0, -, zz⟩ := O.rules
    have HO := Lib.hid O; clear O
    clear hb3
    go_wp2_with fail
    refine Reg.wp_region_rd (by kernel_rfl) (by kernel_rfl) (fun _ => ?_)
    repeat (refine Reg.rd_op rfl ?_; apply Exists.intro; apply And.intro; (intro w' hb; have hc := Reg.rd_cells hb; clear hb; go_simp; (try go_bits); first | done | (with_reducible exact rfl)); (intro _ a' ha'; simp only [Act.put, List.setIfInBounds_toArray, List.set_cons_zero, List.set_cons_succ] at ha'; subst ha'))
    refine Reg.rd_op rfl ?_; apply Exists.intro; apply And.intro
    · intro w' hb; have hsz := Reg.rd_size hb; clear hb; go_simp; (try go_bits); exact HPC.out _
    intro _ a' ha'; simp only [Act.put, List.setIfInBounds_toArray, List.set_cons_zero, List.set_cons_succ] at ha'; subst ha'
    repeat (refine Reg.rd_op rfl ?_; apply Exists.intro; apply And.intro; (intro w' hb; have hc := Reg.rd_cells hb; clear hb; go_simp; (try go_bits); first | done | (with_reducible exact rfl)); (intro _ a' ha'; simp only [Act.put, List.setIfInBounds_toArray, List.set_cons_zero, List.set_cons_succ] at ha'; subst ha'))
    refine Reg.rd_end (fun wz hb => ?_)
    go_wp2
    go_ret2
    refine ⟨by simp [a9], ?_⟩
    exact (HO.out.keep hb).below

theorem of4q (f e c u0 P T G ld u1 u2 H : Nat) (x : FP) (w : World) (hf1 : 1 ≤ f) (hf : f ≤ 52) (he1 : 1 ≤ e) (he : e ≤ 11) (hc : c < 2 ^ 64)
    (a0 : (2 : Int) ^ f = P) (_a1 : 1 ≤ P) (_a2 : P ≤ 2 ^ 52) (hT : 2 ^ e - 1 = T) (_a3 : T ≤ 2047) (hG : 2 ^ (f + e) = G) (_a4 : 1 ≤ G) (_a5 : G ≤ 2 ^ 63)
    (k1 : (x.kind == 3) = false) (k2 : (x.kind == 4) = true) (a6 : IntKind.u64.wrap ((T : Int) * P) = u1) (a7 : bits .and .u64 x.load ((P : Int) - 1) = ld) (a8 : bits .or .u64 (u1 : Int) (ld : Int) = u2) (a9 : x.quiet = true) (a10 : bits .or .u64 (u2 : Int) (H : Int) = u0) (a11 : (2 : Int) ^ (f - 1) = H) (a12 : H ≤ 2 ^ 52)
    (hn : (if x.neg then bits .or .u64 (u0 : Int) (G : Int) else (u0 : Int)) = c) :
    Calls Try.prog 77 #[.agg #[.int .i64 f, .int .i64 e], x.val] w fun en w' => en = .returned (.tuple #[.int .u64 c, .bool (decide (partsN f e c = x))]) ∧ Below w.heap.size w w' := by
  obtain ⟨p, hp⟩ : ∃ p, p = partsN f e c := ⟨_, rfl⟩
  rw [← hp, ← eqA_fp]
  have hpc := fun w => parts_any f e c w hf1 hf he1 he hc
  rw [← hp] at hpc
  obtain ⟨pk, pn, pm, px, pq, pl⟩ := p
  obtain ⟨xk, xn, xm, xx, xq, xl⟩ := x
  simp only [FP.val] at hpc ⊢
  simp only at k1 k2 a6 a7 a8 a9 a10 hn
  have HPC := Lib.hid hpc; clear hpc hp
  have ht := fun w => top_any f e w he
  have hs := fun w => sign_any f e w hf he
  have hl := fun w => least_any f e w hf he
  have hl1 := (lst_bd hf he).1
  have hl2 : lst f e ≤ 0 := by unfold lst; omega
  rw [hT] at ht
  rw [hG] at hs
  have HT := Lib.hid ht; clear ht
  have HS := Lib.hid hs; clear hs
  have HL := Lib.hid hl; clear hl
  clear hT hG
  have e24 := eqA24
  have hc' := Lib.hid hc; clear hc
  cases xn
  · simp only [Bool.false_eq_true, if_false] at hn
    obtain rfl : u0 = c := by omega
    go_enter Try.func77, Try.ntmps77
    go_wp2_with fail
    refine Reg.wp_region_rd (by kernel_rfl) (by kernel_rfl) (fun _ => ?_)
    repeat (refine Reg.rd_op rfl ?_; apply Exists.intro; apply And.intro; (intro w' hb; have hc := Reg.rd_cells hb; clear hb; go_simp; (try go_bits); first | done | (with_reducible exact rfl)); (intro _ a' ha'; simp only [Act.put, List.setIfInBounds_toArray, List.set_cons_zero, List.set_cons_succ] at ha'; subst ha'))
    refine Reg.rd_op rfl ?_; apply Exists.intro; apply And.intro
    · intro w' hb; have hsz := Reg.rd_size hb; clear hb; go_simp; (try go_bits); exact HT.out _
    intro _ a' ha'; simp only [Act.put, List.setIfInBounds_toArray, List.set_cons_zero, List.set_cons_succ] at ha'; subst ha'
    repeat (refine Reg.rd_op rfl ?_; apply Exists.intro; apply And.intro; (intro w' hb; have hc := Reg.rd_cells hb; clear hb; go_simp; (try go_bits); first | done | (with_reducible exact rfl)); (intro _ a' ha'; simp only [Act.put, List.setIfInBounds_toArray, List.set_cons_zero, List.set_cons_succ] at ha'; subst ha'))
    refine Reg.rd_end (fun wz hb => ?_)
    have O := (((Reg.Own.nil w).alloc rfl _ _).alloc (k := w.heap.size + 1) (by simp) _ _).keep hb
    obtain ⟨c1, f1, z1, y1, ⟨n10, -⟩, c0, f0, z0, y0, -, zz⟩ := O.rules
    have HO := Lib.hid O; clear O
    clear hb
    go_wp2_with fail
    refine Reg.wp_region_rd (by kernel_rfl) (by kernel_rfl) (fun _ => ?_)
    repeat (refine Reg.rd_op rfl ?_; apply Exists.intro; apply And.intro; (intro w' hb; have hc := Reg.rd_cells hb; clear hb; go_simp; (try go_bits); first | done | (with_reducible exact rfl)); (intro _ a' ha'; simp only [Act.put, List.setIfInBounds_toArray, List.set_cons_zero, List.set_cons_succ] at ha'; subst ha'))
    refine Reg.rd_op rfl ?_; apply Exists.intro; apply And.intro
    · intro w' hb; have hsz := Reg.rd_size hb; clear hb; go_simp; (try go_bits); exact HPC.out _
    intro _ a' ha'; simp only [Act.put, List.setIfInBounds_toArray, List.set_cons_zero, List.set_cons_succ] at ha'; subst ha'
    repeat (refine Reg.rd_op rfl ?_; apply Exists.intro; apply And.intro; (intro w' hb; have hc := Reg.rd_cells hb; clear hb; go_simp; (try go_bits); first | done | (with_reducible exact rfl)); (intro _ a' ha'; simp only [Act.put, List.setIfInBounds_toArray, List.set_cons_zero, List.set_cons_succ] at ha'; subst ha'))
    refine Reg.rd_end (fun wz hb => ?_)
    go_wp2
    go_ret2
    refine ⟨by simp [a9], ?_⟩
    exact (HO.out.keep hb).below
  · simp only [if_true] at hn
    go_enter Try.func77, Try.ntmps77
    go_wp2_with fail
    refine Reg.wp_region_rd (by kernel_rfl) (by kernel_rfl) (fun _ => ?_)
    repeat (refine Reg.rd_op rfl ?_; apply Exists.intro; apply And.intro; (intro w' hb; have hc := Reg.rd_cells hb; clear hb; go_simp; (try go_bits); first | done | (with_reducible exact rfl)); (intro _ a' ha'; simp only [Act.put, List.setIfInBounds_toArray, List.set_cons_zero, List.set_cons_succ] at ha'; subst ha'))
    refine Reg.rd_op rfl ?_; apply Exists.intro; apply And.intro
    · intro w' hb; have hsz := Reg.rd_size hb; clear hb; go_simp; (try go_bits); exact HT.out _
    intro _ a' ha'; simp only [Act.put, List.setIfInBounds_toArray, List.set_cons_zero, List.set_cons_succ] at ha'; subst ha'
    repeat (refine Reg.rd_op rfl ?_; apply Exists.intro; apply And.intro; (intro w' hb; have hc := Reg.rd_cells hb; clear hb; go_simp; (try go_bits); first | done | (with_reducible exact rfl)); (intro _ a' ha'; simp only [Act.put, List.setIfInBounds_toArray, List.set_cons_zero, List.set_cons_succ] at ha'; subst ha'))
    refine Reg.rd_end (fun wz hb => ?_)
    have O := (((Reg.Own.nil w).alloc rfl _ _).alloc (k := w.heap.size + 1) (by simp) _ _).keep hb
    obtain ⟨c1, f1, z1, y1, ⟨n10, -⟩, c0, f0, z0, y0, -, zz⟩ := O.rules
    have HO := Lib.hid O; clear O
    clear hb
    go_wp2_with fail
    refine (HS.out _).mono ?_
    rintro en w3 ⟨rfl, hb3⟩
    have O := HO.out.keep hb3
    clear HO c1 f1 z1 y1 n10 c0 f0 z0 y0 zz
    obtain ⟨c1, f1, z1, y1, ⟨n10, -⟩, c0, f0, z0, y0, -, zz⟩ := O.rules
    have HO := Lib.hid O; clear O
    clear hb3
    go_wp2_with fail
    refine Reg.wp_region_rd (by kernel_rfl) (by kernel_rfl) (fun _ => ?_)
    repeat (refine Reg.rd_op rfl ?_; apply Exists.intro; apply And.intro; (intro w' hb; have hc := Reg.rd_cells hb; clear hb; go_simp; (try go_bits); first | done | (with_reducible exact rfl)); (intro _ a' ha'; simp only [Act.put, List.setIfInBounds_toArray, List.set_cons_zero, List.set_cons_succ] at ha'; subst ha'))
    refine Reg.rd_op rfl ?_; apply Exists.intro; apply And.intro
    · intro w' hb; have hsz := Reg.rd_size hb; clear hb; go_simp; (try go_bits); exact HPC.out _
    intro _ a' ha'; simp only [Act.put, List.setIfInBounds_toArray, List.set_cons_zero, List.set_cons_succ] at ha'; subst ha'
    repeat (refine Reg.rd_op rfl ?_; apply Exists.intro; apply And.intro; (intro w' hb; have hc := Reg.rd_cells hb; clear hb; go_simp; (try go_bits); first | done | (with_reducible exact rfl)); (intro _ a' ha'; simp only [Act.put, List.setIfInBounds_toArray, List.set_cons_zero, List.set_cons_succ] at ha'; subst ha'))
    refine Reg.rd_end (fun wz hb => ?_)
    go_wp2
    go_ret2
    refine ⟨by simp [a9], ?_⟩
    exact (HO.out.keep hb).below

theorem of2 (f e c u0 P T G mt y s1 s2 : Nat) (x : FP) (w : World) (hf1 : 1 ≤ f) (hf : f ≤ 52) (he1 : 1 ≤ e) (he : e ≤ 11) (hc : c < 2 ^ 64)
    (a0 : (2 : Int) ^ f = P) (_a1 : 1 ≤ P) (_a2 : P ≤ 2 ^ 52) (hT : 2 ^ e - 1 = T) (_a3 : T ≤ 2047) (hG : 2 ^ (f + e) = G) (_a4 : 1 ≤ G) (_a5 : G ≤ 2 ^ 63)
    (k1 : (x.kind == 3) = false) (k2 : (x.kind == 4) = false) (k3 : (x.kind == 2) = true) (xr : Int) (a6 : wrap64 (wrap64 (x.exp + 1) - lst f e) = xr) (a7 : bits .and .u64 x.mant ((P : Int) - 1) = mt) (a8 : IntKind.u64.wrap xr = (y : Int)) (a9 : IntKind.u64.wrap ((y : Int) * P) = s1) (a10 : bits .or .u64 (s1 : Int) (mt : Int) = s2) (a11 : bits .and .u64 (s2 : Int) ((G : Int) - 1) = u0)
    (hn : (if x.neg then bits .or .u64 (u0 : Int) (G : Int) else (u0 : Int)) = c) :
    Calls Try.prog 77 #[.agg #[.int .i64 f, .int .i64 e], x.val] w fun en w' => en = .returned (.tuple #[.int .u64 c, .bool (decide (partsN f e c = x))]) ∧ Below w.heap.size w w' := by
  obtain ⟨p, hp⟩ : ∃ p, p = partsN f e c := ⟨_, rfl⟩
  rw [← hp, ← eqA_fp]
  have hpc := fun w => parts_any f e c w hf1 hf he1 he hc
  rw [← hp] at hpc
  obtain ⟨pk, pn, pm, px, pq, pl⟩ := p
  obtain ⟨xk, xn, xm, xx, xq, xl⟩ := x
  simp only [FP.val] at hpc ⊢
  simp only at k1 k2 k3 a6 a7 hn
  have HPC := Lib.hid hpc; clear hpc hp
  have ht := fun w => top_any f e w he
  have hs := fun w => sign_any f e w hf he
  have hl := fun w => least_any f e w hf he
  have hl1 := (lst_bd hf he).1
  have hl2 : lst f e ≤ 0 := by unfold lst; omega
  rw [hT] at ht
  rw [hG] at hs
  have HT := Lib.hid ht; clear ht
  have HS := Lib.hid hs; clear hs
  have HL := Lib.hid hl; clear hl
  clear hT hG
  have e24 := eqA24
  have hc' := Lib.hid hc; clear hc
  cases xn
  · simp only [Bool.false_eq_true, if_false] at hn
    obtain rfl : u0 = c := by omega
    go_enter Try.func77, Try.ntmps77
    go_wp2_with fail
    refine Reg.wp_region_rd (by kernel_rfl) (by kernel_rfl) (fun _ => ?_)
    repeat (refine Reg.rd_op rfl ?_; apply Exists.intro; apply And.intro; (intro w' hb; have hc := Reg.rd_cells hb; clear hb; go_simp; (try go_bits); first | done | (with_reducible exact rfl)); (intro _ a' ha'; simp only [Act.put, List.setIfInBounds_toArray, List.set_cons_zero, List.set_cons_succ] at ha'; subst ha'))
    refine Reg.rd_op rfl ?_; apply Exists.intro; apply And.intro
    · intro w' hb; have hsz := Reg.rd_size hb; clear hb; go_simp; (try go_bits); exact HL.out _
    intro _ a' ha'; simp only [Act.put, List.setIfInBounds_toArray, List.set_cons_zero, List.set_cons_succ] at ha'; subst ha'
    repeat (refine Reg.rd_op rfl ?_; apply Exists.intro; apply And.intro; (intro w' hb; have hc := Reg.rd_cells hb; clear hb; go_simp; (try go_bits); first | done | (with_reducible exact rfl)); (intro _ a' ha'; simp only [Act.put, List.setIfInBounds_toArray, List.set_cons_zero, List.set_cons_succ] at ha'; subst ha'))
    refine Reg.rd_end (fun wz hb => ?_)
    have O := (((Reg.Own.nil w).alloc rfl _ _).alloc (k := w.heap.size + 1) (by simp) _ _).keep hb
    obtain ⟨c1, f1, z1, y1, ⟨n10, -⟩, c0, f0, z0, y0, -, zz⟩ := O.rules
    have HO := Lib.hid O; clear O
    clear hb
    go_wp2_with fail
    refine (HS.out _).mono ?_
    rintro en w7 ⟨rfl, hb7⟩
    have O := HO.out.keep hb7
    clear HO c1 f1 z1 y1 n10 c0 f0 z0 y0 zz
    obtain ⟨c1, f1, z1, y1, ⟨n10, -⟩, c0, f0, z0, y0, -, zz⟩ := O.rules
    have HO := Lib.hid O; clear O
    clear hb7
    go_wp2_with fail
    refine Reg.wp_region_rd (by kernel_rfl) (by kernel_rfl) (fun _ => ?_)
    repeat (refine Reg.rd_op rfl ?_; apply Exists.intro; apply And.intro; (intro w' hb; have hc := Reg.rd_cells hb; clear hb; go_simp; (try go_bits); first | done | (with_reducible exact rfl)); (intro _ a' ha'; simp only [Act.put, List.setIfInBounds_toArray, List.set_cons_zero, List.set_cons_succ] at ha'; subst ha'))
    refine Reg.rd_op rfl ?_; apply Exists.intro; apply And.intro
    · intro w' hb; have hsz := Reg.rd_size hb; clear hb; go_simp; (try go_bits); exact HPC.out _
    intro _ a' ha'; simp only [Act.put, List.setIfInBounds_toArray, List.set_cons_zero, List.set_cons_succ] at ha'; subst ha'
    repeat (refine Reg.rd_op rfl ?_; apply Exists.intro; apply And.intro; (intro w' hb; have hc := Reg.rd_cells hb; clear hb; go_simp; (try go_bits); first | done | (with_reducible exact rfl)); (intro _ a' ha'; simp only [Act.put, List.setIfInBounds_toArray, List.set_cons_zero, List.set_cons_succ] at ha'; subst ha'))
    refine Reg.rd_end (fun wz hb => ?_)
    go_wp2
    go_ret2
    refine ⟨by simp, ?_⟩
    exact (HO.out.keep hb).below
  · simp only [if_true] at hn
    go_enter Try.func77, Try.ntmps77
    go_wp2_with fail
    refine Reg.wp_region_rd (by kernel_rfl) (by kernel_rfl) (fun _ => ?_)
    repeat (refine Reg.rd_op rfl ?_; apply Exists.intro; apply And.intro; (intro w' hb; have hc := Reg.rd_cells hb; clear hb; go_simp; (try go_bits); first | done | (with_reducible exact rfl)); (intro _ a' ha'; simp only [Act.put, List.setIfInBounds_toArray, List.set_cons_zero, List.set_cons_succ] at ha'; subst ha'))
    refine Reg.rd_op rfl ?_; apply Exists.intro; apply And.intro
    · intro w' hb; have hsz := Reg.rd_size hb; clear hb; go_simp; (try go_bits); exact HL.out _
    intro _ a' ha'; simp only [Act.put, List.setIfInBounds_toArray, List.set_cons_zero, List.set_cons_succ] at ha'; subst ha'
    repeat (refine Reg.rd_op rfl ?_; apply Exists.intro; apply And.intro; (intro w' hb; have hc := Reg.rd_cells hb; clear hb; go_simp; (try go_bits); first | done | (with_reducible exact rfl)); (intro _ a' ha'; simp only [Act.put, List.setIfInBounds_toArray, List.set_cons_zero, List.set_cons_succ] at ha'; subst ha'))
    refine Reg.rd_end (fun wz hb => ?_)
    have O := (((Reg.Own.nil w).alloc rfl _ _).alloc (k := w.heap.size + 1) (by simp) _ _).keep hb
    obtain ⟨c1, f1, z1, y1, ⟨n10, -⟩, c0, f0, z0, y0, -, zz⟩ := O.rules
    have HO := Lib.hid O; clear O
    clear hb
    go_wp2_with fail
    refine (HS.out _).mono ?_
    rintro en w7 ⟨rfl, hb7⟩
    have O := HO.out.keep hb7
    clear HO c1 f1 z1 y1 n10 c0 f0 z0 y0 zz
    obtain ⟨c1, f1, z1, y1, ⟨n10, -⟩, c0, f0, z0, y0, -, zz⟩ := O.rules
    have HO := Lib.hid O; clear O
    clear hb7
    go_wp2_with fail
    refine (HS.out _).mono ?_
    rintro en w3 ⟨rfl, hb3⟩
    have O := HO.out.keep hb3
    clear HO c1 f1 z1 y1 n10 c0 f0 z0 y0 zz
    obtain ⟨c1, f1, z1, y1, ⟨n10, -⟩, c0, f0, z0, y0, -, zz⟩ := O.rules
    have HO := Lib.hid O; clear O
    clear hb3
    go_wp2_with fail
    refine Reg.wp_region_rd (by kernel_rfl) (by kernel_rfl) (fun _ => ?_)
    repeat (refine Reg.rd_op rfl ?_; apply Exists.intro; apply And.intro; (intro w' hb; have hc := Reg.rd_cells hb; clear hb; go_simp; (try go_bits); first | done | (with_reducible exact rfl)); (intro _ a' ha'; simp only [Act.put, List.setIfInBounds_toArray, List.set_cons_zero, List.set_cons_succ] at ha'; subst ha'))
    refine Reg.rd_op rfl ?_; apply Exists.intro; apply And.intro
    · intro w' hb; have hsz := Reg.rd_size hb; clear hb; go_simp; (try go_bits); exact HPC.out _
    intro _ a' ha'; simp only [Act.put, List.setIfInBounds_toArray, List.set_cons_zero, List.set_cons_succ] at ha'; subst ha'
    repeat (refine Reg.rd_op rfl ?_; apply Exists.intro; apply And.intro; (intro w' hb; have hc := Reg.rd_cells hb; clear hb; go_simp; (try go_bits); first | done | (with_reducible exact rfl)); (intro _ a' ha'; simp only [Act.put, List.setIfInBounds_toArray, List.set_cons_zero, List.set_cons_succ] at ha'; subst ha'))
    refine Reg.rd_end (fun wz hb => ?_)
    go_wp2
    go_ret2
    refine ⟨by simp, ?_⟩
    exact (HO.out.keep hb).below

theorem of1 (f e c u0 P T G : Nat) (x : FP) (w : World) (hf1 : 1 ≤ f) (hf : f ≤ 52) (he1 : 1 ≤ e) (he : e ≤ 11) (hc : c < 2 ^ 64)
    (a0 : (2 : Int) ^ f = P) (_a1 : 1 ≤ P) (_a2 : P ≤ 2 ^ 52) (hT : 2 ^ e - 1 = T) (_a3 : T ≤ 2047) (hG : 2 ^ (f + e) = G) (_a4 : 1 ≤ G) (_a5 : G ≤ 2 ^ 63)
    (k1 : (x.kind == 3) = false) (k2 : (x.kind == 4) = false) (k3 : (x.kind == 2) = false) (k4 : (x.kind == 1) = true) (a6 : bits .and .u64 x.mant ((P : Int) - 1) = u0)
    (hn : (if x.neg then bits .or .u64 (u0 : Int) (G : Int) else (u0 : Int)) = c) :
    Calls Try.prog 77 #[.agg #[.int .i64 f, .int .i64 e], x.val] w fun en w' => en = .returned (.tuple #[.int .u64 c, .bool (decide (partsN f e c = x))]) ∧ Below w.heap.size w w' := by
  obtain ⟨p, hp⟩ : ∃ p, p = partsN f e c := ⟨_, rfl⟩
  rw [← hp, ← eqA_fp]
  have hpc := fun w => parts_any f e c w hf1 hf he1 he hc
  rw [← hp] at hpc
  obtain ⟨pk, pn, pm, px, pq, pl⟩ := p
  obtain ⟨xk, xn, xm, xx, xq, xl⟩ := x
  simp only [FP.val] at hpc ⊢
  simp only at k1 k2 k3 k4 a6 hn
  have HPC := Lib.hid hpc; clear hpc hp
  have ht := fun w => top_any f e w he
  have hs := fun w => sign_any f e w hf he
  have hl := fun w => least_any f e w hf he
  have hl1 := (lst_bd hf he).1
  have hl2 : lst f e ≤ 0 := by unfold lst; omega
  rw [hT] at ht
  rw [hG] at hs
  have HT := Lib.hid ht; clear ht
  have HS := Lib.hid hs; clear hs
  have HL := Lib.hid hl; clear hl
  clear hT hG
  have e24 := eqA24
  have hc' := Lib.hid hc; clear hc
  cases xn
  · simp only [Bool.false_eq_true, if_false] at hn
    obtain rfl : u0 = c := by omega
    go_enter Try.func77, Try.ntmps77
    go_wp2_with fail
    refine Reg.wp_region_rd (by kernel_rfl) (by kernel_rfl) (fun _ => ?_)
    repeat (refine Reg.rd_op rfl ?_; apply Exists.intro; apply And.intro; (intro w' hb; have hc := Reg.rd_cells hb; clear hb; go_simp; (try go_bits); first | done | (with_reducible exact rfl)); (intro _ a' ha'; simp only [Act.put, List.setIfInBounds_toArray, List.set_cons_zero, List.set_cons_succ] at ha'; subst ha'))
    refine Reg.rd_end (fun wz hb => ?_)
    have O := (((Reg.Own.nil w).alloc rfl _ _).alloc (k := w.heap.size + 1) (by simp) _ _).keep hb
    obtain ⟨c1, f1, z1, y1, ⟨n10, -⟩, c0, f0, z0, y0, -, zz⟩ := O.rules
    have HO := Lib.hid O; clear O
    clear hb
    go_wp2_with fail
    refine Reg.wp_region_rd (by kernel_rfl) (by kernel_rfl) (fun _ => ?_)
    repeat (refine Reg.rd_op rfl ?_; apply Exists.intro; apply And.intro; (intro w' hb; have hc := Reg.rd_cells hb; clear hb; go_simp; (try go_bits); first | done | (with_reducible exact rfl)); (intro _ a' ha'; simp only [Act.put, List.setIfInBounds_toArray, List.set_cons_zero, List.set_cons_succ] at ha'; subst ha'))
    refine Reg.rd_op rfl ?_; apply Exists.intro; apply And.intro
    · intro w' hb; have hsz := Reg.rd_size hb; clear hb; go_simp; (try go_bits); exact HPC.out _
    intro _ a' ha'; simp only [Act.put, List.setIfInBounds_toArray, List.set_cons_zero, List.set_cons_succ] at ha'; subst ha'
    repeat (refine Reg.rd_op rfl ?_; apply Exists.intro; apply And.intro; (intro w' hb; have hc := Reg.rd_cells hb; clear hb; go_simp; (try go_bits); first | done | (with_reducible exact rfl)); (intro _ a' ha'; simp only [Act.put, List.setIfInBounds_toArray, List.set_cons_zero, List.set_cons_succ] at ha'; subst ha'))
    refine Reg.rd_end (fun wz hb => ?_)
    go_wp2
    go_ret2
    refine ⟨by simp, ?_⟩
    exact (HO.out.keep hb).below
  · simp only [if_true] at hn
    go_enter Try.func77, Try.ntmps77
    go_wp2_with fail
    refine Reg.wp_region_rd (by kernel_rfl) (by kernel_rfl) (fun _ => ?_)
    repeat (refine Reg.rd_op rfl ?_; apply Exists.intro; apply And.intro; (intro w' hb; have hc := Reg.rd_cells hb; clear hb; go_simp; (try go_bits); first | done | (with_reducible exact rfl)); (intro _ a' ha'; simp only [Act.put, List.setIfInBounds_toArray, List.set_cons_zero, List.set_cons_succ] at ha'; subst ha'))
    refine Reg.rd_end (fun wz hb => ?_)
    have O := (((Reg.Own.nil w).alloc rfl _ _).alloc (k := w.heap.size + 1) (by simp) _ _).keep hb
    obtain ⟨c1, f1, z1, y1, ⟨n10, -⟩, c0, f0, z0, y0, -, zz⟩ := O.rules
    have HO := Lib.hid O; clear O
    clear hb
    go_wp2_with fail
    refine (HS.out _).mono ?_
    rintro en w3 ⟨rfl, hb3⟩
    have O := HO.out.keep hb3
    clear HO c1 f1 z1 y1 n10 c0 f0 z0 y0 zz
    obtain ⟨c1, f1, z1, y1, ⟨n10, -⟩, c0, f0, z0, y0, -, zz⟩ := O.rules
    have HO := Lib.hid O; clear O
    clear hb3
    go_wp2_with fail
    refine Reg.wp_region_rd (by kernel_rfl) (by kernel_rfl) (fun _ => ?_)
    repeat (refine Reg.rd_op rfl ?_; apply Exists.intro; apply And.intro; (intro w' hb; have hc := Reg.rd_cells hb; clear hb; go_simp; (try go_bits); first | done | (with_reducible exact rfl)); (intro _ a' ha'; simp only [Act.put, List.setIfInBounds_toArray, List.set_cons_zero, List.set_cons_succ] at ha'; subst ha'))
    refine Reg.rd_op rfl ?_; apply Exists.intro; apply And.intro
    · intro w' hb; have hsz := Reg.rd_size hb; clear hb; go_simp; (try go_bits); exact HPC.out _
    intro _ a' ha'; simp only [Act.put, List.setIfInBounds_toArray, List.set_cons_zero, List.set_cons_succ] at ha'; subst ha'
    repeat (refine Reg.rd_op rfl ?_; apply Exists.intro; apply And.intro; (intro w' hb; have hc := Reg.rd_cells hb; clear hb; go_simp; (try go_bits); first | done | (with_reducible exact rfl)); (intro _ a' ha'; simp only [Act.put, List.setIfInBounds_toArray, List.set_cons_zero, List.set_cons_succ] at ha'; subst ha'))
    refine Reg.rd_end (fun wz hb => ?_)
    go_wp2
    go_ret2
    refine ⟨by simp, ?_⟩
    exact (HO.out.keep hb).below

theorem of0 (f e c P T G : Nat) (x : FP) (w : World) (hf1 : 1 ≤ f) (hf : f ≤ 52) (he1 : 1 ≤ e) (he : e ≤ 11) (hc : c < 2 ^ 64)
    (a0 : (2 : Int) ^ f = P) (_a1 : 1 ≤ P) (_a2 : P ≤ 2 ^ 52) (hT : 2 ^ e - 1 = T) (_a3 : T ≤ 2047) (hG : 2 ^ (f + e) = G) (_a4 : 1 ≤ G) (_a5 : G ≤ 2 ^ 63)
    (k1 : (x.kind == 3) = false) (k2 : (x.kind == 4) = false) (k3 : (x.kind == 2) = false) (k4 : (x.kind == 1) = false)
    (hn : (if x.neg then bits .or .u64 0 (G : Int) else 0) = (c : Int)) :
    Calls Try.prog 77 #[.agg #[.int .i64 f, .int .i64 e], x.val] w fun en w' => en = .returned (.tuple #[.int .u64 c, .bool (decide (partsN f e c = x))]) ∧ Below w.heap.size w w' := by
  obtain ⟨p, hp⟩ : ∃ p, p = partsN f e c := ⟨_, rfl⟩
  rw [← hp, ← eqA_fp]
  have hpc := fun w => parts_any f e c w hf1 hf he1 he hc
  rw [← hp] at hpc
  obtain ⟨pk, pn, pm, px, pq, pl⟩ := p
  obtain ⟨xk, xn, xm, xx, xq, xl⟩ := x
  simp only [FP.val] at hpc ⊢
  simp only at k1 k2 k3 k4 hn
  have HPC := Lib.hid hpc; clear hpc hp
  have ht := fun w => top_any f e w he
  have hs := fun w => sign_any f e w hf he
  have hl := fun w => least_any f e w hf he
  have hl1 := (lst_bd hf he).1
  have hl2 : lst f e ≤ 0 := by unfold lst; omega
  rw [hT] at ht
  rw [hG] at hs
  have HT := Lib.hid ht; clear ht
  have HS := Lib.hid hs; clear hs
  have HL := Lib.hid hl; clear hl
  clear hT hG
  have e24 := eqA24
  have hc' := Lib.hid hc; clear hc
  cases xn
  · simp only [Bool.false_eq_true, if_false] at hn
    have h := HPC.out; rw [← hn] at h; clear HPC; have HPC := Lib.hid h; clear h; have HN := Lib.hid hn; clear hn
    go_enter Try.func77, Try.ntmps77
    go_wp2_with fail
    refine Reg.wp_region_rd (by kernel_rfl) (by kernel_rfl) (fun _ => ?_)
    repeat (refine Reg.rd_op rfl ?_; apply Exists.intro; apply And.intro; (intro w' hb; have hc := Reg.rd_cells hb; clear hb; go_simp; (try go_bits); first | done | (with_reducible exact rfl)); (intro _ a' ha'; simp only [Act.put, List.setIfInBounds_toArray, List.set_cons_zero, List.set_cons_succ] at ha'; subst ha'))
    refine Reg.rd_op rfl ?_; apply Exists.intro; apply And.intro
    · intro w' hb; have hsz := Reg.rd_size hb; clear hb; go_simp; (try go_bits); exact HPC.out _
    intro _ a' ha'; simp only [Act.put, List.setIfInBounds_toArray, List.set_cons_zero, List.set_cons_succ] at ha'; subst ha'
    repeat (refine Reg.rd_op rfl ?_; apply Exists.intro; apply And.intro; (intro w' hb; have hc := Reg.rd_cells hb; clear hb; go_simp; (try go_bits); first | done | (with_reducible exact rfl)); (intro _ a' ha'; simp only [Act.put, List.setIfInBounds_toArray, List.set_cons_zero, List.set_cons_succ] at ha'; subst ha'))
    refine Reg.rd_end (fun wz hb => ?_)
    go_wp2
    go_ret2
    refine ⟨by simp [← HN.out], ?_⟩
    have hq := (((Below.refl w.heap.size w).alloc (Nat.le_refl _) _).alloc (by simp) _).trans (hb.mono (by simp; omega))
    exact hq
  · simp only [if_true] at hn
    go_enter Try.func77, Try.ntmps77
    go_wp2_with fail
    refine (HS.out _).mono ?_
    rintro en w3 ⟨rfl, hb3⟩
    have O := (((Reg.Own.nil w).alloc rfl _ _).alloc (k := w.heap.size + 1) (by simp) _ _).keep hb3
    obtain ⟨c1, f1, z1, y1, ⟨n10, -⟩, c0, f0, z0, y0, -, zz⟩ := O.rules
    have HO := Lib.hid O; clear O
    clear hb3
    go_wp2_with fail
    refine Reg.wp_region_rd (by kernel_rfl) (by kernel_rfl) (fun _ => ?_)
    repeat (refine Reg.rd_op rfl ?_; apply Exists.intro; apply And.intro; (intro w' hb; have hc := Reg.rd_cells hb; clear hb; go_simp; (try go_bits); first | done | (with_reducible exact rfl)); (intro _ a' ha'; simp only [Act.put, List.setIfInBounds_toArray, List.set_cons_zero, List.set_cons_succ] at ha'; subst ha'))
    refine Reg.rd_op rfl ?_; apply Exists.intro; apply And.intro
    · intro w' hb; have hsz := Reg.rd_size hb; clear hb; go_simp; (try go_bits); exact HPC.out _
    intro _ a' ha'; simp only [Act.put, List.setIfInBounds_toArray, List.set_cons_zero, List.set_cons_succ] at ha'; subst ha'
    repeat (refine Reg.rd_op rfl ?_; apply Exists.intro; apply And.intro; (intro w' hb; have hc := Reg.rd_cells hb; clear hb; go_simp; (try go_bits); first | done | (with_reducible exact rfl)); (intro _ a' ha'; simp only [Act.put, List.setIfInBounds_toArray, List.set_cons_zero, List.set_cons_succ] at ha'; subst ha'))
    refine Reg.rd_end (fun wz hb => ?_)
    go_wp2
    go_ret2
    refine ⟨by simp, ?_⟩
    exact (HO.out.keep hb).below

end Go.Proofs.Ytpemchghaddgdaa

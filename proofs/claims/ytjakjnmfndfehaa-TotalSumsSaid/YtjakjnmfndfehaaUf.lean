/- total: the sum by halves: walks; the document's. Condition: at most 65536 numbers of 64 bits, no longer than the room they have. -/
import Derived.Test.YtjakjnmfndfehaaUe
namespace Go.Proofs.Ytjakjnmfndfehaa
open Go.RowKit Go.Pst
set_option maxRecDepth 20000
set_option linter.unusedSimpArgs false
set_option linter.unusedVariables false
/-- The sum by halves; g: more than the steps that it takes. -/
def haV : Nat → (Nat → Nat) → Nat → Nat
  | 0, _, _ => 0
  | g + 1, f, n => if n = 0 then 0 else if n = 1 then f 0 else arV .add (haV g f (n / 2)) (haV g (fun i => f (n / 2 + i)) (n - n / 2))
theorem haV_many (g : Nat) (f : Nat → Nat) (n : Nat) (h : 2 ≤ n) : haV (g + 1) f n = arV .add (haV g f (n / 2)) (haV g (fun i => f (n / 2 + i)) (n - n / 2)) := by
  conv => lhs; unfold haV
  rw [if_neg (by omega), if_neg (by omega)]
theorem flat_part {w : World} {B : Nat} {b off n a m : Nat} {f : Nat → Nat} (h : FlAt w B (some ⟨b, off, none⟩) n f) (hn : 0 < n) (hm : a + m ≤ n) : FlAt w B (some ⟨b, off + a, none⟩) m (fun i => f (a + i)) := fun hn' => by
  obtain ⟨b', o', e, h1, h2⟩ := h hn
  cases e
  exact ⟨_, _, rfl, h1, fun i hi => by rw [Nat.add_assoc]; exact h2 (a + i) (by omega)⟩
theorem flat_first {w : World} {B : Nat} {A : Option Addr} {n m : Nat} {f : Nat → Nat} (h : FlAt w B A n f) (hm : m ≤ n) : FlAt w B A m f := fun hn' => by
  obtain ⟨b', o', e, h1, h2⟩ := h (by omega)
  exact ⟨_, _, e, h1, fun i hi => h2 i (by omega)⟩
section
attribute [local go_sem] run_fadd
set_option maxHeartbeats 1000000 in
theorem halves_any (g : Nat) : ∀ (n c : Nat) (A : Option Addr) (f : Nat → Nat) (w : World), n ≤ g → n ≤ c → n ≤ 65536 → FlAt w w.heap.size A n f →
    Calls Try.prog 89 #[.slice A n c] w (FlLike (haV (g + 1) f n) w) := by
  induction g with
  | zero =>
    intro n c A f w hg hnc hn hA
    obtain rfl : n = 0 := by omega
    clear hA hg hnc hn
    go_enter Try.func89, Try.ntmps89
    go_wp2_with fail
    go_ret
    exact ⟨0, rfl, rfl, Below.refl _ _⟩
  | succ g ih =>
    intro n c A f w hg hnc hn hA
    by_cases h0 : n = 0
    · subst h0
      clear hA hg hnc hn ih
      go_enter Try.func89, Try.ntmps89
      go_wp2_with fail
      go_ret
      exact ⟨0, rfl, rfl, Below.refl _ _⟩
    · by_cases h1 : n = 1
      · subst h1
        obtain ⟨a, o, rfl, ha, hc⟩ := hA (by omega)
        have q : w.cell? ⟨a, o + 0, none⟩ = some (.float .f64 (f 0)) := hc 0 (by omega)
        rw [Nat.add_zero] at q
        have e1 : f 0 = haV (g + 1 + 1) f 1 := rfl
        obtain ⟨x, hx⟩ : ∃ x, x = f 0 := ⟨_, rfl⟩
        rw [← hx] at q e1
        have E1 := Lib.hid e1
        clear hc hA hg hnc hn ih h0 hx e1
        go_enter Try.func89, Try.ntmps89
        go_wp2_with fail
        go_ret
        exact ⟨x, rfl, by rw [E1.out], Below.refl _ _⟩
      · have e1 := haV_many (g + 1) f n (by omega)
        obtain ⟨m, hm⟩ : ∃ m, m = n / 2 := ⟨_, rfl⟩
        rw [← hm] at e1
        have hmn : (n : Int) / 2 = (m : Int) := by omega
        have hmt : (n : Int).tdiv 2 = (m : Int) := by rw [Int.tdiv_eq_ediv_of_nonneg (by omega)]; exact hmn
        obtain ⟨a, o, rfl, ha, hc⟩ := hA (by omega)
        have C1 := Lib.hid fun w' (hb : Below w.heap.size w w') => ih m c (some ⟨a, o, none⟩) f w' (by omega) (by omega) (by omega) ((flat_first (hA.below hb (Nat.le_refl _)) (by omega)).more hb.size)
        have C2 := Lib.hid fun w' (hb : Below w.heap.size w w') => ih (n - m) (c - m) (some ⟨a, o + m, none⟩) (fun i => f (m + i)) w' (by omega) (by omega) (by omega) ((flat_part (hA.below hb (Nat.le_refl _)) (by omega) (by omega)).more hb.size)
        generalize haV (g + 1) f m = V1 at e1 C1
        generalize haV (g + 1) (fun i => f (m + i)) (n - m) = V2 at e1 C2
        generalize haV (g + 1 + 1) f n = V at e1 ⊢
        have E1 := Lib.hid e1
        have hn0 : ((n : Int) == 0) = false := by simp; omega
        have hn1 : ((n : Int) == 1) = false := by simp; omega
        have hn2 : ¬ (n : Int) = 0 := by omega
        have hn3 : ¬ (n : Int) = 1 := by omega
        have hz0 : (0 : Int) ≤ (m : Int) := by omega
        have hz1 : (m : Int) ≤ (n : Int) := by omega
        have hz2 : (m : Int) ≤ (c : Int) := by omega
        have hz3 : (n : Int) ≤ (c : Int) := by omega
        have hz4 : ¬ c = m := by omega
        have hz5 : wrap64 (m : Int) = (m : Int) := by unfold wrap64; omega
        clear hc hA hg hnc hn ih h0 h1 e1 hm
        go_enter Try.func89, Try.ntmps89
        go_wp2_with fail
        refine Reg.wp_region_rn [17, 23, 24, 2] (by kernel_rfl) (by kernel_rfl) (fun _ => ?_)
        repeat (refine Reg.op0e Reg.rn_class (fun _ _ => trivial) rfl rfl rfl ?_; apply Exists.intro; apply And.intro; (intro w' hb; have hc := Reg.rd_cells hb; clear hb; go_simp; (try go_bits); first | done | (with_reducible exact rfl)); (intro a' ha'; simp only [Act.put, List.setIfInBounds_toArray, List.set_cons_zero, List.set_cons_succ] at ha'; subst ha'))
        refine Reg.op0 Reg.rn_class (fun _ _ => trivial) rfl rfl rfl ⟨.float .f64 (V1), ?_, ?_⟩
        · intro w' hb; have hbw := Lib.hid hb; have hc := Reg.rd_cells hb; clear hb; go_simp; exact ⟨rfl, (C1.out _ hbw.out).mono fun en w'' ⟨u, e1, e2, e3⟩ => ⟨_, e1, .inr ⟨rfl, veq_of_cn e2⟩, e3⟩⟩
        intro a' ha'; simp only [Act.put, List.setIfInBounds_toArray, List.set_cons_zero, List.set_cons_succ] at ha'; subst ha'
        repeat (refine Reg.op0e Reg.rn_class (fun _ _ => trivial) rfl rfl rfl ?_; apply Exists.intro; apply And.intro; (intro w' hb; have hc := Reg.rd_cells hb; clear hb; go_simp; (try go_bits); first | done | (with_reducible exact rfl)); (intro a' ha'; simp only [Act.put, List.setIfInBounds_toArray, List.set_cons_zero, List.set_cons_succ] at ha'; subst ha'))
        refine Reg.op0 Reg.rn_class (fun _ _ => trivial) rfl rfl rfl ⟨.float .f64 (V2), ?_, ?_⟩
        · intro w' hb; have hbw := Lib.hid hb; have hc := Reg.rd_cells hb; clear hb; go_simp; exact ⟨rfl, (C2.out _ hbw.out).mono fun en w'' ⟨u, e1, e2, e3⟩ => ⟨_, e1, .inr ⟨rfl, veq_of_cn e2⟩, e3⟩⟩
        intro a' ha'; simp only [Act.put, List.setIfInBounds_toArray, List.set_cons_zero, List.set_cons_succ] at ha'; subst ha'
        refine Reg.op2 Reg.rn_class (fun _ _ => trivial) rfl rfl 17 23 _ _ rfl rfl rfl ⟨.float .f64 ((arV .add V1 V2)), ?_, ?_⟩
        · intro u1 u2 g1 g2 w' hb; obtain ⟨y1, rfl, f1⟩ := cn_of_veq g1; obtain ⟨y2, rfl, f2⟩ := cn_of_veq g2; clear g1 g2; have hc := Reg.rd_cells hb; clear hb; have F1 := Lib.hid f1; have F2 := Lib.hid f2; clear f1 f2; simp only [Act.put, List.setIfInBounds_toArray, List.set_cons_zero, List.set_cons_succ]; go_simp; have f1 := F1.out; have f2 := F2.out; exact ⟨wIf_refl _ _, .inr ⟨rfl, veq_of_cn (arU_of2 f1 f2)⟩⟩
        intro a' ha'; simp only [Act.put, List.setIfInBounds_toArray, List.set_cons_zero, List.set_cons_succ] at ha'; subst ha'
        refine Reg.op1 Reg.rn_class (fun _ _ => trivial) rfl rfl 24 _ rfl rfl ⟨.float .f64 ((arV .add V1 V2)), ?_, ?_⟩
        · intro u1 g1 w' hb; clear hb; have G1 := Lib.hid g1; clear g1; simp only [Act.put, List.setIfInBounds_toArray, List.set_cons_zero, List.set_cons_succ]; go_simp; exact ⟨Below.refl _ _, .inr ⟨rfl, G1.out⟩⟩
        intro a' ha'; simp only [Act.put, List.setIfInBounds_toArray, List.set_cons_zero, List.set_cons_succ] at ha'; subst ha'
        refine Reg.rn_endv [(17, .float .f64 (V1)), (23, .float .f64 (V2)), (24, .float .f64 ((arV .add V1 V2))), (2, .float .f64 ((arV .add V1 V2)))] rfl (fun wz hb => ?_)
        refine ⟨rfl, fun u hu => ?_⟩
        obtain ⟨z17, rfl, k17⟩ := cn_of_veq hu; clear hu
        refine ⟨rfl, fun u hu => ?_⟩
        obtain ⟨z23, rfl, k23⟩ := cn_of_veq hu; clear hu
        refine ⟨rfl, fun u hu => ?_⟩
        obtain ⟨z24, rfl, k24⟩ := cn_of_veq hu; clear hu
        refine ⟨rfl, fun u hu => ?_⟩
        obtain ⟨z2, rfl, k2⟩ := cn_of_veq hu; clear hu
        simp only [Reg.endv, Act.put, List.setIfInBounds_toArray, List.set_cons_zero, List.set_cons_succ]
        go_wp2_with fail
        go_ret
        exact ⟨_, rfl, by rw [k2, E1.out], hb⟩
set_option maxHeartbeats 1000000 in
theorem rhalves_any (g : Nat) : ∀ (n c : Nat) (A : Option Addr) (f : Nat → Nat) (w : World), n ≤ g → n ≤ c → n ≤ 65536 → FlAt w w.heap.size A n f →
    Calls Try.prog 47 #[.slice A n c] w (FlLike (haV (g + 1) f n) w) := by
  induction g with
  | zero =>
    intro n c A f w hg hnc hn hA
    obtain rfl : n = 0 := by omega
    clear hA hg hnc hn
    go_enter Try.func47, Try.ntmps47
    go_wp2_with fail
    go_ret
    exact ⟨0, rfl, rfl, Below.refl _ _⟩
  | succ g ih =>
    intro n c A f w hg hnc hn hA
    by_cases h0 : n = 0
    · subst h0
      clear hA hg hnc hn ih
      go_enter Try.func47, Try.ntmps47
      go_wp2_with fail
      go_ret
      exact ⟨0, rfl, rfl, Below.refl _ _⟩
    · by_cases h1 : n = 1
      · subst h1
        obtain ⟨a, o, rfl, ha, hc⟩ := hA (by omega)
        have q : w.cell? ⟨a, o + 0, none⟩ = some (.float .f64 (f 0)) := hc 0 (by omega)
        rw [Nat.add_zero] at q
        have e1 : f 0 = haV (g + 1 + 1) f 1 := rfl
        obtain ⟨x, hx⟩ : ∃ x, x = f 0 := ⟨_, rfl⟩
        rw [← hx] at q e1
        have E1 := Lib.hid e1
        clear hc hA hg hnc hn ih h0 hx e1
        go_enter Try.func47, Try.ntmps47
        go_wp2_with fail
        go_ret
        exact ⟨x, rfl, by rw [E1.out], Below.refl _ _⟩
      · have e1 := haV_many (g + 1) f n (by omega)
        obtain ⟨m, hm⟩ : ∃ m, m = n / 2 := ⟨_, rfl⟩
        rw [← hm] at e1
        have hmn : (n : Int) / 2 = (m : Int) := by omega
        have hmt : (n : Int).tdiv 2 = (m : Int) := by rw [Int.tdiv_eq_ediv_of_nonneg (by omega)]; exact hmn
        obtain ⟨a, o, rfl, ha, hc⟩ := hA (by omega)
        have C1 := Lib.hid fun w' (hb : Below w.heap.size w w') => ih m c (some ⟨a, o, none⟩) f w' (by omega) (by omega) (by omega) ((flat_first (hA.below hb (Nat.le_refl _)) (by omega)).more hb.size)
        have C2 := Lib.hid fun w' (hb : Below w.heap.size w w') => ih (n - m) (c - m) (some ⟨a, o + m, none⟩) (fun i => f (m + i)) w' (by omega) (by omega) (by omega) ((flat_part (hA.below hb (Nat.le_refl _)) (by omega) (by omega)).more hb.size)
        generalize haV (g + 1) f m = V1 at e1 C1
        generalize haV (g + 1) (fun i => f (m + i)) (n - m) = V2 at e1 C2
        generalize haV (g + 1 + 1) f n = V at e1 ⊢
        have E1 := Lib.hid e1
        have hn0 : ((n : Int) == 0) = false := by simp; omega
        have hn1 : ((n : Int) == 1) = false := by simp; omega
        have hn2 : ¬ (n : Int) = 0 := by omega
        have hn3 : ¬ (n : Int) = 1 := by omega
        have hz0 : (0 : Int) ≤ (m : Int) := by omega
        have hz1 : (m : Int) ≤ (n : Int) := by omega
        have hz2 : (m : Int) ≤ (c : Int) := by omega
        have hz3 : (n : Int) ≤ (c : Int) := by omega
        have hz4 : ¬ c = m := by omega
        have hz5 : wrap64 (m : Int) = (m : Int) := by unfold wrap64; omega
        clear hc hA hg hnc hn ih h0 h1 e1 hm
        go_enter Try.func47, Try.ntmps47
        go_wp2_with fail
        refine Reg.wp_region_rn [17, 23, 24, 2] (by kernel_rfl) (by kernel_rfl) (fun _ => ?_)
        repeat (refine Reg.op0e Reg.rn_class (fun _ _ => trivial) rfl rfl rfl ?_; apply Exists.intro; apply And.intro; (intro w' hb; have hc := Reg.rd_cells hb; clear hb; go_simp; (try go_bits); first | done | (with_reducible exact rfl)); (intro a' ha'; simp only [Act.put, List.setIfInBounds_toArray, List.set_cons_zero, List.set_cons_succ] at ha'; subst ha'))
        refine Reg.op0 Reg.rn_class (fun _ _ => trivial) rfl rfl rfl ⟨.float .f64 (V1), ?_, ?_⟩
        · intro w' hb; have hbw := Lib.hid hb; have hc := Reg.rd_cells hb; clear hb; go_simp; exact ⟨rfl, (C1.out _ hbw.out).mono fun en w'' ⟨u, e1, e2, e3⟩ => ⟨_, e1, .inr ⟨rfl, veq_of_cn e2⟩, e3⟩⟩
        intro a' ha'; simp only [Act.put, List.setIfInBounds_toArray, List.set_cons_zero, List.set_cons_succ] at ha'; subst ha'
        repeat (refine Reg.op0e Reg.rn_class (fun _ _ => trivial) rfl rfl rfl ?_; apply Exists.intro; apply And.intro; (intro w' hb; have hc := Reg.rd_cells hb; clear hb; go_simp; (try go_bits); first | done | (with_reducible exact rfl)); (intro a' ha'; simp only [Act.put, List.setIfInBounds_toArray, List.set_cons_zero, List.set_cons_succ] at ha'; subst ha'))
        refine Reg.op0 Reg.rn_class (fun _ _ => trivial) rfl rfl rfl ⟨.float .f64 (V2), ?_, ?_⟩
        · intro w' hb; have hbw := Lib.hid hb; have hc := Reg.rd_cells hb; clear hb; go_simp; exact ⟨rfl, (C2.out _ hbw.out).mono fun en w'' ⟨u, e1, e2, e3⟩ => ⟨_, e1, .inr ⟨rfl, veq_of_cn e2⟩, e3⟩⟩
        intro a' ha'; simp only [Act.put, List.setIfInBounds_toArray, List.set_cons_zero, List.set_cons_succ] at ha'; subst ha'
        refine Reg.op2 Reg.rn_class (fun _ _ => trivial) rfl rfl 17 23 _ _ rfl rfl rfl ⟨.float .f64 ((arV .add V1 V2)), ?_, ?_⟩
        · intro u1 u2 g1 g2 w' hb; obtain ⟨y1, rfl, f1⟩ := cn_of_veq g1; obtain ⟨y2, rfl, f2⟩ := cn_of_veq g2; clear g1 g2; have hc := Reg.rd_cells hb; clear hb; have F1 := Lib.hid f1; have F2 := Lib.hid f2; clear f1 f2; simp only [Act.put, List.setIfInBounds_toArray, List.set_cons_zero, List.set_cons_succ]; go_simp; have f1 := F1.out; have f2 := F2.out; exact ⟨wIf_refl _ _, .inr ⟨rfl, veq_of_cn (arU_of2 f1 f2)⟩⟩
        intro a' ha'; simp only [Act.put, List.setIfInBounds_toArray, List.set_cons_zero, List.set_cons_succ] at ha'; subst ha'
        refine Reg.op1 Reg.rn_class (fun _ _ => trivial) rfl rfl 24 _ rfl rfl ⟨.float .f64 ((arV .add V1 V2)), ?_, ?_⟩
        · intro u1 g1 w' hb; clear hb; have G1 := Lib.hid g1; clear g1; simp only [Act.put, List.setIfInBounds_toArray, List.set_cons_zero, List.set_cons_succ]; go_simp; exact ⟨Below.refl _ _, .inr ⟨rfl, G1.out⟩⟩
        intro a' ha'; simp only [Act.put, List.setIfInBounds_toArray, List.set_cons_zero, List.set_cons_succ] at ha'; subst ha'
        refine Reg.rn_endv [(17, .float .f64 (V1)), (23, .float .f64 (V2)), (24, .float .f64 ((arV .add V1 V2))), (2, .float .f64 ((arV .add V1 V2)))] rfl (fun wz hb => ?_)
        refine ⟨rfl, fun u hu => ?_⟩
        obtain ⟨z17, rfl, k17⟩ := cn_of_veq hu; clear hu
        refine ⟨rfl, fun u hu => ?_⟩
        obtain ⟨z23, rfl, k23⟩ := cn_of_veq hu; clear hu
        refine ⟨rfl, fun u hu => ?_⟩
        obtain ⟨z24, rfl, k24⟩ := cn_of_veq hu; clear hu
        refine ⟨rfl, fun u hu => ?_⟩
        obtain ⟨z2, rfl, k2⟩ := cn_of_veq hu; clear hu
        simp only [Reg.endv, Act.put, List.setIfInBounds_toArray, List.set_cons_zero, List.set_cons_succ]
        go_wp2_with fail
        go_ret
        exact ⟨_, rfl, by rw [k2, E1.out], hb⟩
end
theorem halvesA_any (n c : Nat) (A : Option Addr) (f : Nat → Nat) (w : World) (hA : FlAt w w.heap.size A n f) (hn : n ≤ 65536) (hnc : n ≤ c) :
    Calls Try.prog 43 #[.slice A n c] w (FeLike (haV 65537 f n) 0 w) := by
  have HLG := Lib.hid fun w => long_f n c A w (by omega)
  rw [decide_eq_false (by omega : ¬ 65536 < n)] at HLG
  have HH := Lib.hid (halves_any 65536 n c A f w hn hnc hn hA)
  generalize haV (65536 + 1) f n = V at HH
  clear hA
  go_enter Try.func43, Try.ntmps43
  go_wp2_with fail
  refine (HLG.out _).mono ?_
  rintro en w' ⟨rfl, rfl⟩
  go_wp2_with fail
  refine HH.out.mono ?_
  rintro en w2 ⟨u, rfl, hu, hb⟩
  have HU := Lib.hid hu; have HB := Lib.hid hb
  clear hu hb
  go_wp2_with fail
  go_ret2
  exact ⟨u, rfl, HU.out, HB.out⟩
end Go.Proofs.Ytjakjnmfndfehaa

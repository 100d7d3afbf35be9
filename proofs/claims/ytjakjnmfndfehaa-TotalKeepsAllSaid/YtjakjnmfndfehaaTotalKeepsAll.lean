/- An expansion loses nothing, where all is finite and not too great; Compare is turned about by its lists: the law TotalKeepsAll returns true for every input and leaves its lists as they were. No condition. -/
import Derived.Test.YtjakjnmfndfehaaKe
import Derived.Test.YtjakjnmfndfehaaOq
namespace Go.Proofs.Ytjakjnmfndfehaa
open Go.RowKit Go.Pst Go.ChangeShapes Go.WideShapes Go.ChangeAt Go.Joins Go.Deep
set_option maxRecDepth 20000
set_option linter.unusedSimpArgs false
set_option linter.unusedVariables false
attribute [local go_sem] run_fadd
theorem flt_cn {s t c : Nat} (h : cn s = cn t) : flt .f64 s c = flt .f64 t c := by
  rw [flt64, flt64]
  have e1 : nan64 s = nan64 t := by rw [← cn_nan s, ← cn_nan t, h]
  rw [e1]
  cases hn : nan64 t
  · rw [cn_of s (e1.trans hn), cn_of t hn] at h; rw [h]
  · rfl
theorem cmpV_lim (f g : Nat → Nat) (n m : Nat) : -1 ≤ cmpV f g n m ∧ cmpV f g n m ≤ 1 := by
  unfold cmpV sgnI
  split
  · split
    · omega
    · split <;> omega
  · omega
set_option maxHeartbeats 4000000 in
theorem totalKeepsAll_walk (n c m d : Nat) (A M : Option Addr) (f g : Nat → Nat) (w : World) (hN : n ≤ 17592186044416) (hM : m ≤ 17592186044416) (hA : FlAt w w.heap.size A n f) (hm : FlAt w w.heap.size M m g)
    (hf : ∀ j, j < n → f j < 2 ^ 64) (hg : ∀ j, j < m → g j < 2 ^ 64) :
    Calls Try.prog 12 #[.slice A n c, .slice M m d] w fun en w' => en = .returned (.bool true) ∧ Below w.heap.size w w' := by
  have AW := Lib.hid fun w => awake_any w
  by_cases hn : n ≤ 300 ∧ m ≤ 300
  · obtain ⟨n1, m1⟩ := hn
    have HA := Lib.hid hA; have HM := Lib.hid hm; have HF := Lib.hid hf; have HG := Lib.hid hg
    have hn1 : ¬ (n : Int) > 300 := by omega
    have hn2 : ¬ 300 < (n : Int) := by omega
    have hm1 : ¬ (m : Int) > 300 := by omega
    have hm2 : ¬ 300 < (m : Int) := by omega
    have n5 : Hid (n ≤ 65536) := Lib.hid (by omega)
    have m5 : Hid (m ≤ 65536) := Lib.hid (by omega)
    obtain ⟨hc1, hc2⟩ := cmpV_lim f g n m
    obtain ⟨cv, hcv⟩ : ∃ v, v = cmpV f g n m := ⟨_, rfl⟩
    have hcw : -cv = cmpV g f m n := by rw [hcv, cmpV_turn g f]
    rw [← hcv] at hc1 hc2
    obtain ⟨cf, hcf⟩ : ∃ v, v = (finAll f n && finAll g m) := ⟨_, rfl⟩
    have hcg : cf = (finAll g m && finAll f n) := by rw [hcf, Bool.and_comm]
    have HCV := Lib.hid hcv; have HCF := Lib.hid hcf; have HCW := Lib.hid hcw; have HCG := Lib.hid hcg
    clear hm hA hf hg hcv hcf hcw hcg
    go_enter Try.func12, Try.ntmps12
    go_wp2_with fail
    refine (compare_any n c m d A M f g w HA.out HM.out n5.out m5.out HF.out HG.out).mono ?_
    rintro en w4 ⟨rfl, hb⟩
    have S4 := Lib.hid hb
    clear hb
    rw [← HCV.out, ← HCF.out]
    go_wp2_with fail
    refine (compare_any m d n c M A g f w4 ((HM.out.below S4.out (Nat.le_refl _)).more S4.out.size) ((HA.out.below S4.out (Nat.le_refl _)).more S4.out.size) m5.out n5.out HG.out HF.out).mono ?_
    rintro en w5 ⟨rfl, hb⟩
    rw [← HCW.out, ← HCG.out]
    have S5 := Lib.hid (S4.out.trans (hb.mono S4.out.size))
    clear hb
    go_wp2_with fail
    cases hl : flt .f64 (sumS f n) KC
    · go_loopw [11, 12] (fun s t wr => ∃ k b : Nat, t = .int .i64 (k : Int) ∧ s = .float .f64 b ∧ k ≤ n ∧ cn b = cn (sumS f k) ∧ Below w.heap.size w wr) (fun _ t _ => n - (intOf t).toNat)
      case atStart => exact ⟨0, 0, rfl, rfl, by omega, rfl, S5.out⟩
      case round =>
        obtain ⟨k, b, rfl, rfl, hk, hb0, hbw⟩ := hrel
        have BW := Lib.hid hbw; have HB := Lib.hid hb0
        clear hbw hb0
        by_cases hkn : k < n
        · have h3 : (k : Int) < (n : Int) := by omega
          have h00 : (0 : Int) ≤ (k : Int) := by omega
          obtain ⟨a, o, rfl, ha, hcl⟩ := (HA.out.below BW.out (Nat.le_refl _)) (by omega)
          have q := hcl k hkn
          obtain ⟨SN, hSN⟩ : ∃ v, v = sumS f (k + 1) := ⟨_, rfl⟩
          have hn9 : ∀ w0 : World, cn (arU .add w0 b (sizV (f k))) = cn SN := fun w0 => by rw [hSN]; exact arU_of2 HB.out (rfl : cn (sizV (f k)) = _)
          have HN := Lib.hid hn9
          clear hn9
          have HSN := Lib.hid hSN
          clear hSN
          have HSZ := Lib.hid fun (w0 : World) => size_any (f k) w0
          generalize f k = x at q HN HSZ
          generalize sizV x = z at HN HSZ
          clear hcl
          go_wp2_with fail
          refine (HSZ.out _).mono ?_
          rintro en w97 ⟨rfl, rfl⟩
          go_wp2_with fail
          have hbz := wIf_below (arD .add b z).isNone _ BW.out
          go_roundw
          case rel => exact ⟨k + 1, _, by go_num, rfl, by omega, by rw [← HSN.out]; exact HN.out _, hbz⟩
          case measure => (simp [intOf] <;> omega)
        · obtain rfl : k = n := by omega
          have hq : flt .f64 b 9199863512903218227 = false := (flt_cn HB.out).trans hl
          have hnlt : ¬ (k : Int) < (k : Int) := by omega
          go_wp2_with fail
          refine (AW.out _).mono ?_
          rintro en w2 ⟨rfl, hb2⟩
          have B2 := Lib.hid (BW.out.trans (hb2.mono BW.out.size))
          clear hb2
          go_wp2_with fail
          go_ret
          exact ⟨rfl, B2.out⟩
    · go_loopw [11, 12] (fun s t wr => ∃ k b : Nat, t = .int .i64 (k : Int) ∧ s = .float .f64 b ∧ k ≤ n ∧ cn b = cn (sumS f k) ∧ Below w.heap.size w wr) (fun _ t _ => n - (intOf t).toNat)
      case atStart => exact ⟨0, 0, rfl, rfl, by omega, rfl, S5.out⟩
      case round =>
        obtain ⟨k, b, rfl, rfl, hk, hb0, hbw⟩ := hrel
        have BW := Lib.hid hbw; have HB := Lib.hid hb0
        clear hbw hb0
        by_cases hkn : k < n
        · have h3 : (k : Int) < (n : Int) := by omega
          have h00 : (0 : Int) ≤ (k : Int) := by omega
          obtain ⟨a, o, rfl, ha, hcl⟩ := (HA.out.below BW.out (Nat.le_refl _)) (by omega)
          have q := hcl k hkn
          obtain ⟨SN, hSN⟩ : ∃ v, v = sumS f (k + 1) := ⟨_, rfl⟩
          have hn9 : ∀ w0 : World, cn (arU .add w0 b (sizV (f k))) = cn SN := fun w0 => by rw [hSN]; exact arU_of2 HB.out (rfl : cn (sizV (f k)) = _)
          have HN := Lib.hid hn9
          clear hn9
          have HSN := Lib.hid hSN
          clear hSN
          have HSZ := Lib.hid fun (w0 : World) => size_any (f k) w0
          generalize f k = x at q HN HSZ
          generalize sizV x = z at HN HSZ
          clear hcl
          go_wp2_with fail
          refine (HSZ.out _).mono ?_
          rintro en w97 ⟨rfl, rfl⟩
          go_wp2_with fail
          have hbz := wIf_below (arD .add b z).isNone _ BW.out
          go_roundw
          case rel => exact ⟨k + 1, _, by go_num, rfl, by omega, by rw [← HSN.out]; exact HN.out _, hbz⟩
          case measure => (simp [intOf] <;> omega)
        · obtain rfl : k = n := by omega
          have hq : flt .f64 b 9199863512903218227 = true := (flt_cn HB.out).trans hl
          have hnlt : ¬ (k : Int) < (k : Int) := by omega
          have HL := Lib.hid hl
          have hex := HF.out
          clear hl
          go_wp2_with fail
          refine (expand_any k c A f wr ((HA.out.below BW.out (Nat.le_refl _)).more BW.out.size) n5.out).mono ?_
          rintro en w7 ⟨B7, c7, xs, rfl, hxs, hf7, hb⟩
          have T7 := Lib.hid (BW.out.trans (hb.mono BW.out.size))
          have HE := Lib.hid (expand_same n1 HF.out HL.out hxs)
          have F7 := Lib.hid hf7
          clear hxs hf7 hb hex
          go_wp2_with fail
          refine (compare_any xs.length c7 k c B7 A (atL xs) f w7 F7.out ((HA.out.below T7.out (Nat.le_refl _)).more T7.out.size) (by have := HE.out.1; omega) n5.out HE.out.2.1 HF.out).mono ?_
          rintro en w8 ⟨rfl, hb⟩
          have S8 := Lib.hid hb
          clear hb
          rw [HE.out.2.2.2.2.1, HE.out.2.2.1, HE.out.2.2.2.1]
          go_wp2_with fail
          refine (exact_any xs.length c7 B7 (atL xs) w8 ((F7.out.below S8.out (Nat.le_refl _)).more S8.out.size) (by have := HE.out.1; omega) HE.out.2.1).mono ?_
          rintro en w9 ⟨rfl, hb⟩
          have S9 := Lib.hid (S8.out.trans (hb.mono S8.out.size))
          have T9 := Lib.hid (T7.out.trans (S9.out.mono T7.out.size))
          clear hb
          go_wp2_with fail
          refine (exact_any k c A f w9 ((HA.out.below T9.out (Nat.le_refl _)).more T9.out.size) n5.out HF.out).mono ?_
          rintro en wa ⟨rfl, hb⟩
          have T10 := Lib.hid (T9.out.trans (hb.mono T9.out.size))
          have hfq := HE.out.2.2.2.2.2
          generalize exactV (atL xs) xs.length = X at hfq ⊢
          generalize exactV f k = Y at hfq ⊢
          clear hb
          go_wp2_with fail
          refine (AW.out _).mono ?_
          rintro en w2 ⟨rfl, hb2⟩
          have B2 := Lib.hid (T10.out.trans (hb2.mono T10.out.size))
          clear hb2
          go_wp2_with fail
          go_ret
          exact ⟨rfl, B2.out⟩
  · clear hm hA hf hg
    by_cases n1 : 300 < n
    · have hn1 : (n : Int) > 300 := by omega
      have hn2 : 300 < (n : Int) := by omega
      clear hn
      go_enter Try.func12, Try.ntmps12
      go_wp2_with fail
      refine (AW.out _).mono ?_
      rintro en w2 ⟨rfl, hb2⟩
      have B2 := Lib.hid hb2
      clear hb2
      go_wp2_with fail
      go_ret
      exact ⟨rfl, B2.out⟩
    · have hn1 : ¬ (n : Int) > 300 := by omega
      have hn2 : ¬ 300 < (n : Int) := by omega
      have hm1 : (m : Int) > 300 := by omega
      have hm2 : 300 < (m : Int) := by omega
      clear hn
      go_enter Try.func12, Try.ntmps12
      go_wp2_with fail
      refine (AW.out _).mono ?_
      rintro en w2 ⟨rfl, hb2⟩
      have B2 := Lib.hid hb2
      clear hb2
      go_wp2_with fail
      go_ret
      exact ⟨rfl, B2.out⟩
theorem totalKeepsAll_own : ownKnob Try.prog.godebug = none := by kernel_rfl
theorem totalKeepsAll_laid : laidOutB Try.prog = true := by kernel_rfl
theorem totalKeepsAll_types : ∀ t ∈ ([22, 22] : List TypeId), Try.prog.readableRec t = true ∧ t < Try.prog.types.size := by
  simp only [List.mem_cons, List.not_mem_nil, or_false, forall_eq_or_imp, forall_eq]
  exact ⟨⟨by kernel_rfl, of_decide_eq_true (by kernel_rfl)⟩, ⟨by kernel_rfl, of_decide_eq_true (by kernel_rfl)⟩⟩
set_option maxRecDepth 100000 in
theorem totalKeepsAll_lifted (os : Os) (started : os.Started) (H : Type) (enc : TypeId × Value → H) :
    ReturnsInHanded {} Try.checked os 12 .any (Rows.totalKeepsAllSpec.pre6 enc Try.prog Try.f12 Rows.totalKeepsAllRow.domain false) (Rows.totalKeepsAllSpec.post enc Try.prog Try.f12 false true false false) := by
  refine returnsInHanded_of_change_sized (C := Try.checked) totalKeepsAll_own started (by kernel_rfl) Try.func12
    (ChangeSpec.witness6 (enc := enc) (C := Try.checked) false ⟨#[], #[.slice none 0 0, .slice none 0 0], []⟩ 8 (by kernel_rfl) (by kernel_rfl) (by kernel_rfl) (by kernel_rfl)) ?_
  intro W base args ds gs before hval0 hW hcnd hsz hholds
  have hval : ∀ (j : Nat) t v, Try.f12.params[j]? = some t → args[j]? = some v → Value.okWide Try.prog W .any base t v := hval0
  have hW' := hW
  obtain ⟨p, q, hA0, hV, rfl, hfz, hnd⟩ := hW
  have hA : DataW.TrodAll enc Try.prog W 0 (fun _ => true) true Try.f12.params.toList args.toList ds p := hA0
  obtain ⟨rfl, rfl⟩ := trodVars_none hV
  have hpost : ∀ W', Below W.heap.size W W' → Rows.totalKeepsAllSpec.post enc Try.prog Try.f12 false true false false W args (.bool true) W' := fun W' hb => by
    have hlen : ds.length = 2 := by have hh := hA; rw [Try.params12] at hh; obtain ⟨_, _, d0, ds0, _, _, _, rfl, _, _, hh⟩ := trodAll_cons hh; obtain ⟨_, _, d1, ds1, _, _, _, rfl, _, _, hh⟩ := trodAll_cons hh; obtain ⟨_, rfl, _⟩ := trodAll_nil hh; simp
    obtain ⟨e0, e1, rfl⟩ : ∃ e0 e1, ds = [e0, e1] := by match ds, hlen with | [e0, e1], _ => exact ⟨e0, e1, rfl⟩
    exact law_post totalKeepsAll_laid rfl hW' (by rw [Try.params12]; exact totalKeepsAll_types) (tb := 4) (by kernel_rfl) Try.underlying4 rfl rfl rfl hb
  rw [Try.params12] at hA hval
  obtain ⟨v0, vs0, d0, ds0, p0, q0, hargs, rfl, rfl, h0, r0⟩ := trodAll_cons hA
  obtain ⟨v1, vs1, d1, ds1, p1, q1, rfl, rfl, rfl, h1, r1⟩ := trodAll_cons r0
  obtain ⟨rfl, rfl, rfl⟩ := trodAll_nil r1
  obtain rfl : args = #[v0, v1] := by cases args; simp_all
  obtain ⟨A, n, c, y, rfl, hsd, hAt, hy⟩ := open_floats Try.underlying22 Try.underlying24 (by kernel_rfl) (hval 0 22 v0 rfl rfl) h0
  obtain ⟨M, m, d, g, rfl, hsd1, hMt, hg⟩ := open_floats Try.underlying22 Try.underlying24 (by kernel_rfl) (hval 1 22 v1 rfl rfl) h1
  have hlen := sized_list (j := 0) (t := 22) hsz (by kernel_rfl) rfl Try.underlying22 hsd
  rw [show Try.checked.prog.bytesOf 24 = 8 by kernel_rfl] at hlen
  have hlen1 := sized_list (j := 1) (t := 22) hsz (by kernel_rfl) rfl Try.underlying22 hsd1
  rw [show Try.checked.prog.bytesOf 24 = 8 by kernel_rfl] at hlen1
  have := reachBytes_lt
  refine (totalKeepsAll_walk n c m d A M y g W (by omega) (by omega) hAt hMt (fun j hj => f64_wf (hy j hj)) (fun j hj => f64_wf (hg j hj))).mono fun e W' ⟨he, hg⟩ => ?_
  subst he
  exact ⟨_, rfl, hpost _ hg⟩

theorem totalKeepsAll_holds : Rows.TotalKeepsAllSaid :=
  OpenClaim.holds_of_wide 12 Try.f12 rfl rfl rfl rfl rfl rfl rfl ⟨rfl, rfl, rfl, rfl, rfl⟩ rfl rfl rfl rfl rfl (by kernel_rfl) Try.func12 (by kernel_rfl)
    (of_decide_eq_true (by kernel_rfl)) (by unfold Func.isWrapper; first | (rw [if_pos (by decide +kernel)]; kernel_rfl) | (rw [if_neg (by decide +kernel)]; exact ⟨rfl, rfl⟩))
    (fun os started H enc _ => totalKeepsAll_lifted os started H enc)
#print axioms totalKeepsAll_holds
end Go.Proofs.Ytjakjnmfndfehaa

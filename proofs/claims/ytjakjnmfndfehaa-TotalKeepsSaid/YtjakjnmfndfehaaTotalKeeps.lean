/- The document's sums with what was lost; the law TotalKeeps returns true for every input and leaves its list as it was. No condition. -/
import Derived.Test.YtjakjnmfndfehaaTw
import Derived.Test.YtjakjnmfndfehaaOp
namespace Go.Pst
open Go Ieee Go.Proofs.Ytjakjnmfndfehaa
set_option linter.unusedVariables false
theorem flipF_twice (r : Nat) : flipF (flipF r) = r := by unfold flipF; rw [Nat.xor_assoc, Nat.xor_self, Nat.xor_zero]
theorem flipF_high {b r : Nat} (h : b = wrd true r) (hr : r < 9223372036854775808) : flipF b = r := by
  rw [h, ← flipF_low hr, flipF_twice]
theorem wrd_true (r : Nat) : wrd true r = 9223372036854775808 + r := by unfold wrd; rw [if_pos rfl]
theorem siz_key {b : Nat} (hb : b < 2 ^ 64) : nan64 (sizV b) = nan64 b ∧ (nan64 b = false → key64 (sizV b) = ((b % 9223372036854775808 : Nat) : Int)) := by
  have e : flt .f64 b 0 = (!nan64 b && decide (key64 b < 0)) := by rw [flt64, show nan64 0 = false from rfl, show key64 0 = 0 from rfl, Bool.or_false]
  have ek : key64 b < 0 → 9223372036854775808 ≤ b := fun h => by
    unfold key64 at h
    rcases Nat.lt_or_ge b 9223372036854775808 with h2 | h2
    · rw [if_neg (by omega)] at h; omega
    · exact h2
  have ek2 : ¬ key64 b < 0 → key64 b = ((b % 9223372036854775808 : Nat) : Int) := fun h => by
    unfold key64 at h ⊢
    split
    · rename_i h3; rw [if_pos h3] at h; omega
    · rfl
  unfold sizV
  rw [e]
  cases hn : nan64 b
  · by_cases hk : key64 b < 0
    · have h1 := ek hk
      obtain ⟨r, hr⟩ : ∃ r, b = 9223372036854775808 + r := ⟨b % 9223372036854775808, by omega⟩
      have hlt : r < 9223372036854775808 := by omega
      rw [decide_eq_true hk, Bool.not_false, Bool.true_and, if_pos rfl, flipF_high (hr.trans (wrd_true r).symm) hlt]
      have h2 : r % 9223372036854775808 = b % 9223372036854775808 := by omega
      refine ⟨?_, fun _ => ?_⟩
      · rw [← hn]; unfold nan64; rw [h2]
      · unfold key64; rw [if_neg (by omega), h2]
    · rw [decide_eq_false hk, Bool.and_false, if_neg Bool.false_ne_true]
      exact ⟨hn, fun _ => ek2 hk⟩
  · rw [Bool.not_true, Bool.false_and, if_neg Bool.false_ne_true]
    exact ⟨hn, fun h => by cases h⟩
theorem ge_siz {s x : Nat} (hs : s < 2 ^ 64) (hx : x < 2 ^ 64) : (fgt .f64 (sizV s) (sizV x) || feq .f64 (sizV s) (sizV x)) = keG s x := by
  obtain ⟨a1, a2⟩ := siz_key hs
  obtain ⟨b1, b2⟩ := siz_key hx
  rw [fgt64, feq64, a1, b1]
  unfold keG
  cases h1 : nan64 s
  · cases h2 : nan64 x
    · rw [a2 h1, b2 h2]
      rw [Bool.eq_iff_iff]
      simp
      omega
    · simp
  · simp
end Go.Pst
namespace Go.Proofs.Ytjakjnmfndfehaa
open Go.RowKit Go.Pst Go.ChangeShapes Go.WideShapes Go.ChangeAt Go.Joins Go.Deep
set_option maxRecDepth 20000
set_option linter.unusedSimpArgs false
set_option linter.unusedVariables false
section
attribute [local go_sem] run_fadd run_fsub run_fmul
set_option maxHeartbeats 2000000 in
theorem rkept_any (n c : Nat) (A : Option Addr) (f : Nat → Nat) (w : World) (hA : FlAt w w.heap.size A n f) (hn : n ≤ 65536) (hf : ∀ j, j < n → f j < 2 ^ 64) :
    Calls Try.prog 38 #[.slice A n c] w (TwoPost (arV .add (keS f n) (keL f n)) (keL f n) w) := by
  have HA := Lib.hid hA
  have HSZ := Lib.hid fun b w => rsize_any b w
  have HF := Lib.hid hf
  clear hA hf
  go_enter Try.func38, Try.ntmps38
  go_wp2_with fail
  go_loopw [4, 5, 6] (fun s l t wr => ∃ k S L : Nat, t = .int .i64 k ∧ k ≤ n ∧ Below w.heap.size w wr ∧ s = .float .f64 S ∧ S < 2 ^ 64 ∧ l = .float .f64 L ∧ cn S = cn (keS f k) ∧ cn L = cn (keL f k)) (fun _ _ t _ => n - (intOf t).toNat)
  case atStart => exact ⟨0, 0, 0, rfl, by omega, Below.refl _ _, rfl, by omega, rfl, rfl, rfl⟩
  case round =>
    obtain ⟨k, S, L, rfl, hk, hbw, rfl, hSlt, rfl, hS, hL⟩ := hrel
    have BW := Lib.hid hbw; have HS := Lib.hid hS; have HL := Lib.hid hL
    clear hbw hS hL
    by_cases hkn : k < n
    · have h3 : (k : Int) < (n : Int) := by omega
      obtain ⟨a, o, rfl, ha, hc⟩ := (HA.out.below BW.out (Nat.le_refl _)) (by omega)
      have q := hc k hkn
      have HX := Lib.hid (HF.out k hkn)
      obtain ⟨x, hx⟩ : ∃ x, x = f k := ⟨_, rfl⟩
      rw [← hx] at q HX
      have HXE := Lib.hid hx
      clear hc hx
      go_wp2_with fail
      refine (HSZ.out _ _).mono ?_
      rintro en w' ⟨rfl, rfl⟩
      go_wp2_with fail
      refine (HSZ.out _ _).mono ?_
      rintro en w' ⟨rfl, rfl⟩
      have GE := Lib.hid ((ge_siz hSlt HX.out).trans (keG_cn x HS.out))
      clear hSlt
      go_wp2_with fail
      · have h := ‹fgt .f64 (sizV S) (sizV x) = true ∨ feq .f64 (sizV S) (sizV x) = true›
        have hg : keG (keS f k) x = true := by rw [← GE.out]; rcases h with h | h <;> rw [h] <;> simp
        have h1 : ∀ w, cn (arU .add w S x) = cn (arV .add (keS f k) x) := fun w => arU_of2 HS.out rfl
        have e1 : keS f (k + 1) = arV .add (keS f k) x := by rw [HXE.out]; rfl
        have e2 : keL f (k + 1) = arV .add (keL f k) (arV .add (arV .sub (keS f k) (arV .add (keS f k) x)) x) := by
          rw [HXE.out] at hg ⊢; rw [keL_succ]
          rw [hg, if_pos rfl]
        have E1 := Lib.hid e1; have E2 := Lib.hid e2; have H1 := Lib.hid h1
        clear e1 e2 h1 hg h
        go_roundw
        case rel => exact ⟨k + 1, _, _, by go_num, by omega, wIf_below _ _ (wIf_below _ _ (wIf_below _ _ (wIf_below _ _ BW.out))), rfl, arU_lt _ _ _ _, rfl, by rw [E1.out]; exact H1.out _, by rw [E2.out]; exact arU_of2 HL.out (arU_of2 (arU_of2 HS.out (H1.out _)) rfl)⟩
        case measure => (simp [intOf] <;> omega)
      · have h := ‹fgt .f64 (sizV S) (sizV x) = false ∧ feq .f64 (sizV S) (sizV x) = false›
        have hg : keG (keS f k) x = false := by rw [← GE.out, h.1, h.2]; rfl
        have h1 : ∀ w, cn (arU .add w S x) = cn (arV .add (keS f k) x) := fun w => arU_of2 HS.out rfl
        have e1 : keS f (k + 1) = arV .add (keS f k) x := by rw [HXE.out]; rfl
        have e2 : keL f (k + 1) = arV .add (keL f k) (arV .add (arV .sub x (arV .add (keS f k) x)) (keS f k)) := by
          rw [HXE.out] at hg ⊢; rw [keL_succ]
          rw [hg, if_neg Bool.false_ne_true]
        have E1 := Lib.hid e1; have E2 := Lib.hid e2; have H1 := Lib.hid h1
        clear e1 e2 h1 hg h
        go_roundw
        case rel => exact ⟨k + 1, _, _, by go_num, by omega, wIf_below _ _ (wIf_below _ _ (wIf_below _ _ (wIf_below _ _ BW.out))), rfl, arU_lt _ _ _ _, rfl, by rw [E1.out]; exact H1.out _, by rw [E2.out]; exact arU_of2 HL.out (arU_of2 (arU_of2 rfl (H1.out _)) HS.out)⟩
        case measure => (simp [intOf] <;> omega)
    · obtain rfl : k = n := by omega
      go_wp2_with fail
      go_ret2
      exact ⟨_, _, rfl, arU_of HS.out HL.out, HL.out.trans (keL_cn f k), wIf_below _ _ BW.out⟩
end
set_option maxHeartbeats 4000000 in
theorem totalKeeps_walk (n c : Nat) (A : Option Addr) (f : Nat → Nat) (a b : Nat) (w : World) (hN : n ≤ 17592186044416) (hf : ∀ j, j < n → f j < 2 ^ 64) (hA : FlAt w w.heap.size A n f) :
    Calls Try.prog 8 #[.slice A n c, .float .f64 a, .float .f64 b] w fun en w' => en = .returned (.bool true) ∧ Below w.heap.size w w' := by
  have AW := Lib.hid fun w => awake_any w
  by_cases hn : n ≤ 65536
  · have hn1 : ¬ (n : Int) > 65536 := by omega
    have hn2 : ¬ 65536 < (n : Int) := by omega
    have HA := Lib.hid hA
    have HSS := Lib.hid fun a b w h => psame_any a b w h
    have HK := Lib.hid (kept_any n c A f w hA hn hf)
    have HRK := Lib.hid fun w hA => rkept_any n c A f w hA hn hf
    have HT := Lib.hid fun w => two_any a b w
    have HRT := Lib.hid fun w => rtwo_any a b w
    have HP := Lib.hid fun w => split_any a w
    have HRP := Lib.hid fun w => rsplit_any a w
    generalize arV .add (keS f n) (keL f n) = v1 at *
    generalize keL f n = v2 at *
    generalize twS a b = v3 at *
    generalize twL a b = v4 at *
    generalize arV .sub a (spH a) = v6 at *
    generalize spH a = v5 at *
    clear hA hf hn
    go_enter Try.func8, Try.ntmps8
    go_wp2_with fail
    refine HK.out.mono ?_
    rintro en w2 ⟨x, y, rfl, hx, hy, hb2⟩
    have HX := Lib.hid hx; have HY := Lib.hid hy; have B2 := Lib.hid hb2
    clear hx hy hb2
    go_wp2_with fail
    refine (HRK.out _ ((HA.out.below B2.out (Nat.le_refl _)).more B2.out.size)).mono ?_
    rintro en w3 ⟨m, k, rfl, hm, hk, hb3⟩
    have E1 := Lib.hid (HX.out.trans hm.symm); have E2 := Lib.hid (HY.out.trans hk.symm); have B3 := Lib.hid (B2.out.trans (hb3.mono B2.out.size))
    clear hm hk hb3
    go_wp2_with fail
    refine (HT.out _).mono ?_
    rintro en w4 ⟨p, q, rfl, hp, hq, hb4⟩
    have HP3 := Lib.hid hp; have HQ := Lib.hid hq; have B4 := Lib.hid (B3.out.trans (hb4.mono B3.out.size))
    clear hp hq hb4
    go_wp2_with fail
    refine (HRT.out _).mono ?_
    rintro en w5 ⟨r, s, rfl, hr, hs, hb5⟩
    have E3 := Lib.hid (HP3.out.trans hr.symm); have E4 := Lib.hid (HQ.out.trans hs.symm); have B5 := Lib.hid (B4.out.trans (hb5.mono B4.out.size))
    clear hr hs hb5
    go_wp2_with fail
    refine (HP.out _).mono ?_
    rintro en w6 ⟨t, u, rfl, ht, hu, hb6⟩
    have HT6 := Lib.hid ht; have HU := Lib.hid hu; have B6 := Lib.hid (B5.out.trans (hb6.mono B5.out.size))
    clear ht hu hb6
    go_wp2_with fail
    refine (HRP.out _).mono ?_
    rintro en w7 ⟨v, z, rfl, hv, hz, hb7⟩
    have E5 := Lib.hid (HT6.out.trans hv.symm); have E6 := Lib.hid (HU.out.trans hz.symm); have B7 := Lib.hid (B6.out.trans (hb7.mono B6.out.size))
    clear hv hz hb7
    go_wp2_with fail
    refine (AW.out _).mono ?_
    rintro en w8 ⟨rfl, hb8⟩
    have B8 := Lib.hid (B7.out.trans (hb8.mono B7.out.size))
    clear hb8
    go_wp2_with fail
    refine (HSS.out _ _ _ E1.out).mono ?_
    rintro en w9 ⟨rfl, rfl⟩
    go_wp2_with fail
    refine (HSS.out _ _ _ E2.out).mono ?_
    rintro en w9 ⟨rfl, rfl⟩
    go_wp2_with fail
    refine (HSS.out _ _ _ E3.out).mono ?_
    rintro en w9 ⟨rfl, rfl⟩
    go_wp2_with fail
    refine (HSS.out _ _ _ E4.out).mono ?_
    rintro en w9 ⟨rfl, rfl⟩
    go_wp2_with fail
    refine (HSS.out _ _ _ E5.out).mono ?_
    rintro en w9 ⟨rfl, rfl⟩
    go_wp2_with fail
    refine (HSS.out _ _ _ E6.out).mono ?_
    rintro en w9 ⟨rfl, rfl⟩
    go_wp2_with fail
    go_ret
    exact ⟨rfl, B8.out⟩
  · have hn1 : (n : Int) > 65536 := by omega
    have hn2 : 65536 < (n : Int) := by omega
    clear hA hf hn
    go_enter Try.func8, Try.ntmps8
    go_wp2_with fail
    refine (AW.out _).mono ?_
    rintro en w2 ⟨rfl, hb2⟩
    have B2 := Lib.hid hb2
    clear hb2
    go_wp2_with fail
    go_ret
    exact ⟨rfl, B2.out⟩

theorem f64_wf {y : Nat} (h : (Lit.float .f64 y).wf = true) : y < 2 ^ 64 := by
  simpa [Lit.wf] using h

theorem totalKeeps_own : ownKnob Try.prog.godebug = none := by kernel_rfl
theorem totalKeeps_laid : laidOutB Try.prog = true := by kernel_rfl
theorem totalKeeps_types : ∀ t ∈ ([22, 24, 24] : List TypeId), Try.prog.readableRec t = true ∧ t < Try.prog.types.size := by
  simp only [List.mem_cons, List.not_mem_nil, or_false, forall_eq_or_imp, forall_eq]
  exact ⟨⟨by kernel_rfl, of_decide_eq_true (by kernel_rfl)⟩, ⟨by kernel_rfl, of_decide_eq_true (by kernel_rfl)⟩, ⟨by kernel_rfl, of_decide_eq_true (by kernel_rfl)⟩⟩
set_option maxRecDepth 100000 in
theorem totalKeeps_lifted (os : Os) (started : os.Started) (H : Type) (enc : TypeId × Value → H) :
    ReturnsInHanded {} Try.checked os 8 .any (Rows.totalKeepsSpec.pre6 enc Try.prog Try.f8 Rows.totalKeepsRow.domain false) (Rows.totalKeepsSpec.post enc Try.prog Try.f8 false true false false) := by
  refine returnsInHanded_of_change_sized (C := Try.checked) totalKeeps_own started (by kernel_rfl) Try.func8
    (ChangeSpec.witness6 (enc := enc) (C := Try.checked) false ⟨#[], #[.slice none 0 0, .float .f64 0, .float .f64 0], []⟩ 8 (by kernel_rfl) (by kernel_rfl) (by kernel_rfl) (by kernel_rfl)) ?_
  intro W base args ds gs before hval0 hW hcnd hsz hholds
  have hval : ∀ (j : Nat) t v, Try.f8.params[j]? = some t → args[j]? = some v → Value.okWide Try.prog W .any base t v := hval0
  have hW' := hW
  obtain ⟨p, q, hA0, hV, rfl, hfz, hnd⟩ := hW
  have hA : DataW.TrodAll enc Try.prog W 0 (fun _ => true) true Try.f8.params.toList args.toList ds p := hA0
  obtain ⟨rfl, rfl⟩ := trodVars_none hV
  have hpost : ∀ W', Below W.heap.size W W' → Rows.totalKeepsSpec.post enc Try.prog Try.f8 false true false false W args (.bool true) W' := fun W' hb => by
    have hlen : ds.length = 3 := by have hh := hA; rw [Try.params8] at hh; obtain ⟨_, _, d0, ds0, _, _, _, rfl, _, _, hh⟩ := trodAll_cons hh; obtain ⟨_, _, d1, ds1, _, _, _, rfl, _, _, hh⟩ := trodAll_cons hh; obtain ⟨_, _, d2, ds2, _, _, _, rfl, _, _, hh⟩ := trodAll_cons hh; obtain ⟨_, rfl, _⟩ := trodAll_nil hh; simp
    obtain ⟨e0, e1, e2, rfl⟩ : ∃ e0 e1 e2, ds = [e0, e1, e2] := by match ds, hlen with | [e0, e1, e2], _ => exact ⟨e0, e1, e2, rfl⟩
    exact law_post totalKeeps_laid rfl hW' (by rw [Try.params8]; exact totalKeeps_types) (tb := 4) (by kernel_rfl) Try.underlying4 rfl rfl rfl hb
  rw [Try.params8] at hA hval
  obtain ⟨v0, vs0, d0, ds0, p0, q0, hargs, rfl, rfl, h0, r0⟩ := trodAll_cons hA
  obtain ⟨v1, vs1, d1, ds1, p1, q1, rfl, rfl, rfl, h1, r1⟩ := trodAll_cons r0
  obtain ⟨v2, vs2, d2, ds2, p2, q2, rfl, rfl, rfl, h2, r2⟩ := trodAll_cons r1
  obtain ⟨rfl, rfl, rfl⟩ := trodAll_nil r2
  obtain rfl : args = #[v0, v1, v2] := by cases args; simp_all
  obtain ⟨A, n, c, y, rfl, hsd, hAt, hy⟩ := open_floats Try.underlying22 Try.underlying24 (by kernel_rfl) (hval 0 22 v0 rfl rfl) h0
  obtain ⟨a, rfl, rfl, rfl, w1⟩ := open_float Try.underlying24 (hval 1 24 v1 rfl rfl) h1
  obtain ⟨b, rfl, rfl, rfl, w2⟩ := open_float Try.underlying24 (hval 2 24 v2 rfl rfl) h2
  have hlen := sized_list (j := 0) (t := 22) hsz (by kernel_rfl) rfl Try.underlying22 hsd
  rw [show Try.checked.prog.bytesOf 24 = 8 by kernel_rfl] at hlen
  have := reachBytes_lt
  refine (totalKeeps_walk n c A y a b W (by omega) (fun j hj => f64_wf (hy j hj)) hAt).mono fun e W' ⟨he, hg⟩ => ?_
  subst he
  exact ⟨_, rfl, hpost _ hg⟩

theorem totalKeeps_holds : Rows.TotalKeepsSaid :=
  OpenClaim.holds_of_wide 8 Try.f8 rfl rfl rfl rfl rfl rfl rfl ⟨rfl, rfl, rfl, rfl, rfl⟩ rfl rfl rfl rfl rfl (by kernel_rfl) Try.func8 (by kernel_rfl)
    (of_decide_eq_true (by kernel_rfl)) (by unfold Func.isWrapper; first | (rw [if_pos (by decide +kernel)]; kernel_rfl) | (rw [if_neg (by decide +kernel)]; exact ⟨rfl, rfl⟩))
    (fun os started H enc _ => totalKeeps_lifted os started H enc)
#print axioms totalKeeps_holds

end Go.Proofs.Ytjakjnmfndfehaa

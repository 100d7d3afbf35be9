/- Sums in order, in both sizes, by halves, of all beginnings: the law TotalSums returns true for every input and leaves its lists as they were. No condition. -/
import Derived.Test.YtjakjnmfndfehaaUh
import Derived.Test.YtjakjnmfndfehaaOq
namespace Go.Proofs.Ytjakjnmfndfehaa
open Go.RowKit Go.Pst Go.ChangeShapes Go.WideShapes Go.ChangeAt Go.Joins Go.Deep
set_option maxRecDepth 20000
set_option linter.unusedSimpArgs false
set_option linter.unusedVariables false
theorem wid_here (c : Nat) (w : World) : Sem.run Try.prog (convert 48 24 (.float .f32 c)) w = .ok (.float .f64 (widU w c)) (wIf (widD c).isNone w) :=
  run_wid _ _ _ _ _ (by kernel_rfl) Try.underlying24
section
attribute [local go_sem] wid_here
set_option maxHeartbeats 4000000 in
theorem totalSums_walk (n c m d : Nat) (A M : Option Addr) (f g : Nat → Nat) (w : World) (hN : n ≤ 17592186044416) (hM : m ≤ 1000000000000000) (hnc : n ≤ c) (hA : FlAt w w.heap.size A n f) (hm : ListAt w w.heap.size M m (fun i => .float .f32 (g i))) :
    Calls Try.prog 9 #[.slice A n c, .slice M m d] w fun en w' => en = .returned (.bool true) ∧ Below w.heap.size w w' := by
  have AW := Lib.hid fun w => awake_any w
  have HA := Lib.hid hA
  by_cases hn : n ≤ 65536 ∧ m ≤ 65536
  · obtain ⟨n1, m1⟩ := hn
    have hn1 : ¬ (n : Int) > 65536 := by omega
    have hn2 : ¬ 65536 < (n : Int) := by omega
    have hm1 : ¬ (m : Int) > 65536 := by omega
    have hm2 : ¬ 65536 < (m : Int) := by omega
    have HSS := Lib.hid fun a b w h => psame_any a b w h
    have HMM := Lib.hid hm
    clear hm hA
    go_enter Try.func9, Try.ntmps9
    go_wp2_with (at_builtin
                 refine wpList_twin w rfl _ _ rfl rfl rfl A n c f rfl HA.out hN ?_
                 intro TB tc w1 htc ft hb1
                 have FT := Lib.hid ft
                 have B1 := Lib.hid hb1
                 clear ft hb1)
    have T1 := Lib.hid (Below.refl w1.heap.size w1)
    have FA1 := Lib.hid ((HA.out.below B1.out (Nat.le_refl _)).more B1.out.size)
    have FM1 := Lib.hid ((HMM.out.below B1.out (Nat.le_refl _)).more B1.out.size)
    refine (sum_any n c A f w1 FA1.out n1).mono ?_
    rintro en w2 ⟨a, rfl, hu, hb⟩
    have UA := Lib.hid hu
    have T2 := Lib.hid (T1.out.trans (hb.mono T1.out.size))
    clear hu hb
    go_wp2_with fail
    refine (sum32_any m d M g w2 ((FM1.out.below T2.out (Nat.le_refl _)).more T2.out.size) m1).mono ?_
    rintro en w3 ⟨b, rfl, hu, hb⟩
    have UB := Lib.hid hu
    have T3 := Lib.hid (T2.out.trans (hb.mono T2.out.size))
    clear hu hb
    go_wp2_with fail
    refine (halvesA_any n c A f w3 ((FA1.out.below T3.out (Nat.le_refl _)).more T3.out.size) n1 hnc).mono ?_
    rintro en w4 ⟨h, rfl, hu, hb⟩
    have UH := Lib.hid hu
    have T4 := Lib.hid (T3.out.trans (hb.mono T3.out.size))
    clear hu hb
    go_wp2_with fail
    refine (prefix_any n c A f w4 ((FA1.out.below T4.out (Nat.le_refl _)).more T4.out.size) n1).mono ?_
    rintro en w5 ⟨PB, pc, y, rfl, hpc, fp, hy, hb⟩
    have FP := Lib.hid fp; have HY := Lib.hid hy
    have B5 := Lib.hid (T4.out.trans (hb.mono T4.out.size))
    have T5 := Lib.hid (Below.refl w5.heap.size w5)
    clear fp hy hb
    have FM5 := Lib.hid ((FM1.out.below B5.out (Nat.le_refl _)).more B5.out.size)
    have FT5 := Lib.hid ((FT.out.below B5.out (Nat.le_refl _)).more B5.out.size)
    have FA5 := Lib.hid ((FA1.out.below B5.out (Nat.le_refl _)).more B5.out.size)
    go_wp2_with fail
    refine (rsum32_any m d M g w5 FM5.out m1).mono ?_
    rintro en w6 ⟨b2, rfl, hu, hb⟩
    have UB2 := Lib.hid hu
    have T6 := Lib.hid (T5.out.trans (hb.mono T5.out.size))
    clear hu hb
    go_wp2_with fail
    refine (AW.out _).mono ?_
    rintro en w7 ⟨rfl, hb⟩
    have T7 := Lib.hid (T6.out.trans (hb.mono T6.out.size))
    clear hb
    go_wp2_with fail
    refine (rsum_any n tc TB f w7 ((FT5.out.below T7.out (Nat.le_refl _)).more T7.out.size) n1).mono ?_
    rintro en w8 ⟨a2, rfl, hu, hb⟩
    have UA2 := Lib.hid hu
    have T8 := Lib.hid (T7.out.trans (hb.mono T7.out.size))
    clear hu hb
    go_wp2_with fail
    refine (HSS.out _ _ _ (UA.out.trans UA2.out.symm)).mono ?_
    rintro en w99 ⟨rfl, rfl⟩
    go_wp2_with fail
    refine (HSS.out _ _ _ ((is32_wid _ UB.out).trans (is32_wid _ UB2.out).symm)).mono ?_
    rintro en w99 ⟨rfl, rfl⟩
    go_wp2_with fail
    have T9 := Lib.hid (wIf_below (widD b2).isNone _ (wIf_below (widD b).isNone _ T8.out))
    generalize wIf (widD b2).isNone (wIf (widD b).isNone w8) = w9 at T9 ⊢
    refine (rhalves_any 65536 n tc TB f w9 n1 htc n1 ((FT5.out.below T9.out (Nat.le_refl _)).more T9.out.size)).mono ?_
    rintro en w10 ⟨h2, rfl, hu, hb⟩
    have UH2 := Lib.hid hu
    have T10 := Lib.hid (T9.out.trans (hb.mono T9.out.size))
    clear hu hb
    go_wp2_with fail
    refine (HSS.out _ _ _ (UH.out.trans UH2.out.symm)).mono ?_
    rintro en w99 ⟨rfl, rfl⟩
    go_wp2_with fail
    clear AW
    go_loopw [15] (fun t wr => ∃ k : Nat, t = .int .i64 k ∧ k ≤ n ∧ Below w5.heap.size w5 wr) (fun t _ => n - (intOf t).toNat)
    case atStart => exact ⟨0, rfl, by omega, T10.out⟩
    case round =>
      obtain ⟨k, rfl, hk, hbw⟩ := hrel
      have BW := Lib.hid hbw
      clear hbw
      by_cases hkn : k < n
      · have h3 : (k : Int) < (n : Int) := by omega
        have h0 : (0 : Int) ≤ (k : Int) := by omega
        have h4 : (k : Int) + 1 ≤ (tc : Int) := by omega
        have h5 : (0 : Int) ≤ (k : Int) + 1 := by omega
        have h6 : ((k : Int) + 1).toNat = k + 1 := by omega
        have h7 : wrap64 ((k : Int) + 1) = (k : Int) + 1 := by unfold wrap64; omega
        have HFK := Lib.hid (flat_first (m := k + 1) (FT5.out.below BW.out (Nat.le_refl _)) (by omega))
        have HSUM := Lib.hid fun w' (hb : Below wr.heap.size wr w') => rsum_any (k + 1) tc TB f w' ((HFK.out.below hb BW.out.size).more (Nat.le_trans BW.out.size hb.size)) (by omega)
        obtain ⟨b9, o9, rfl, hbb, hc2⟩ := (FP.out.below BW.out (Nat.le_refl _)) (by omega)
        have q := hc2 k hkn
        have HYK := Lib.hid (HY.out k hkn)
        clear hc2
        generalize y k = z at q HYK
        generalize keS f (k + 1) = V at HYK HSUM
        have hbl : b9 < wr.heap.size := Nat.lt_of_lt_of_le hbb BW.out.size
        go_wp2_with fail
        refine Reg.wp_region_rn [111] (by kernel_rfl) (by kernel_rfl) (fun _ => ?_)
        repeat (refine Reg.op0e Reg.rn_class (fun _ _ => trivial) rfl rfl rfl ?_; apply Exists.intro; apply And.intro; (intro w' hb; have hc := Reg.rd_cells hb; clear hb; go_simp; (try go_bits); first | done | (with_reducible exact rfl)); (intro a' ha'; simp only [Act.put, List.setIfInBounds_toArray, List.set_cons_zero, List.set_cons_succ] at ha'; subst ha'))
        refine Reg.op0 Reg.rn_class (fun _ _ => trivial) rfl rfl rfl ⟨.float .f64 (V), ?_, ?_⟩
        · intro w' hb; have hbw := Lib.hid hb; have hc := Reg.rd_cells hb; clear hb; go_simp; exact ⟨rfl, (HSUM.out _ hbw.out).mono fun en w'' ⟨u, e1, e2, e3⟩ => ⟨_, e1, .inr ⟨rfl, veq_of_cn e2⟩, e3⟩⟩
        intro a' ha'; simp only [Act.put, List.setIfInBounds_toArray, List.set_cons_zero, List.set_cons_succ] at ha'; subst ha'
        refine Reg.op1 Reg.rn_class (fun _ _ => trivial) rfl rfl 111 _ rfl rfl ⟨.bool true, ?_, ?_⟩
        · intro u1 g1 w' hb; obtain ⟨y1, rfl, f1⟩ := cn_of_veq g1; clear g1; have hbw := Lib.hid hb; clear hb; have F1 := Lib.hid f1; clear f1; simp only [Act.put, List.setIfInBounds_toArray, List.set_cons_zero, List.set_cons_succ]; go_simp; have f1 := F1.out; exact ⟨rfl, (HSS.out z y1 _ (HYK.out.trans f1.symm)).mono fun en w'' ⟨e1, e2⟩ => ⟨_, e1, .inl rfl, by rw [← e2]; exact Below.refl _ _⟩⟩
        intro a' ha'; simp only [Act.put, List.setIfInBounds_toArray, List.set_cons_zero, List.set_cons_succ] at ha'; subst ha'
        repeat (refine Reg.op0e Reg.rn_class (fun _ _ => trivial) rfl rfl rfl ?_; apply Exists.intro; apply And.intro; (intro w' hb; have hc := Reg.rd_cells hb; clear hb; go_simp; (try go_bits); first | done | (with_reducible exact rfl)); (intro a' ha'; simp only [Act.put, List.setIfInBounds_toArray, List.set_cons_zero, List.set_cons_succ] at ha'; subst ha'))
        refine Reg.rn_endv [(111, .float .f64 (V))] rfl (fun wz hb => ?_)
        refine ⟨rfl, fun u hu => ?_⟩
        obtain ⟨z111, rfl, k111⟩ := cn_of_veq hu; clear hu
        simp only [Reg.endv, Act.put, List.setIfInBounds_toArray, List.set_cons_zero, List.set_cons_succ]
        have BW2 := Lib.hid (BW.out.trans (hb.mono BW.out.size))
        clear hb
        go_wp2_with fail
        go_roundw
        case rel => exact ⟨k + 1, by go_num, by omega, BW2.out⟩
        case measure => (simp [intOf] <;> omega)
      · obtain rfl : k = n := by omega
        go_wp2_with fail
        refine (bits_any k c tc A TB f f wr ((FA5.out.below BW.out (Nat.le_refl _)).more BW.out.size) ((FT5.out.below BW.out (Nat.le_refl _)).more BW.out.size) (by omega) (fun _ _ => rfl)).mono ?_
        rintro en w98 ⟨rfl, hb⟩
        have BZ := Lib.hid ((B1.out.trans ((B5.out.trans (BW.out.mono B5.out.size)).mono B1.out.size)).trans (hb.mono (Nat.le_trans B1.out.size (Nat.le_trans B5.out.size BW.out.size))))
        clear hb
        go_wp2_with fail
        go_ret
        exact ⟨rfl, BZ.out⟩
  · clear hm
    by_cases n1 : 65536 < n
    · have hn1 : (n : Int) > 65536 := by omega
      have hn2 : 65536 < (n : Int) := by omega
      clear hn
      go_enter Try.func9, Try.ntmps9
      go_wp2_with (at_builtin
                   refine wpList_twin w rfl _ _ rfl rfl rfl A n c f rfl HA.out hN ?_
                   intro TB tc w1 htc ft hb1
                   have FT := Lib.hid ft
                   have B1 := Lib.hid hb1
                   clear ft hb1)
      refine (AW.out _).mono ?_
      rintro en w2 ⟨rfl, hb2⟩
      have B2 := Lib.hid (B1.out.trans (hb2.mono B1.out.size))
      clear hb2
      go_wp2_with fail
      go_ret
      exact ⟨rfl, B2.out⟩
    · have hn1 : ¬ (n : Int) > 65536 := by omega
      have hn2 : ¬ 65536 < (n : Int) := by omega
      have hm1 : (m : Int) > 65536 := by omega
      have hm2 : 65536 < (m : Int) := by omega
      clear hn
      go_enter Try.func9, Try.ntmps9
      go_wp2_with (at_builtin
                   refine wpList_twin w rfl _ _ rfl rfl rfl A n c f rfl HA.out hN ?_
                   intro TB tc w1 htc ft hb1
                   have FT := Lib.hid ft
                   have B1 := Lib.hid hb1
                   clear ft hb1)
      refine (AW.out _).mono ?_
      rintro en w2 ⟨rfl, hb2⟩
      have B2 := Lib.hid (B1.out.trans (hb2.mono B1.out.size))
      clear hb2
      go_wp2_with fail
      go_ret
      exact ⟨rfl, B2.out⟩
end

theorem totalSums_own : ownKnob Try.prog.godebug = none := by kernel_rfl
theorem totalSums_laid : laidOutB Try.prog = true := by kernel_rfl
theorem totalSums_types : ∀ t ∈ ([22, 47] : List TypeId), Try.prog.readableRec t = true ∧ t < Try.prog.types.size := by
  simp only [List.mem_cons, List.not_mem_nil, or_false, forall_eq_or_imp, forall_eq]
  exact ⟨⟨by kernel_rfl, of_decide_eq_true (by kernel_rfl)⟩, ⟨by kernel_rfl, of_decide_eq_true (by kernel_rfl)⟩⟩
set_option maxRecDepth 100000 in
theorem totalSums_lifted (os : Os) (started : os.Started) (H : Type) (enc : TypeId × Value → H) :
    ReturnsInHanded {} Try.checked os 9 .any (Rows.totalSumsSpec.pre6 enc Try.prog Try.f9 Rows.totalSumsRow.domain false) (Rows.totalSumsSpec.post enc Try.prog Try.f9 false true false false) := by
  refine returnsInHanded_of_change_sized (C := Try.checked) totalSums_own started (by kernel_rfl) Try.func9
    (ChangeSpec.witness6 (enc := enc) (C := Try.checked) false ⟨#[], #[.slice none 0 0, .slice none 0 0], []⟩ 8 (by kernel_rfl) (by kernel_rfl) (by kernel_rfl) (by kernel_rfl)) ?_
  intro W base args ds gs before hval0 hW hcnd hsz hholds
  have hval : ∀ (j : Nat) t v, Try.f9.params[j]? = some t → args[j]? = some v → Value.okWide Try.prog W .any base t v := hval0
  have hW' := hW
  obtain ⟨p, q, hA0, hV, rfl, hfz, hnd⟩ := hW
  have hA : DataW.TrodAll enc Try.prog W 0 (fun _ => true) true Try.f9.params.toList args.toList ds p := hA0
  obtain ⟨rfl, rfl⟩ := trodVars_none hV
  have hpost : ∀ W', Below W.heap.size W W' → Rows.totalSumsSpec.post enc Try.prog Try.f9 false true false false W args (.bool true) W' := fun W' hb => by
    have hlen : ds.length = 2 := by have hh := hA; rw [Try.params9] at hh; obtain ⟨_, _, d0, ds0, _, _, _, rfl, _, _, hh⟩ := trodAll_cons hh; obtain ⟨_, _, d1, ds1, _, _, _, rfl, _, _, hh⟩ := trodAll_cons hh; obtain ⟨_, rfl, _⟩ := trodAll_nil hh; simp
    obtain ⟨e0, e1, rfl⟩ : ∃ e0 e1, ds = [e0, e1] := by match ds, hlen with | [e0, e1], _ => exact ⟨e0, e1, rfl⟩
    exact law_post totalSums_laid rfl hW' (by rw [Try.params9]; exact totalSums_types) (tb := 4) (by kernel_rfl) Try.underlying4 rfl rfl rfl hb
  rw [Try.params9] at hA hval
  obtain ⟨v0, vs0, d0, ds0, p0, q0, hargs, rfl, rfl, h0, r0⟩ := trodAll_cons hA
  obtain ⟨v1, vs1, d1, ds1, p1, q1, rfl, rfl, rfl, h1, r1⟩ := trodAll_cons r0
  obtain ⟨rfl, rfl, rfl⟩ := trodAll_nil r1
  obtain rfl : args = #[v0, v1] := by cases args; simp_all
  obtain ⟨A, n, c, y, rfl, hsd, hAt, hy⟩ := open_floats Try.underlying22 Try.underlying24 (by kernel_rfl) (hval 0 22 v0 rfl rfl) h0
  have hnc := len_cap Try.underlying22 h0
  obtain ⟨M, m, d, g, rfl, hsd1, hMt, hg⟩ := open_floats Try.underlying47 Try.underlying48 (by kernel_rfl) (hval 1 47 v1 rfl rfl) h1
  have hlen := sized_list (j := 0) (t := 22) hsz (by kernel_rfl) rfl Try.underlying22 hsd
  rw [show Try.checked.prog.bytesOf 24 = 8 by kernel_rfl] at hlen
  have hlen1 := sized_list (j := 1) (t := 47) hsz (by kernel_rfl) rfl Try.underlying47 hsd1
  rw [show Try.checked.prog.bytesOf 48 = 4 by kernel_rfl] at hlen1
  have := reachBytes_lt
  refine (totalSums_walk n c m d A M y g W (by omega) (by omega) hnc hAt hMt).mono fun e W' ⟨he, hg⟩ => ?_
  subst he
  exact ⟨_, rfl, hpost _ hg⟩

theorem totalSums_holds : Rows.TotalSumsSaid :=
  OpenClaim.holds_of_wide 9 Try.f9 rfl rfl rfl rfl rfl rfl rfl ⟨rfl, rfl, rfl, rfl, rfl⟩ rfl rfl rfl rfl rfl (by kernel_rfl) Try.func9 (by kernel_rfl)
    (of_decide_eq_true (by kernel_rfl)) (by unfold Func.isWrapper; first | (rw [if_pos (by decide +kernel)]; kernel_rfl) | (rw [if_neg (by decide +kernel)]; exact ⟨rfl, rfl⟩))
    (fun os started H enc _ => totalSums_lifted os started H enc)
#print axioms totalSums_holds

end Go.Proofs.Ytjakjnmfndfehaa

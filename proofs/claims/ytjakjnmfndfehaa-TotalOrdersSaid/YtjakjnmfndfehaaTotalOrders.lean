/- The exact sum has no order: the law TotalOrders returns true for every input and leaves its list as it was. No condition. -/
import Derived.Test.YtjakjnmfndfehaaUd
import Derived.Test.YtjakjnmfndfehaaOq
namespace Go.Proofs.Ytjakjnmfndfehaa
open Go.RowKit Go.Pst Go.ChangeShapes Go.WideShapes Go.ChangeAt Go.Joins Go.Deep
set_option maxRecDepth 20000
set_option linter.unusedSimpArgs false
set_option linter.unusedVariables false

set_option maxHeartbeats 4000000 in
theorem totalOrders_walk (n c : Nat) (at' : Int) (A : Option Addr) (f : Nat → Nat) (w : World) (hnc : n ≤ c) (hN : n ≤ 17592186044416) (hf : ∀ j, j < n → f j < 2 ^ 64) (hA : FlAt w w.heap.size A n f) :
    Calls Try.prog 4 #[.slice A n c, .int .i64 at'] w fun en w' => en = .returned (.bool true) ∧ Below w.heap.size w w' := by
  obtain ⟨j0, hj0, hy0, hy1, hy2⟩ := info_parts infoNum
  have J0 := Lib.hid hj0; have J1 := Lib.hid hy0; have J2 := Lib.hid hy1; have J3 := Lib.hid hy2
  clear hj0 hy0 hy1 hy2
  have AW := Lib.hid fun w => awake_any w
  by_cases hn : 1 ≤ n ∧ n ≤ 1000 ∧ 0 ≤ at'
  · obtain ⟨n1, n2, h0⟩ := hn
    have hn1 : ¬ (n : Int) < 1 := by omega
    have hn2 : ¬ (n : Int) > 1000 := by omega
    have hn3 : ¬ 1000 < (n : Int) := by omega
    have hn4 : ¬ at' < 0 := by omega
    have hn5 : ¬ (n : Int) = 0 := by omega
    have HA := Lib.hid hA
    have HEX := Lib.hid fun A c w hA => exact_any n c A f w hA (by omega) hf
    have HF := Lib.hid hf
    clear hA hf
    go_enter Try.func4, Try.ntmps4
    go_wp2_with fail
    go_loopw [5, 6] (fun lv t wr => ∃ (k : Nat) (v : Value), t = .int .i64 ((n : Int) - 1 - (k : Int)) ∧ k ≤ n ∧ v = lv ∧ wr.ownsRow w.heap.size 24 1 v k (nums (fun i => f (n - 1 - i)) k) ∧ Below w.heap.size w wr) (fun _ t _ => (intOf t + 1).toNat)
    case atStart => exact ⟨0, _, by simp, by omega, rfl, World.ownsRow_made _ #[] 0 (Nat.le_refl _) (by simp [maxLen]) rfl, (Below.refl _ _).alloc (Nat.le_refl _) _⟩
    case round =>
      obtain ⟨k, v, rfl, hk, rfl, hown, hbw⟩ := hrel
      have OD := Lib.hid hown; have BW := Lib.hid hbw; have SZ := hbw.size
      clear hown hbw
      by_cases hkn : k < n
      · obtain ⟨i, hi⟩ : ∃ i : Nat, (n : Int) - 1 - (k : Int) = (i : Int) := ⟨n - 1 - k, by omega⟩
        rw [hi]
        have h3 : (i : Int) < (n : Int) := by omega
        have h00 : (0 : Int) ≤ (i : Int) := by omega
        obtain ⟨g, off, rfl, hg, hc⟩ := (HA.out.below BW.out (Nat.le_refl _)) (by omega)
        have q := hc i (by omega)
        have hfi : f i = f (n - 1 - k) := by rw [show i = n - 1 - k by omega]
        rw [hfi] at q
        have hrel2 : (i : Int) - 1 = (n : Int) - 1 - ((k + 1 : Nat) : Int) := by omega
        have HR2 := Lib.hid hrel2
        have NX := Lib.hid (nums_next (fun i => f (n - 1 - i)) k)
        clear hc hi hfi hrel2
        go_wp2_with (at_builtin
                     refine wpList_append_lies _ rfl _ _ _ rfl w.heap.size 24 j0 _ 1 8 Try.underlying22 J0.out J1.out J2.out J3.out rfl (by omega) v k (nums (fun i => f (n - 1 - i)) k) rfl (OD.out.alloc _) ⟨wr.heap.size, 0, none⟩ 1 1 [.float .f64 (f (n - 1 - k))] rfl rfl (World.news_of_block (heap_alloc_new _ _)) (by simp [Value.oneCell']) (by omega) (by unfold maxLen; omega) (by omega) (by simp; omega) (wr.heap.size + 1) (by simp) ?_
                     intro g' cap' w1 hown1 hgrow hat hlt
                     have ORN := Lib.hid hown1
                     have HGR := Lib.hid hgrow
                     clear hown1 hgrow hat)
        have hal := (Below.refl wr.heap.size wr).alloc (Nat.le_refl _) (.cells #[.float .f64 (f (n - 1 - k))] 24)
        have hrl := OD.out.lt
        have BWN := Lib.hid ((BW.out.trans (hal.mono BW.out.size)).grown HGR.out (by simp; omega) (fun q e => by have h2 := (hrl _ e).1; omega))
        clear hal hrl
        go_wp2_with fail
        go_roundw
        case rel => exact ⟨k + 1, _, by rw [HR2.out], by omega, rfl, by rw [← NX.out]; exact ORN.out, BWN.out⟩
        case measure => (simp [intOf] <;> omega)
      · obtain rfl : k = n := by omega
        have hl : (k : Int) - 1 - (k : Int) < 0 := by omega
        go_wp2_with fail
        obtain ⟨VB, vc, rfl, fv⟩ := flat_of OD.out
        have FV := Lib.hid fv
        clear fv
        refine Reg.wp_region_perm [1, 2, 3, 5, 6, 7] [0, 4, 8, 9] (by kernel_rfl) (by kernel_rfl) (by intro _ _ d _ _ h; cases d <;> exact h) ?_
        simp only [Reg.pick, List.drop_succ_cons, List.drop_zero, List.take_succ_cons, List.take_zero, List.cons_append, List.nil_append]
        have hm0 : 0 ≤ at' % (k : Int) := Int.emod_nonneg _ (by omega)
        have hm1 : at' % (k : Int) < (k : Int) := Int.emod_lt_of_pos _ (by omega)
        generalize at' % (k : Int) = m at *
        obtain ⟨a, rfl⟩ := Int.eq_ofNat_of_zero_le hm0
        have hak : (a : Int) ≤ (k : Int) := by omega
        have hkc : (k : Int) ≤ (c : Int) := by omega
        have hac : (a : Int) ≤ (c : Int) := by omega
        have hac2 : ¬ c = a := by omega
        obtain ⟨g, off, rfl, hg, hcl⟩ := HA.out (by omega)
        have HG := Lib.hid hg; have HC := Lib.hid hcl
        clear hg hcl
        repeat (refine Reg.held_op rfl ?_; apply Exists.intro; apply And.intro; (intro w' _; go_simp; first | done | (with_reducible exact rfl)); (intro a' ha'; simp only [Act.put, List.setIfInBounds_toArray, List.set_cons_zero, List.set_cons_succ] at ha'; subst ha'))
        refine Reg.held_end ?_
        show wpList _ _ _ _ _ _
        go_wp2_with (at_builtin
                     first
                     | (refine wpList_floats wr _ rfl _ _ rfl rfl ((Below.refl wr.heap.size wr).alloc (Nat.le_refl _) _).drew _ 0 f rfl (World.ownsRow_made (e := 24) (size := 1) wr #[] 0 (Nat.le_refl _) (by simp [maxLen]) rfl) (some ⟨g, off + a, none⟩) (k - a) (c - a) w.heap.size (fun i => f (a + i)) rfl (fun _ => ⟨g, off + a, rfl, HG.out, fun i hi => by rw [Nat.add_assoc]; exact ((BW.out.alloc SZ _).drew.cell (p := ⟨g, off + (a + i), none⟩) HG.out).trans (HC.out (a + i) (by omega))⟩) (by omega) ?_
                        intro v1 w1 ho1 hb1
                        have O1 := Lib.hid ho1
                        have B1 := Lib.hid hb1
                        clear ho1 hb1)
                     | (refine wpList_floats wr _ rfl _ _ rfl rfl B1.out _ _ _ rfl O1.out (some ⟨g, off, none⟩) a c w.heap.size f rfl (fun _ => ⟨g, off, rfl, HG.out, fun i hi => ((BW.out.trans (B1.out.mono SZ)).cell (p := ⟨g, off + i, none⟩) HG.out).trans (HC.out i (by omega))⟩) (by omega) ?_
                        intro v2 w2 ho2 hb2
                        obtain ⟨B2, c2, rfl, fv2⟩ := flat_of ho2
                        have F2 := Lib.hid fv2
                        have B2' := Lib.hid hb2
                        clear ho2 hb2 fv2)
                     | (refine wpList_floats w2 _ rfl _ _ rfl rfl ((Below.refl w2.heap.size w2).alloc (Nat.le_refl _) _) _ 0 f rfl (World.ownsRow_made (e := 24) (size := 1) w2 #[] 0 (Nat.le_refl _) (by simp [maxLen]) rfl) (some ⟨g, off, none⟩) k c w.heap.size f rfl (fun _ => ⟨g, off, rfl, HG.out, fun i hi => ((((BW.out.trans (B2'.out.mono SZ)).alloc (Nat.le_trans SZ B2'.out.size) _)).cell (p := ⟨g, off + i, none⟩) HG.out).trans (HC.out i (by omega))⟩) (by omega) ?_
                        intro v3 w3 ho3 hb3
                        have O3 := Lib.hid ho3
                        have B3 := Lib.hid hb3
                        clear ho3 hb3)
                     | (go_loud (refine wpList_floats w2 _ rfl _ _ rfl rfl (B3.out.alloc B3.out.size _) _ _ _ rfl (O3.out.alloc _) (some ⟨w3.heap.size, 0, none⟩) 2 2 (w3.heap.size + 1) (fun i => if i = 0 then 0 else 0) rfl (flat_two w3 24 0 0) (by omega) ?_)
                        intro v4 w4 ho4 hb4
                        obtain ⟨B4, c4, rfl, fv4⟩ := flat_of ho4
                        have F4 := Lib.hid fv4
                        have B4' := Lib.hid hb4
                        clear ho4 hb4 fv4))
        have e1 : exactV (fun i => f (k - 1 - i)) k = exactV f k := exact_back f k
        have hfb : ∀ j, j < k → f j < 2 ^ 64 := HF.out
        have B24 := Lib.hid ((BW.out.trans (B2'.out.mono SZ)).trans (B4'.out.mono (Nat.le_trans SZ B2'.out.size)))
        have BV := Lib.hid (B2'.out.trans (B4'.out.mono B2'.out.size))
        refine (exact_any k c _ f w4 ((FlAt.below (fun _ => ⟨g, off, rfl, HG.out, HC.out⟩) B24.out (Nat.le_refl _)).more B24.out.size) (by omega) hfb).mono ?_
        rintro en w5 ⟨rfl, hb5⟩
        have B5 := Lib.hid hb5
        clear hb5 hfb
        go_wp2_with fail
        have BV5 := Lib.hid (BV.out.trans (B5.out.mono BV.out.size))
        refine (exact_any k vc _ (fun i => f (k - 1 - i)) w5 ((FV.out.below BV5.out (Nat.le_refl _)).more BV5.out.size) (by omega) (fun j hj => HF.out _ (by omega))).mono ?_
        rintro en w6 ⟨rfl, hb6⟩
        rw [e1]
        have B6 := Lib.hid hb6
        clear hb6
        go_wp2_with fail
        have B26 := Lib.hid ((B4'.out.trans (B5.out.mono B4'.out.size)).trans (B6.out.mono (B4'.out.trans (B5.out.mono B4'.out.size)).size))
        obtain ⟨G2, hg2⟩ : ∃ G2 : Nat → Nat, G2 = joinR (joinR f 0 fun i => f (a + i)) (0 + (k - a)) f := ⟨_, rfl⟩
        have g2a : ∀ i, i < k - a → G2 i = f (a + i) := fun i hi => by
          rw [hg2]; unfold joinR; rw [if_pos (by omega), if_neg (by omega), Nat.sub_zero]
        have g2b : ∀ i, i < a → G2 (k - a + i) = f i := fun i hi => by
          rw [hg2]; unfold joinR; rw [if_neg (by omega)]; congr 1; omega
        have e2 : exactV G2 k = exactV f k := exact_turn (by omega) g2a g2b
        have f2 := F2.out
        rw [← hg2] at f2
        rw [show 0 + (k - a) + a = k by omega] at f2
        rw [show k - a + a = k by omega]
        have hgf : ∀ j, j < k → G2 j < 2 ^ 64 := fun j hj => by
          rcases Nat.lt_or_ge j (k - a) with h | h
          · rw [g2a j h]; exact HF.out _ (by omega)
          · rw [show j = k - a + (j - (k - a)) by omega, g2b _ (by omega)]; exact HF.out _ (by omega)
        refine (exact_any k c2 _ G2 w6 ((f2.below B26.out (Nat.le_refl _)).more B26.out.size) (by omega) hgf).mono ?_
        rintro en w7 ⟨rfl, hb7⟩
        rw [e2]
        have B7 := Lib.hid hb7
        clear hb7 f2 g2a g2b e2 hgf hg2 e1
        go_wp2_with fail
        have B47 := Lib.hid ((B5.out.trans (B6.out.mono B5.out.size)).trans (B7.out.mono (B5.out.trans (B6.out.mono B5.out.size)).size))
        obtain ⟨G4, hg4⟩ : ∃ G4 : Nat → Nat, G4 = joinR (joinR f 0 f) (0 + k) (fun i => if i = 0 then 0 else 0) := ⟨_, rfl⟩
        have g4a : ∀ i, i < k → G4 i = f i := fun i hi => by
          rw [hg4]; unfold joinR; rw [if_pos (by omega), if_neg (by omega), Nat.sub_zero]
        have g4b : ∀ i, k ≤ i → G4 i = 0 := fun i hi => by
          rw [hg4]; unfold joinR; rw [if_neg (by omega)]; simp
        have f4 := F4.out
        rw [← hg4] at f4
        rw [show 0 + k + 2 = k + 2 by omega] at f4
        have hgf : ∀ j, j < k + 2 → G4 j < 2 ^ 64 := fun j hj => by
          rcases Nat.lt_or_ge j k with h | h
          · rw [g4a j h]; exact HF.out _ (by omega)
          · rw [g4b _ h]; decide
        have HX := Lib.hid (exact_nought g4a (g4b k (Nat.le_refl _)) (g4b (k + 1) (by omega)))
        refine (exact_any (k + 2) c4 _ G4 w7 ((f4.below B47.out (Nat.le_refl _)).more B47.out.size) (by omega) hgf).mono ?_
        rintro en w8 ⟨rfl, hb8⟩
        have B8 := Lib.hid hb8
        clear hb8 f4 g4a g4b hgf hg4
        generalize exactV G4 (k + 2) = y at HX ⊢
        generalize exactV f k = x at HX ⊢
        go_wp2_with fail
        have HSS := Lib.hid fun a b w h => psame_any a b w h
        have BF := Lib.hid (B24.out.trans ((B47.out.trans (B8.out.mono B47.out.size)).mono B24.out.size))
        refine (AW.out _).mono ?_
        rintro en w9 ⟨rfl, hb9⟩
        have B9 := Lib.hid (BF.out.trans (hb9.mono BF.out.size))
        clear hb9
        rcases HX.out with hx | ⟨hx1, hx2⟩
        · clear HX
          go_wp2_with fail
          refine (HSS.out _ _ _ rfl).mono ?_
          rintro en w10 ⟨rfl, rfl⟩
          go_wp2_with fail
          refine (HSS.out _ _ _ rfl).mono ?_
          rintro en w10 ⟨rfl, rfl⟩
          go_wp2_with fail
          go_ret
          exact ⟨rfl, B9.out⟩
        · clear HX
          have hx3 : feq .f64 x y = false := by rw [feq64, hx1]; rfl
          have hx4 : feq .f64 x x = false := by rw [feq64, hx1]; rfl
          have hx5 : feq .f64 y y = false := by rw [feq64, hx2]; rfl
          have hx6 : fne .f64 y y = true := by have h := hx5; unfold feq at h; unfold fne; simp only [bne, h, Bool.not_false]
          have hx7 : fne .f64 x x = true := by have h := hx4; unfold feq at h; unfold fne; simp only [bne, h, Bool.not_false]
          clear hx1 hx2
          go_wp2_with fail
          refine (HSS.out _ _ _ rfl).mono ?_
          rintro en w10 ⟨rfl, rfl⟩
          go_wp2_with fail
          refine (HSS.out _ _ _ rfl).mono ?_
          rintro en w10 ⟨rfl, rfl⟩
          go_wp2_with fail
          go_ret
          exact ⟨rfl, B9.out⟩
  · clear hA hf
    by_cases n1 : n = 0
    · subst n1
      have hn1 : (((0 : Nat) : Int)) < 1 := by omega
      clear hn
      go_enter Try.func4, Try.ntmps4
      go_wp2_with fail
      refine (AW.out _).mono ?_
      rintro en w2 ⟨rfl, hb2⟩
      have B2 := Lib.hid hb2
      clear hb2
      go_wp2_with fail
      go_ret
      exact ⟨rfl, B2.out⟩
    · have hn1 : ¬ (n : Int) < 1 := by omega
      by_cases n2 : 1000 < n
      · have hn2 : (n : Int) > 1000 := by omega
        have hn3 : 1000 < (n : Int) := by omega
        clear hn n1 n2
        go_enter Try.func4, Try.ntmps4
        go_wp2_with fail
        refine (AW.out _).mono ?_
        rintro en w2 ⟨rfl, hb2⟩
        have B2 := Lib.hid hb2
        clear hb2
        go_wp2_with fail
        go_ret
        exact ⟨rfl, B2.out⟩
      · have hn2 : ¬ (n : Int) > 1000 := by omega
        have hn3 : ¬ 1000 < (n : Int) := by omega
        have hn4 : at' < 0 := by omega
        clear hn n1 n2
        go_enter Try.func4, Try.ntmps4
        go_wp2_with fail
        refine (AW.out _).mono ?_
        rintro en w2 ⟨rfl, hb2⟩
        have B2 := Lib.hid hb2
        clear hb2
        go_wp2_with fail
        go_ret
        exact ⟨rfl, B2.out⟩

theorem totalOrders_own : ownKnob Try.prog.godebug = none := by kernel_rfl
theorem totalOrders_laid : laidOutB Try.prog = true := by kernel_rfl
theorem totalOrders_types : ∀ t ∈ ([22, 3] : List TypeId), Try.prog.readableRec t = true ∧ t < Try.prog.types.size := by
  simp only [List.mem_cons, List.not_mem_nil, or_false, forall_eq_or_imp, forall_eq]
  exact ⟨⟨by kernel_rfl, of_decide_eq_true (by kernel_rfl)⟩, ⟨by kernel_rfl, of_decide_eq_true (by kernel_rfl)⟩⟩
set_option maxRecDepth 100000 in
theorem totalOrders_lifted (os : Os) (started : os.Started) (H : Type) (enc : TypeId × Value → H) :
    ReturnsInHanded {} Try.checked os 4 .any (Rows.totalOrdersSpec.pre6 enc Try.prog Try.f4 Rows.totalOrdersRow.domain false) (Rows.totalOrdersSpec.post enc Try.prog Try.f4 false true false false) := by
  refine returnsInHanded_of_change_sized (C := Try.checked) totalOrders_own started (by kernel_rfl) Try.func4
    (ChangeSpec.witness6 (enc := enc) (C := Try.checked) false ⟨#[], #[.slice none 0 0, .int .i64 0], []⟩ 8 (by kernel_rfl) (by kernel_rfl) (by kernel_rfl) (by kernel_rfl)) ?_
  intro W base args ds gs before hval0 hW hcnd hsz hholds
  have hval : ∀ (j : Nat) t v, Try.f4.params[j]? = some t → args[j]? = some v → Value.okWide Try.prog W .any base t v := hval0
  have hW' := hW
  obtain ⟨p, q, hA0, hV, rfl, hfz, hnd⟩ := hW
  have hA : DataW.TrodAll enc Try.prog W 0 (fun _ => true) true Try.f4.params.toList args.toList ds p := hA0
  obtain ⟨rfl, rfl⟩ := trodVars_none hV
  have hpost : ∀ W', Below W.heap.size W W' → Rows.totalOrdersSpec.post enc Try.prog Try.f4 false true false false W args (.bool true) W' := fun W' hb => by
    have hlen : ds.length = 2 := by have hh := hA; rw [Try.params4] at hh; obtain ⟨_, _, d0, ds0, _, _, _, rfl, _, _, hh⟩ := trodAll_cons hh; obtain ⟨_, _, d1, ds1, _, _, _, rfl, _, _, hh⟩ := trodAll_cons hh; obtain ⟨_, rfl, _⟩ := trodAll_nil hh; simp
    obtain ⟨e0, e1, rfl⟩ : ∃ e0 e1, ds = [e0, e1] := by match ds, hlen with | [e0, e1], _ => exact ⟨e0, e1, rfl⟩
    exact law_post totalOrders_laid rfl hW' (by rw [Try.params4]; exact totalOrders_types) (tb := 4) (by kernel_rfl) Try.underlying4 rfl rfl rfl hb
  rw [Try.params4] at hA hval
  obtain ⟨v0, vs0, d0, ds0, p0, q0, hargs, rfl, rfl, h0, r0⟩ := trodAll_cons hA
  obtain ⟨v1, vs1, d1, ds1, p1, q1, rfl, rfl, rfl, h1, r1⟩ := trodAll_cons r0
  obtain ⟨rfl, rfl, rfl⟩ := trodAll_nil r1
  obtain rfl : args = #[v0, v1] := by cases args; simp_all
  obtain ⟨A, n, c, y, rfl, hsd, hAt, hy⟩ := open_floats Try.underlying22 Try.underlying24 (by kernel_rfl) (hval 0 22 v0 rfl rfl) h0
  have hnc := len_cap Try.underlying22 h0
  obtain ⟨m, rfl, rfl, rfl, w1⟩ := open_int Try.underlying3 (hval 1 3 v1 rfl rfl) h1
  have hlen := sized_list (j := 0) (t := 22) hsz (by kernel_rfl) rfl Try.underlying22 hsd
  rw [show Try.checked.prog.bytesOf 24 = 8 by kernel_rfl] at hlen
  have := reachBytes_lt
  refine (totalOrders_walk n c m A y W hnc (by omega) (fun j hj => f64_wf (hy j hj)) hAt).mono fun e W' ⟨he, hg⟩ => ?_
  subst he
  exact ⟨_, rfl, hpost _ hg⟩

theorem totalOrders_holds : Rows.TotalOrdersSaid :=
  OpenClaim.holds_of_wide 4 Try.f4 rfl rfl rfl rfl rfl rfl rfl ⟨rfl, rfl, rfl, rfl, rfl⟩ rfl rfl rfl rfl rfl (by kernel_rfl) Try.func4 (by kernel_rfl)
    (of_decide_eq_true (by kernel_rfl)) (by unfold Func.isWrapper; first | (rw [if_pos (by decide +kernel)]; kernel_rfl) | (rw [if_neg (by decide +kernel)]; exact ⟨rfl, rfl⟩))
    (fun os started H enc _ => totalOrders_lifted os started H enc)
#print axioms totalOrders_holds

end Go.Proofs.Ytjakjnmfndfehaa

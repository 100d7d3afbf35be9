/- Every Minimum, Maximum and Least is what the document says: the law RealExtremes returns true for every input. No condition. -/
import Derived.Test.YtpemchghaddgdaaOw
import Derived.Test.YtpemchghaddgdaaOp
namespace Go.Proofs.Ytpemchghaddgdaa
open Go.RowKit Go.Pst Go.ChangeShapes Go.WideShapes Go.ChangeAt Go.Joins Go.Deep
set_option maxRecDepth 100000
set_option linter.unusedSimpArgs false
set_option linter.unusedVariables false
attribute [local go_sem] x64bits x64from

theorem feq_self (x : Nat) : feq .f64 x x = !nan64 x := by rw [feq64]; cases nan64 x <;> simp

theorem keyT_inj {a b : Nat} (h : keyT a = keyT b) : a = b := by unfold keyT at h; (repeat' split at h) <;> omega

theorem minT_nan {a b : Nat} (h : (nan64 a || nan64 b) = true) : nan64 (minT a b) = true := by
  unfold minT
  cases ha : nan64 a
  · rw [ha] at h
    simp only [Bool.false_or] at h
    rw [if_neg (by simp), h, if_pos rfl]; exact h
  · rw [if_pos rfl]; exact ha
theorem maxT_nan {a b : Nat} (h : (nan64 a || nan64 b) = true) : nan64 (maxT a b) = true := by
  unfold maxT
  cases ha : nan64 a
  · rw [ha] at h
    simp only [Bool.false_or] at h
    rw [if_neg (by simp), h, if_pos rfl]; exact h
  · rw [if_pos rfl]; exact ha


theorem nums_step (y : Nat → Nat) (k : Nat) : nums y k ++ [.float .f64 (y k)] = nums y (k + 1) := by
  rw [nums_succ]; unfold nums; apply List.map_congr_left; intro j hj; show Value.float .f64 (if j = k then y k else y j) = _; by_cases h : j = k
  · rw [if_pos h, h]
  · rw [if_neg h]




theorem floats_of {w : World} {base n : Nat} {e : TypeId} {v : Value} {y : Nat → Nat} (h : w.ownsRow base e 1 v n (nums y n)) : ∃ B cb, v = .slice B n cb ∧ FloatsAt w B n y := by
  rcases h.2 with ⟨h1, h2⟩ | ⟨g, cap, cur, h1, h2, h3, h4⟩
  · subst h2; exact ⟨none, 0, h1, fun h => by omega⟩
  · subst h1
    exact ⟨_, _, rfl, fun _ => ⟨g, rfl, (Array.getElem?_eq_some_iff.1 h3).1, fun i hi => own_cell h (nums_get y hi)⟩⟩

theorem floats_below {w w' : World} {A : Option Addr} {n : Nat} {y : Nat → Nat} (h : FloatsAt w A n y) (hb : Below w.heap.size w w') : FloatsAt w' A n y := fun hn => by
  obtain ⟨g, e, h1, h2⟩ := h hn
  exact ⟨g, e, Nat.lt_of_lt_of_le h1 hb.size, fun i hi => by rw [hb.cell (p := ⟨g, i, none⟩) h1]; exact h2 i hi⟩

set_option maxHeartbeats 4000000 in
theorem realExtremes_walk (a n c : Nat) (A : Option Addr) (y : Nat → Nat) (w : World) (ha : a < 2 ^ 64) (hy : ∀ i, i < n → y i < 2 ^ 64) (hn : n * 8 ≤ 140737488355328) (hA : ListAt w w.heap.size A n fun i => .int .u64 ((y i : Nat) : Int)) :
    Calls Try.prog 9 #[.int .u64 a, .slice A n c] w fun en w' => en = .returned (.bool true) ∧ Below w.heap.size w w' := by
  obtain ⟨j0, hj0, hy0, hy1, hy2⟩ := info_parts infoNum
  have J0 := Lib.hid hj0; have J1 := Lib.hid hy0; have J2 := Lib.hid hy1; have J3 := Lib.hid hy2
  clear hj0 hy0 hy1 hy2
  have HA := Lib.hid hA; have HY := Lib.hid hy; clear hA hy
  go_enter Try.func9, Try.ntmps9
  go_wp2_with fail
  refine (awake_any _).mono ?_
  rintro en w2 ⟨rfl, hb2⟩
  have B2 := Lib.hid hb2; clear hb2
  go_wp2_with fail
  go_loopw [6, 7, 8, 27] (fun lv bv pv t wr => ∃ (k : Nat) (v : Value), t = .int .i64 k ∧ k ≤ n ∧ v = lv ∧ bv = .int .u64 ((leastT a y k).1 : Nat) ∧ pv = .int .i64 ((leastT a y k).2 : Nat) ∧ wr.ownsRow w.heap.size 26 1 v k (nums y k) ∧ Below w.heap.size w wr) (fun _ _ _ t _ => n - (intOf t).toNat)
  case atStart => exact ⟨0, _, rfl, by omega, rfl, rfl, rfl, ⟨rfl, .inl ⟨rfl, rfl⟩⟩, B2.out⟩
  case round =>
    obtain ⟨k, v, rfl, hk, rfl, rfl, rfl, hown, hbw⟩ := hrel
    have OD := Lib.hid hown; have BW := Lib.hid hbw; have SZ := hbw.size
    clear hown hbw
    obtain ⟨l, hl⟩ : ∃ l, l = leastT a y k := ⟨_, rfl⟩
    rw [← hl]
    have l1 : l.1 < 2 ^ 64 := by rw [hl]; exact leastT_lt ha k fun i hi => HY.out i (by omega)
    by_cases hkn : k < n
    · obtain ⟨g, off, rfl, hg, hc⟩ := (HA.out.below BW.out (Nat.le_refl _)) (by omega)
      have q := hc k hkn
      clear hc
      have hk1 : (k : Int) < (n : Int) := by omega
      have yk := HY.out k hkn
      have K1 := Lib.hid fun w => rkey_any (y k) w yk
      have K2 := Lib.hid fun w => rkey_any l.1 w l1
      have K3 := Lib.hid fun w => rkey_any a w ha
      have M1 := fun w => minimum_any a (y k) w ha yk
      have M2 := fun w => maximum_any a (y k) w ha yk
      have HLT : Hid (leastT a y (k + 1) = if keyT (y k) < keyT l.1 then (y k, k + 1) else l) := Lib.hid (by rw [leastT, ← hl])
      have e1 := fne_self a
      have e2 := fne_self (y k)
      have hin : keyT a = keyT (y k) → a = y k := keyT_inj
      have mn := minT_nan (a := a) (b := y k)
      have mx := maxT_nan (a := a) (b := y k)
      have m1 : nan64 a = false → nan64 (y k) = false → minT a (y k) = if keyT a ≤ keyT (y k) then a else y k := fun h1 h2 => by unfold minT; rw [h1, h2]; rfl
      have m2 : nan64 a = false → nan64 (y k) = false → maxT a (y k) = if keyT (y k) ≤ keyT a then a else y k := fun h1 h2 => by unfold maxT; rw [h1, h2]; rfl
      generalize minT a (y k) = lo at *
      generalize maxT a (y k) = hi at *
      have e3 := feq_self lo
      have e4 := feq_self hi
      generalize nan64 a = na at *
      generalize nan64 (y k) = nb at *
      generalize keyT (y k) = kb at *
      generalize keyT l.1 = kl at *
      generalize keyT a = ka at *
      clear hl yk l1
      cases na
      · cases nb
        · replace m1 := m1 rfl rfl
          replace m2 := m2 rfl rfl
          clear mn mx
          rcases (by omega : ka < kb ∨ ka = kb ∨ kb < ka) with h3 | h3 | h3
          · rw [if_pos (by omega)] at m1
            rw [if_neg (by omega)] at m2
            have m1' := m1.symm; have m2' := m2.symm; clear m1 m2; subst m1' m2'
            clear hin e3 e4
            have M1 := Lib.hid M1; have M2 := Lib.hid M2
            have h4 : ¬ kb < ka := by omega
            by_cases h : kb < kl
            · have HS : Hid (leastT a y (k + 1) = (y k, k + 1)) := Lib.hid (by rw [HLT.out, if_pos h])
              go_wp2_with (at_builtin
                           refine wpList_append_lies _ rfl _ _ _ rfl w.heap.size 26 j0 _ 1 8 Try.underlying71 J0.out J1.out J2.out J3.out rfl (by omega) v k (nums y k) rfl (OD.out.alloc _) ⟨wr.heap.size, 0, none⟩ 1 1 [.float .f64 (y k)] rfl rfl (World.news_of_block (heap_alloc_new _ _)) (by simp [Value.oneCell']) (by omega) (by unfold maxLen; omega) (by omega) (by simp; omega) (wr.heap.size + 1) (by simp) ?_
                           intro g' cap' w1 hown1 hgrow hat hlt
                           have ORN := Lib.hid hown1
                           have HGR := Lib.hid hgrow
                           clear hown1 hgrow hat)
              have hal := (Below.refl wr.heap.size wr).alloc (Nat.le_refl _) (.cells #[.float .f64 (y k)] 26)
              have hrl := OD.out.lt
              have BWN := Lib.hid ((BW.out.trans (hal.mono BW.out.size)).grown HGR.out (by simp; omega) (fun q e => by have h2 := (hrl _ e).1; omega))
              clear hal hrl
              rw [nums_step] at ORN
              go_wp2_with (first
                | (go_at_call 38; (first | (with_reducible refine (K1.out _).mono ?_) | (with_reducible refine (K2.out _).mono ?_) | (with_reducible refine (K3.out _).mono ?_)); rintro en w' ⟨rfl, rfl⟩)
                | (go_at_call 51; (with_reducible refine (M1.out _).mono ?_); rintro en w' ⟨rfl, rfl⟩)
                | (go_at_call 52; (with_reducible refine (M2.out _).mono ?_); rintro en w' ⟨rfl, rfl⟩))
              go_roundw
              case rel => exact ⟨k + 1, _, by go_num, by omega, rfl, by rw [HS.out, ], by rw [HS.out, ]; go_num, ORN.out, BWN.out⟩
              case measure => simp [intOf]; omega
            · have HS : Hid (leastT a y (k + 1) = l) := Lib.hid (by rw [HLT.out, if_neg h])
              go_wp2_with (at_builtin
                           refine wpList_append_lies _ rfl _ _ _ rfl w.heap.size 26 j0 _ 1 8 Try.underlying71 J0.out J1.out J2.out J3.out rfl (by omega) v k (nums y k) rfl (OD.out.alloc _) ⟨wr.heap.size, 0, none⟩ 1 1 [.float .f64 (y k)] rfl rfl (World.news_of_block (heap_alloc_new _ _)) (by simp [Value.oneCell']) (by omega) (by unfold maxLen; omega) (by omega) (by simp; omega) (wr.heap.size + 1) (by simp) ?_
                           intro g' cap' w1 hown1 hgrow hat hlt
                           have ORN := Lib.hid hown1
                           have HGR := Lib.hid hgrow
                           clear hown1 hgrow hat)
              have hal := (Below.refl wr.heap.size wr).alloc (Nat.le_refl _) (.cells #[.float .f64 (y k)] 26)
              have hrl := OD.out.lt
              have BWN := Lib.hid ((BW.out.trans (hal.mono BW.out.size)).grown HGR.out (by simp; omega) (fun q e => by have h2 := (hrl _ e).1; omega))
              clear hal hrl
              rw [nums_step] at ORN
              go_wp2_with (first
                | (go_at_call 38; (first | (with_reducible refine (K1.out _).mono ?_) | (with_reducible refine (K2.out _).mono ?_) | (with_reducible refine (K3.out _).mono ?_)); rintro en w' ⟨rfl, rfl⟩)
                | (go_at_call 51; (with_reducible refine (M1.out _).mono ?_); rintro en w' ⟨rfl, rfl⟩)
                | (go_at_call 52; (with_reducible refine (M2.out _).mono ?_); rintro en w' ⟨rfl, rfl⟩))
              go_roundw
              case rel => exact ⟨k + 1, _, by go_num, by omega, rfl, by rw [HS.out, ], by rw [HS.out, ], ORN.out, BWN.out⟩
              case measure => simp [intOf]; omega
          · rw [if_pos (by omega)] at m1
            rw [if_pos (by omega)] at m2
            have hay := hin h3
            have m1' := m1.symm; have m2' := m2.symm; clear m1 m2; subst m1' m2'
            have M1 := Lib.hid M1; have M2 := Lib.hid M2
            have h4 : ¬ kb < ka := by omega
            have HAY := Lib.hid hay
            have hay2 : ((y k : Int) != (a : Int)) = false := by rw [← hay]; simp
            have hay3 : ((a : Int) != (y k : Int)) = false := by rw [← hay]; simp
            clear hin e3 e4 h3 hay
            by_cases h : kb < kl
            · have HS : Hid (leastT a y (k + 1) = (y k, k + 1)) := Lib.hid (by rw [HLT.out, if_pos h])
              go_wp2_with (at_builtin
                           refine wpList_append_lies _ rfl _ _ _ rfl w.heap.size 26 j0 _ 1 8 Try.underlying71 J0.out J1.out J2.out J3.out rfl (by omega) v k (nums y k) rfl (OD.out.alloc _) ⟨wr.heap.size, 0, none⟩ 1 1 [.float .f64 (y k)] rfl rfl (World.news_of_block (heap_alloc_new _ _)) (by simp [Value.oneCell']) (by omega) (by unfold maxLen; omega) (by omega) (by simp; omega) (wr.heap.size + 1) (by simp) ?_
                           intro g' cap' w1 hown1 hgrow hat hlt
                           have ORN := Lib.hid hown1
                           have HGR := Lib.hid hgrow
                           clear hown1 hgrow hat)
              have hal := (Below.refl wr.heap.size wr).alloc (Nat.le_refl _) (.cells #[.float .f64 (y k)] 26)
              have hrl := OD.out.lt
              have BWN := Lib.hid ((BW.out.trans (hal.mono BW.out.size)).grown HGR.out (by simp; omega) (fun q e => by have h2 := (hrl _ e).1; omega))
              clear hal hrl
              rw [nums_step] at ORN
              go_wp2_with (first
                | (go_at_call 38; (first | (with_reducible refine (K1.out _).mono ?_) | (with_reducible refine (K2.out _).mono ?_) | (with_reducible refine (K3.out _).mono ?_)); rintro en w' ⟨rfl, rfl⟩)
                | (go_at_call 51; (with_reducible refine (M1.out _).mono ?_); rintro en w' ⟨rfl, rfl⟩)
                | (go_at_call 52; (with_reducible refine (M2.out _).mono ?_); rintro en w' ⟨rfl, rfl⟩))
              go_roundw
              case rel => exact ⟨k + 1, _, by go_num, by omega, rfl, by rw [HS.out, ], by rw [HS.out, ]; go_num, ORN.out, BWN.out⟩
              case measure => simp [intOf]; omega
            · have HS : Hid (leastT a y (k + 1) = l) := Lib.hid (by rw [HLT.out, if_neg h])
              go_wp2_with (at_builtin
                           refine wpList_append_lies _ rfl _ _ _ rfl w.heap.size 26 j0 _ 1 8 Try.underlying71 J0.out J1.out J2.out J3.out rfl (by omega) v k (nums y k) rfl (OD.out.alloc _) ⟨wr.heap.size, 0, none⟩ 1 1 [.float .f64 (y k)] rfl rfl (World.news_of_block (heap_alloc_new _ _)) (by simp [Value.oneCell']) (by omega) (by unfold maxLen; omega) (by omega) (by simp; omega) (wr.heap.size + 1) (by simp) ?_
                           intro g' cap' w1 hown1 hgrow hat hlt
                           have ORN := Lib.hid hown1
                           have HGR := Lib.hid hgrow
                           clear hown1 hgrow hat)
              have hal := (Below.refl wr.heap.size wr).alloc (Nat.le_refl _) (.cells #[.float .f64 (y k)] 26)
              have hrl := OD.out.lt
              have BWN := Lib.hid ((BW.out.trans (hal.mono BW.out.size)).grown HGR.out (by simp; omega) (fun q e => by have h2 := (hrl _ e).1; omega))
              clear hal hrl
              rw [nums_step] at ORN
              go_wp2_with (first
                | (go_at_call 38; (first | (with_reducible refine (K1.out _).mono ?_) | (with_reducible refine (K2.out _).mono ?_) | (with_reducible refine (K3.out _).mono ?_)); rintro en w' ⟨rfl, rfl⟩)
                | (go_at_call 51; (with_reducible refine (M1.out _).mono ?_); rintro en w' ⟨rfl, rfl⟩)
                | (go_at_call 52; (with_reducible refine (M2.out _).mono ?_); rintro en w' ⟨rfl, rfl⟩))
              go_roundw
              case rel => exact ⟨k + 1, _, by go_num, by omega, rfl, by rw [HS.out, ], by rw [HS.out, ], ORN.out, BWN.out⟩
              case measure => simp [intOf]; omega
          · rw [if_neg (by omega)] at m1
            rw [if_pos (by omega)] at m2
            have m1' := m1.symm; have m2' := m2.symm; clear m1 m2; subst m1' m2'
            clear hin e3 e4
            have M1 := Lib.hid M1; have M2 := Lib.hid M2
            by_cases h : kb < kl
            · have HS : Hid (leastT a y (k + 1) = (y k, k + 1)) := Lib.hid (by rw [HLT.out, if_pos h])
              go_wp2_with (at_builtin
                           refine wpList_append_lies _ rfl _ _ _ rfl w.heap.size 26 j0 _ 1 8 Try.underlying71 J0.out J1.out J2.out J3.out rfl (by omega) v k (nums y k) rfl (OD.out.alloc _) ⟨wr.heap.size, 0, none⟩ 1 1 [.float .f64 (y k)] rfl rfl (World.news_of_block (heap_alloc_new _ _)) (by simp [Value.oneCell']) (by omega) (by unfold maxLen; omega) (by omega) (by simp; omega) (wr.heap.size + 1) (by simp) ?_
                           intro g' cap' w1 hown1 hgrow hat hlt
                           have ORN := Lib.hid hown1
                           have HGR := Lib.hid hgrow
                           clear hown1 hgrow hat)
              have hal := (Below.refl wr.heap.size wr).alloc (Nat.le_refl _) (.cells #[.float .f64 (y k)] 26)
              have hrl := OD.out.lt
              have BWN := Lib.hid ((BW.out.trans (hal.mono BW.out.size)).grown HGR.out (by simp; omega) (fun q e => by have h2 := (hrl _ e).1; omega))
              clear hal hrl
              rw [nums_step] at ORN
              go_wp2_with (first
                | (go_at_call 38; (first | (with_reducible refine (K1.out _).mono ?_) | (with_reducible refine (K2.out _).mono ?_) | (with_reducible refine (K3.out _).mono ?_)); rintro en w' ⟨rfl, rfl⟩)
                | (go_at_call 51; (with_reducible refine (M1.out _).mono ?_); rintro en w' ⟨rfl, rfl⟩)
                | (go_at_call 52; (with_reducible refine (M2.out _).mono ?_); rintro en w' ⟨rfl, rfl⟩))
              go_roundw
              case rel => exact ⟨k + 1, _, by go_num, by omega, rfl, by rw [HS.out, ], by rw [HS.out, ]; go_num, ORN.out, BWN.out⟩
              case measure => simp [intOf]; omega
            · have HS : Hid (leastT a y (k + 1) = l) := Lib.hid (by rw [HLT.out, if_neg h])
              go_wp2_with (at_builtin
                           refine wpList_append_lies _ rfl _ _ _ rfl w.heap.size 26 j0 _ 1 8 Try.underlying71 J0.out J1.out J2.out J3.out rfl (by omega) v k (nums y k) rfl (OD.out.alloc _) ⟨wr.heap.size, 0, none⟩ 1 1 [.float .f64 (y k)] rfl rfl (World.news_of_block (heap_alloc_new _ _)) (by simp [Value.oneCell']) (by omega) (by unfold maxLen; omega) (by omega) (by simp; omega) (wr.heap.size + 1) (by simp) ?_
                           intro g' cap' w1 hown1 hgrow hat hlt
                           have ORN := Lib.hid hown1
                           have HGR := Lib.hid hgrow
                           clear hown1 hgrow hat)
              have hal := (Below.refl wr.heap.size wr).alloc (Nat.le_refl _) (.cells #[.float .f64 (y k)] 26)
              have hrl := OD.out.lt
              have BWN := Lib.hid ((BW.out.trans (hal.mono BW.out.size)).grown HGR.out (by simp; omega) (fun q e => by have h2 := (hrl _ e).1; omega))
              clear hal hrl
              rw [nums_step] at ORN
              go_wp2_with (first
                | (go_at_call 38; (first | (with_reducible refine (K1.out _).mono ?_) | (with_reducible refine (K2.out _).mono ?_) | (with_reducible refine (K3.out _).mono ?_)); rintro en w' ⟨rfl, rfl⟩)
                | (go_at_call 51; (with_reducible refine (M1.out _).mono ?_); rintro en w' ⟨rfl, rfl⟩)
                | (go_at_call 52; (with_reducible refine (M2.out _).mono ?_); rintro en w' ⟨rfl, rfl⟩))
              go_roundw
              case rel => exact ⟨k + 1, _, by go_num, by omega, rfl, by rw [HS.out, ], by rw [HS.out, ], ORN.out, BWN.out⟩
              case measure => simp [intOf]; omega
        · replace mn := mn rfl
          replace mx := mx rfl
          rw [mn] at e3
          rw [mx] at e4
          clear hin m1 m2 mn mx
          have M1 := Lib.hid M1; have M2 := Lib.hid M2
          by_cases h : kb < kl
          · have HS : Hid (leastT a y (k + 1) = (y k, k + 1)) := Lib.hid (by rw [HLT.out, if_pos h])
            go_wp2_with (at_builtin
                         refine wpList_append_lies _ rfl _ _ _ rfl w.heap.size 26 j0 _ 1 8 Try.underlying71 J0.out J1.out J2.out J3.out rfl (by omega) v k (nums y k) rfl (OD.out.alloc _) ⟨wr.heap.size, 0, none⟩ 1 1 [.float .f64 (y k)] rfl rfl (World.news_of_block (heap_alloc_new _ _)) (by simp [Value.oneCell']) (by omega) (by unfold maxLen; omega) (by omega) (by simp; omega) (wr.heap.size + 1) (by simp) ?_
                         intro g' cap' w1 hown1 hgrow hat hlt
                         have ORN := Lib.hid hown1
                         have HGR := Lib.hid hgrow
                         clear hown1 hgrow hat)
            have hal := (Below.refl wr.heap.size wr).alloc (Nat.le_refl _) (.cells #[.float .f64 (y k)] 26)
            have hrl := OD.out.lt
            have BWN := Lib.hid ((BW.out.trans (hal.mono BW.out.size)).grown HGR.out (by simp; omega) (fun q e => by have h2 := (hrl _ e).1; omega))
            clear hal hrl
            rw [nums_step] at ORN
            go_wp2_with (first
              | (go_at_call 38; (first | (with_reducible refine (K1.out _).mono ?_) | (with_reducible refine (K2.out _).mono ?_) | (with_reducible refine (K3.out _).mono ?_)); rintro en w' ⟨rfl, rfl⟩)
              | (go_at_call 51; (with_reducible refine (M1.out _).mono ?_); rintro en w' ⟨rfl, rfl⟩)
              | (go_at_call 52; (with_reducible refine (M2.out _).mono ?_); rintro en w' ⟨rfl, rfl⟩))
            go_roundw
            case rel => exact ⟨k + 1, _, by go_num, by omega, rfl, by rw [HS.out, ], by rw [HS.out, ]; go_num, ORN.out, BWN.out⟩
            case measure => simp [intOf]; omega
          · have HS : Hid (leastT a y (k + 1) = l) := Lib.hid (by rw [HLT.out, if_neg h])
            go_wp2_with (at_builtin
                         refine wpList_append_lies _ rfl _ _ _ rfl w.heap.size 26 j0 _ 1 8 Try.underlying71 J0.out J1.out J2.out J3.out rfl (by omega) v k (nums y k) rfl (OD.out.alloc _) ⟨wr.heap.size, 0, none⟩ 1 1 [.float .f64 (y k)] rfl rfl (World.news_of_block (heap_alloc_new _ _)) (by simp [Value.oneCell']) (by omega) (by unfold maxLen; omega) (by omega) (by simp; omega) (wr.heap.size + 1) (by simp) ?_
                         intro g' cap' w1 hown1 hgrow hat hlt
                         have ORN := Lib.hid hown1
                         have HGR := Lib.hid hgrow
                         clear hown1 hgrow hat)
            have hal := (Below.refl wr.heap.size wr).alloc (Nat.le_refl _) (.cells #[.float .f64 (y k)] 26)
            have hrl := OD.out.lt
            have BWN := Lib.hid ((BW.out.trans (hal.mono BW.out.size)).grown HGR.out (by simp; omega) (fun q e => by have h2 := (hrl _ e).1; omega))
            clear hal hrl
            rw [nums_step] at ORN
            go_wp2_with (first
              | (go_at_call 38; (first | (with_reducible refine (K1.out _).mono ?_) | (with_reducible refine (K2.out _).mono ?_) | (with_reducible refine (K3.out _).mono ?_)); rintro en w' ⟨rfl, rfl⟩)
              | (go_at_call 51; (with_reducible refine (M1.out _).mono ?_); rintro en w' ⟨rfl, rfl⟩)
              | (go_at_call 52; (with_reducible refine (M2.out _).mono ?_); rintro en w' ⟨rfl, rfl⟩))
            go_roundw
            case rel => exact ⟨k + 1, _, by go_num, by omega, rfl, by rw [HS.out, ], by rw [HS.out, ], ORN.out, BWN.out⟩
            case measure => simp [intOf]; omega
      · replace mn := mn rfl
        replace mx := mx rfl
        rw [mn] at e3
        rw [mx] at e4
        clear hin m1 m2 mn mx
        have M1 := Lib.hid M1; have M2 := Lib.hid M2
        by_cases h : kb < kl
        · have HS : Hid (leastT a y (k + 1) = (y k, k + 1)) := Lib.hid (by rw [HLT.out, if_pos h])
          go_wp2_with (at_builtin
                       refine wpList_append_lies _ rfl _ _ _ rfl w.heap.size 26 j0 _ 1 8 Try.underlying71 J0.out J1.out J2.out J3.out rfl (by omega) v k (nums y k) rfl (OD.out.alloc _) ⟨wr.heap.size, 0, none⟩ 1 1 [.float .f64 (y k)] rfl rfl (World.news_of_block (heap_alloc_new _ _)) (by simp [Value.oneCell']) (by omega) (by unfold maxLen; omega) (by omega) (by simp; omega) (wr.heap.size + 1) (by simp) ?_
                       intro g' cap' w1 hown1 hgrow hat hlt
                       have ORN := Lib.hid hown1
                       have HGR := Lib.hid hgrow
                       clear hown1 hgrow hat)
          have hal := (Below.refl wr.heap.size wr).alloc (Nat.le_refl _) (.cells #[.float .f64 (y k)] 26)
          have hrl := OD.out.lt
          have BWN := Lib.hid ((BW.out.trans (hal.mono BW.out.size)).grown HGR.out (by simp; omega) (fun q e => by have h2 := (hrl _ e).1; omega))
          clear hal hrl
          rw [nums_step] at ORN
          go_wp2_with (first
            | (go_at_call 38; (first | (with_reducible refine (K1.out _).mono ?_) | (with_reducible refine (K2.out _).mono ?_) | (with_reducible refine (K3.out _).mono ?_)); rintro en w' ⟨rfl, rfl⟩)
            | (go_at_call 51; (with_reducible refine (M1.out _).mono ?_); rintro en w' ⟨rfl, rfl⟩)
            | (go_at_call 52; (with_reducible refine (M2.out _).mono ?_); rintro en w' ⟨rfl, rfl⟩))
          go_roundw
          case rel => exact ⟨k + 1, _, by go_num, by omega, rfl, by rw [HS.out, ], by rw [HS.out, ]; go_num, ORN.out, BWN.out⟩
          case measure => simp [intOf]; omega
        · have HS : Hid (leastT a y (k + 1) = l) := Lib.hid (by rw [HLT.out, if_neg h])
          go_wp2_with (at_builtin
                       refine wpList_append_lies _ rfl _ _ _ rfl w.heap.size 26 j0 _ 1 8 Try.underlying71 J0.out J1.out J2.out J3.out rfl (by omega) v k (nums y k) rfl (OD.out.alloc _) ⟨wr.heap.size, 0, none⟩ 1 1 [.float .f64 (y k)] rfl rfl (World.news_of_block (heap_alloc_new _ _)) (by simp [Value.oneCell']) (by omega) (by unfold maxLen; omega) (by omega) (by simp; omega) (wr.heap.size + 1) (by simp) ?_
                       intro g' cap' w1 hown1 hgrow hat hlt
                       have ORN := Lib.hid hown1
                       have HGR := Lib.hid hgrow
                       clear hown1 hgrow hat)
          have hal := (Below.refl wr.heap.size wr).alloc (Nat.le_refl _) (.cells #[.float .f64 (y k)] 26)
          have hrl := OD.out.lt
          have BWN := Lib.hid ((BW.out.trans (hal.mono BW.out.size)).grown HGR.out (by simp; omega) (fun q e => by have h2 := (hrl _ e).1; omega))
          clear hal hrl
          rw [nums_step] at ORN
          go_wp2_with (first
            | (go_at_call 38; (first | (with_reducible refine (K1.out _).mono ?_) | (with_reducible refine (K2.out _).mono ?_) | (with_reducible refine (K3.out _).mono ?_)); rintro en w' ⟨rfl, rfl⟩)
            | (go_at_call 51; (with_reducible refine (M1.out _).mono ?_); rintro en w' ⟨rfl, rfl⟩)
            | (go_at_call 52; (with_reducible refine (M2.out _).mono ?_); rintro en w' ⟨rfl, rfl⟩))
          go_roundw
          case rel => exact ⟨k + 1, _, by go_num, by omega, rfl, by rw [HS.out, ], by rw [HS.out, ], ORN.out, BWN.out⟩
          case measure => simp [intOf]; omega
    · obtain rfl : k = n := by omega
      have hk1 : ¬ (k : Int) < (k : Int) := by omega
      obtain ⟨B, cb, rfl, hF⟩ := floats_of OD.out
      have HL := Lib.hid fun w hF => leastOf_any a k cb B y w ha HY.out (by omega) hF
      have IS := Lib.hid fun w => is_any l.1 l.1 w l1
      have hi1 : isN l.1 l.1 = true := by unfold isN; cases h : nan64 l.1 <;> simp
      rw [← hl] at HL
      have hF0 := Lib.hid hF
      clear hF hl l1 OD
      obtain ⟨l, p⟩ := l
      simp only at HL IS hi1
      rw [hi1] at IS
      clear hi1
      go_wp2_with fail
      refine (HL.out _ hF0.out).mono ?_
      rintro en w3 ⟨rfl, hb3⟩
      have B3 := Lib.hid (BW.out.trans (hb3.mono SZ))
      have F3 := Lib.hid (floats_below hF0.out hb3)
      clear hb3 HL hF0 BW
      go_wp2_with fail
      go_loopw [96] (fun t wr => ∃ i : Nat, t = .int .i64 i ∧ i ≤ k ∧ FloatsAt wr B k y ∧ Below w.heap.size w wr) (fun t _ => k - (intOf t).toNat)
      case atStart => exact ⟨0, rfl, by omega, F3.out, B3.out⟩
      case round =>
        clear F3 B3
        obtain ⟨i, rfl, hik, hF, hbw⟩ := hrel
        have F3 := Lib.hid hF; have B3 := Lib.hid hbw; clear hF hbw
        by_cases hi : i < k
        · have hi1 : (i : Int) < (k : Int) := by omega
          have hi0 : (0 : Int) ≤ (i : Int) := by omega
          obtain ⟨g, off, rfl, hg, hc⟩ := (HA.out.below B3.out (Nat.le_refl _)) (by omega)
          obtain ⟨g2, rfl, hg2, hc2⟩ := F3.out (by omega)
          have q := hc i hi
          have q2 := hc2 i hi
          clear hc hc2
          go_wp2_with fail
          refine Reg.wp_region_rd (by kernel_rfl) (by kernel_rfl) (fun _ => ?_)
          repeat (refine Reg.rd_op rfl ?_; apply Exists.intro; apply And.intro; (intro w' hb; have hc := Reg.rd_cells hb; clear hb; go_simp; (try go_bits); first | done | (with_reducible exact rfl)); (intro _ a' ha'; simp only [Act.put, List.setIfInBounds_toArray, List.set_cons_zero, List.set_cons_succ] at ha'; subst ha'))
          repeat (refine Reg.rd_skip rfl ?_; intro a' ha'; simp only [Act.put, List.setIfInBounds_toArray, List.set_cons_zero, List.set_cons_succ] at ha'; subst ha')
          repeat (refine Reg.rd_op rfl ?_; apply Exists.intro; apply And.intro; (intro w' hb; have hc := Reg.rd_cells hb; clear hb; go_simp; (try go_bits); first | done | (with_reducible exact rfl)); (intro _ a' ha'; simp only [Act.put, List.setIfInBounds_toArray, List.set_cons_zero, List.set_cons_succ] at ha'; subst ha'))
          refine Reg.rd_end (fun wz hb => ?_)
          have F4 := Lib.hid (floats_below F3.out hb)
          have B4 := Lib.hid (B3.out.trans (hb.mono B3.out.size))
          clear hb q q2
          go_wp2_with fail
          go_roundw
          case rel => exact ⟨i + 1, by go_num, by omega, F4.out, B4.out⟩
          case measure => simp [intOf]; omega
        · have hi1 : ¬ (i : Int) < (k : Int) := by omega
          go_wp2_with (go_at_call 32; refine (IS.out _).mono ?_; rintro en w5 ⟨rfl, hb5⟩)
          go_ret
          exact ⟨by simp, B3.out.trans (hb5.mono B3.out.size)⟩

theorem realExtremes_own : ownKnob Try.prog.godebug = none := by kernel_rfl
theorem realExtremes_laid : laidOutB Try.prog = true := by kernel_rfl
theorem realExtremes_types : ∀ t ∈ ([22, 70] : List TypeId), Try.prog.readableRec t = true ∧ t < Try.prog.types.size := by
  simp only [List.mem_cons, List.not_mem_nil, or_false, forall_eq_or_imp, forall_eq]
  exact ⟨⟨by kernel_rfl, of_decide_eq_true (by kernel_rfl)⟩, ⟨by kernel_rfl, of_decide_eq_true (by kernel_rfl)⟩⟩
set_option maxRecDepth 100000 in
theorem realExtremes_lifted (os : Os) (started : os.Started) (H : Type) (enc : TypeId × Value → H) :
    ReturnsInHanded {} Try.checked os 9 .any (Rows.realExtremesSpec.pre6 enc Try.prog Try.f9 Rows.realExtremesRow.domain false) (Rows.realExtremesSpec.post enc Try.prog Try.f9 false true false false) := by
  refine returnsInHanded_of_change_sized (C := Try.checked) realExtremes_own started (by kernel_rfl) Try.func9
    (ChangeSpec.witness6 (enc := enc) (C := Try.checked) false ⟨#[], #[.int .u64 0, .slice none 0 0], []⟩ 8 (by kernel_rfl) (by kernel_rfl) (by kernel_rfl) (by kernel_rfl)) ?_
  intro W base args ds gs before hval0 hW hcnd hsz hholds
  have hval : ∀ (j : Nat) t v, Try.f9.params[j]? = some t → args[j]? = some v → Value.okWide Try.prog W .any base t v := hval0
  have hW' := hW
  obtain ⟨p, q, hA0, hV, rfl, hfz, hnd⟩ := hW
  have hA : DataW.TrodAll enc Try.prog W 0 (fun _ => true) true Try.f9.params.toList args.toList ds p := hA0
  obtain ⟨rfl, rfl⟩ := trodVars_none hV
  have hpost : ∀ W', Below W.heap.size W W' → Rows.realExtremesSpec.post enc Try.prog Try.f9 false true false false W args (.bool true) W' := fun W' hb => by
    have hlen : ds.length = 2 := by have hh := hA; rw [Try.params9] at hh; obtain ⟨_, _, d0, ds0, _, _, _, rfl, _, _, hh⟩ := trodAll_cons hh; obtain ⟨_, _, d1, ds1, _, _, _, rfl, _, _, hh⟩ := trodAll_cons hh; obtain ⟨_, rfl, _⟩ := trodAll_nil hh; simp
    obtain ⟨e0, e1, rfl⟩ : ∃ e0 e1, ds = [e0, e1] := by match ds, hlen with | [e0, e1], _ => exact ⟨e0, e1, rfl⟩
    exact law_post realExtremes_laid rfl hW' (by rw [Try.params9]; exact realExtremes_types) (tb := 4) (by kernel_rfl) Try.underlying4 rfl rfl rfl hb
  rw [Try.params9] at hA hval
  obtain ⟨v0, vs0, d0, ds0, p0, q0, hargs, rfl, rfl, h0, r0⟩ := trodAll_cons hA
  obtain ⟨v1, vs1, d1, ds1, p1, q1, rfl, rfl, rfl, h1, r1⟩ := trodAll_cons r0
  obtain ⟨rfl, rfl, rfl⟩ := trodAll_nil r1
  obtain rfl : args = #[v0, v1] := by cases args; simp_all
  obtain ⟨b, rfl, rfl, rfl, w0⟩ := open_int Try.underlying22 (hval 0 22 v0 rfl rfl) h0
  obtain ⟨A, n, c, y, rfl, hsd, hAt, hy⟩ := open_words Try.underlying70 Try.underlying22 (by kernel_rfl) (hval 1 70 v1 rfl rfl) h1
  obtain ⟨b, rfl, hb⟩ := wf_u64 w0
  have hlen := sized_list (j := 1) (t := 70) hsz (by kernel_rfl) rfl Try.underlying70 hsd
  rw [show Try.checked.prog.bytesOf 22 = 8 by kernel_rfl] at hlen
  have := reachBytes_lt
  refine (realExtremes_walk b n c A y W hb hy (by omega) hAt).mono fun e W' ⟨he, hg⟩ => ?_
  subst he
  exact ⟨_, rfl, hpost _ hg⟩

theorem realExtremes_holds : Rows.RealExtremesSaid :=
  OpenClaim.holds_of_wide 9 Try.f9 rfl rfl rfl rfl rfl rfl rfl ⟨rfl, rfl, rfl, rfl, rfl⟩ rfl rfl rfl rfl rfl (by kernel_rfl) Try.func9 (by kernel_rfl)
    (of_decide_eq_true (by kernel_rfl)) (by unfold Func.isWrapper; first | (rw [if_pos (by decide +kernel)]; kernel_rfl) | (rw [if_neg (by decide +kernel)]; exact ⟨rfl, rfl⟩))
    (fun os started H enc _ => realExtremes_lifted os started H enc)
#print axioms realExtremes_holds

end Go.Proofs.Ytpemchghaddgdaa

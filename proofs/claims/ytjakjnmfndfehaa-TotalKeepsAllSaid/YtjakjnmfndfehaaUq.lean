/- total: numbers made an expansion; how exact sums stand: walks; the document's. Condition: at most 65536 numbers of 64 bits. -/
import Derived.Test.YtjakjnmfndfehaaUo
namespace Go.Pst
open Go Ieee Go.RowKit Go.Proofs.Ytjakjnmfndfehaa
set_option linter.unusedVariables false
set_option linter.unusedSimpArgs false
theorem expV_next {f : Nat → Nat} {k : Nat} {xs ys : List Nat} (h : xs.map cn = expV f k) (hy : ys.map cn = growV (atL xs) (f k) xs.length) : ys.map cn = expV f (k + 1) := by
  rw [hy]
  have e : xs.map cn = (expV f k).map cn := by rw [h, expV_cn]
  show _ = growV (atL (expV f k)) (f k) (expV f k).length
  rw [← map_len e]
  exact growV_congr rfl _ fun i _ => map_at e i
def finAll (f : Nat → Nat) : Nat → Bool
  | 0 => true
  | k + 1 => finAll f k && finF (f k)
theorem finAll_at {f : Nat → Nat} : ∀ {n}, finAll f n = true → ∀ i, i < n → finF (f i) = true
  | 0, _, _, h => by omega
  | n + 1, h, i, hi => by
    unfold finAll at h
    rw [Bool.and_eq_true] at h
    by_cases e : i = n
    · rw [e]; exact h.2
    · exact finAll_at h.1 i (by omega)
theorem finAll_not {f : Nat → Nat} {k : Nat} (h : finF (f k) = false) : ∀ n, k < n → finAll f n = false
  | 0, hn => by omega
  | n + 1, hn => by
    unfold finAll
    by_cases e : k = n
    · rw [← e, h, Bool.and_false]
    · rw [finAll_not h n (by omega), Bool.false_and]
/-- How two exact sums stand. -/
def cmpV (f g : Nat → Nat) (n m : Nat) : Int := if finAll f n && finAll g m then sgnI (exSum f n - exSum g m) else 0
end Go.Pst
namespace Go.Proofs.Ytjakjnmfndfehaa
open Go.RowKit Go.Pst
set_option maxRecDepth 20000
set_option linter.unusedSimpArgs false
set_option linter.unusedVariables false
set_option maxHeartbeats 2000000 in
theorem expand_any (n c : Nat) (A : Option Addr) (f : Nat → Nat) (w : World) (hA : FlAt w w.heap.size A n f) (hn : n ≤ 65536) :
    Calls Try.prog 54 #[.slice A n c] w fun en w' => ∃ B c xs, en = .returned (.tuple #[.slice B (List.length xs) c, .int .i64 0]) ∧ xs.map cn = expV f n ∧ FlAt w' w'.heap.size B (List.length xs) (atL xs) ∧ Below w.heap.size w w' := by
  have HLG := Lib.hid fun w => long_f n c A w (by omega)
  rw [decide_eq_false (by omega : ¬ 65536 < n)] at HLG
  have HA := Lib.hid hA
  clear hA
  go_enter Try.func54, Try.ntmps54
  go_wp2_with fail
  refine (HLG.out _).mono ?_
  rintro en w' ⟨rfl, rfl⟩
  go_wp2_with fail
  go_loopw [4, 6, 11] (fun v _ t wr => ∃ (k : Nat) (B : Option Addr) (cb : Nat) (xs : List Nat), t = .int .i64 k ∧ k ≤ n ∧ Below w.heap.size w wr ∧ v = .slice B xs.length cb ∧ xs.map cn = expV f k ∧ FlAt wr wr.heap.size B xs.length (atL xs)) (fun _ _ t _ => n - (intOf t).toNat)
  case atStart => exact ⟨0, none, 0, [], rfl, by omega, Below.refl _ _, rfl, rfl, fun h => by simp at h⟩
  case round =>
    obtain ⟨k, B, cb, xs, rfl, hk, hbw, rfl, hxs, hfl⟩ := hrel
    have BW := Lib.hid hbw; have HX := Lib.hid hxs; have FL := Lib.hid hfl
    have hxl : xs.length ≤ k := by have h1 := congrArg List.length hxs; have h2 := expV_len f k; simp at h1; omega
    clear hbw hxs hfl
    by_cases hkn : k < n
    · have h3 : (k : Int) < (n : Int) := by omega
      have h0 : (0 : Int) ≤ (k : Int) := by omega
      obtain ⟨a, o, rfl, ha, hc⟩ := (HA.out.below BW.out (Nat.le_refl _)) (by omega)
      have qq := hc k hkn
      have HG := Lib.hid (grow_any xs.length cb (f k) B (atL xs) wr FL.out (by omega))
      have HN := Lib.hid fun (ys : List Nat) (hy : ys.map cn = growV (atL xs) (f k) xs.length) => expV_next HX.out hy
      generalize f k = x at qq HG HN
      clear hc
      go_wp2_with fail
      refine HG.out.mono ?_
      rintro en w2 ⟨B2, c2, ys, rfl, hy, -, hf2, hb2⟩
      have HY := Lib.hid (HN.out ys hy); have F2 := Lib.hid hf2
      have BB := Lib.hid (BW.out.trans (hb2.mono BW.out.size))
      clear hy hf2 hb2 HG HN
      go_wp2_with fail
      go_roundw
      case rel => exact ⟨k + 1, B2, c2, ys, by go_num, by omega, BB.out, rfl, HY.out, F2.out⟩
      case measure => (simp [intOf] <;> omega)
    · obtain rfl : k = n := by omega
      go_wp2_with fail
      go_ret2
      exact ⟨B, cb, xs, rfl, HX.out, FL.out, BW.out⟩
set_option maxHeartbeats 2000000 in
theorem rexpand_any (n c : Nat) (A : Option Addr) (f : Nat → Nat) (w : World) (hA : FlAt w w.heap.size A n f) (hn : n ≤ 65536) :
    Calls Try.prog 58 #[.slice A n c] w fun en w' => ∃ B c xs, en = .returned (.slice B (List.length xs) c) ∧ xs.map cn = expV f n ∧ FlAt w' w'.heap.size B (List.length xs) (atL xs) ∧ Below w.heap.size w w' := by
  have HA := Lib.hid hA
  clear hA
  go_enter Try.func58, Try.ntmps58
  go_wp2_with fail
  go_loopw [3, 4] (fun v t wr => ∃ (k : Nat) (B : Option Addr) (cb : Nat) (xs : List Nat), t = .int .i64 k ∧ k ≤ n ∧ Below w.heap.size w wr ∧ v = .slice B xs.length cb ∧ xs.map cn = expV f k ∧ FlAt wr wr.heap.size B xs.length (atL xs)) (fun _ t _ => n - (intOf t).toNat)
  case atStart => exact ⟨0, _, 0, [], rfl, by omega, (Below.refl _ _).alloc (Nat.le_refl _) _, rfl, rfl, fun h => by simp at h⟩
  case round =>
    obtain ⟨k, B, cb, xs, rfl, hk, hbw, rfl, hxs, hfl⟩ := hrel
    have BW := Lib.hid hbw; have HX := Lib.hid hxs; have FL := Lib.hid hfl
    have hxl : xs.length ≤ k := by have h1 := congrArg List.length hxs; have h2 := expV_len f k; simp at h1; omega
    clear hbw hxs hfl
    by_cases hkn : k < n
    · have h3 : (k : Int) < (n : Int) := by omega
      have h0 : (0 : Int) ≤ (k : Int) := by omega
      obtain ⟨a, o, rfl, ha, hc⟩ := (HA.out.below BW.out (Nat.le_refl _)) (by omega)
      have qq := hc k hkn
      have HG := Lib.hid (rgrow_any xs.length cb (f k) B (atL xs) wr FL.out (by omega))
      have HN := Lib.hid fun (ys : List Nat) (hy : ys.map cn = growV (atL xs) (f k) xs.length) => expV_next HX.out hy
      generalize f k = x at qq HG HN
      clear hc
      go_wp2_with fail
      refine HG.out.mono ?_
      rintro en w2 ⟨B2, c2, ys, rfl, hy, -, hf2, hb2⟩
      have HY := Lib.hid (HN.out ys hy); have F2 := Lib.hid hf2
      have BB := Lib.hid (BW.out.trans (hb2.mono BW.out.size))
      clear hy hf2 hb2 HG HN
      go_wp2_with fail
      go_roundw
      case rel => exact ⟨k + 1, B2, c2, ys, by go_num, by omega, BB.out, rfl, HY.out, F2.out⟩
      case measure => (simp [intOf] <;> omega)
    · obtain rfl : k = n := by omega
      go_wp2_with fail
      go_ret
      exact ⟨B, cb, xs, rfl, HX.out, FL.out, BW.out⟩
/-- What total.sum gives: the exact sum of numbers that are all finite; or nil. -/
def SumPost (f : Nat → Nat) (n : Nat) (w : World) (en : Ending) (w' : World) : Prop :=
  Below w.heap.size w w' ∧ ((finAll f n = true ∧ ∃ V p l nn s m, en = .returned (.tuple #[.pointer (some ⟨w.heap.size, 0, none⟩), .bool true]) ∧ ExAt w' w.heap.size V 1074 p l nn s m ∧ WIs V (exSum f n)) ∨
    (finAll f n = false ∧ en = .returned (.tuple #[.pointer none, .bool false])))
set_option maxHeartbeats 2000000 in
theorem csum_any (n c : Nat) (A : Option Addr) (f : Nat → Nat) (w : World) (hA : FlAt w w.heap.size A n f) (hn : n ≤ 65536) (hf : ∀ j, j < n → f j < 2 ^ 64) :
    Calls Try.prog 91 #[.slice A n c] w (SumPost f n w) := by
  have HA := Lib.hid hA; have HF := Lib.hid hf
  clear hA hf
  go_enter Try.func91, Try.ntmps91
  go_wp2_with fail
  go_loopw [6, 11] (fun _ t wr => ∃ k : Nat, t = .int .i64 k ∧ k ≤ n ∧ Below w.heap.size w wr ∧ finAll f k = true ∧ ∃ V s m, ExAt wr w.heap.size V 1074 false false false s m ∧ WIs V (exSum f k)) (fun _ t _ => n - (intOf t).toNat)
  case atStart => exact ⟨0, rfl, by omega, (Below.refl _ _).alloc (Nat.le_refl _) _, rfl, _, _, _, ex_made w 1074, wis_zero⟩
  case round =>
    obtain ⟨k, rfl, hk, hbw, hfk, V, s, m, hE, hV⟩ := hrel
    have BW := Lib.hid hbw; have HE := Lib.hid hE; have HV := Lib.hid hV; have HFK := Lib.hid hfk
    clear hbw hE hV hfk
    by_cases hkn : k < n
    · have h3 : (k : Int) < (n : Int) := by omega
      have h0 : (0 : Int) ≤ (k : Int) := by omega
      obtain ⟨a, o, rfl, ha, hc⟩ := (HA.out.below BW.out (Nat.le_refl _)) (by omega)
      have q := hc k hkn
      have hb := HF.out k hkn
      have zE := HE.out.wide.lt
      have eF : finAll f (k + 1) = (finAll f k && finF (f k)) := rfl
      have eU : exSum f (k + 1) = exSum f k + (if finF (f k) then valZ (f k) else 0) := rfl
      have hnot := Lib.hid fun h => finAll_not (f := f) (k := k) h n hkn
      have hne := fne_self (f k)
      have hMI := fun w => minf_any (f k) w hb
      have hfd : finF (f k) = (!nan64 (f k) && !infB (f k)) := rfl
      clear hc
      obtain ⟨x, hx⟩ : ∃ x, x = f k := ⟨_, rfl⟩
      rw [← hx] at q hb eF eU hne hMI hfd hnot
      clear hx
      cases hnx : nan64 x
      · rw [hnx] at hne hfd
        cases hix : infB x
        · rw [hix] at hMI hfd
          have hfin : finB x := ⟨hb, hnx, hix⟩
          have hff : finF x = true := hfd
          rw [hff, HFK.out] at eF
          rw [hff, if_pos rfl] at eU
          have hal := (Below.refl wr.heap.size wr).alloc (Nat.le_refl _) (.cells #[.float .f64 x] 24)
          have HT := Lib.hid (term_any w.heap.size 1 1 wr.heap.size 0 V (fun _ => x) 1074 _ _ _ _ _ (wr.alloc (.cells #[.float .f64 x] 24)) (HE.out.below hal) (.inl rfl) (by simp)
            (fun j hj => by rw [show j = 0 by omega]; rw [cell_of_row _ _ _ _ _ _ (heap_alloc_new _ _)]; rfl) (fun _ _ => hfin) (by omega) _ HV.out)
          have hmag : pwZ (sz (fun _ => x) 0 1 * sz (fun _ => x) 1 1) (eSum (fun _ => x) 1074 1) = magN x := by
            show pwZ (frM x * 1) (1074 + (frE x - 53)) = magN x
            rw [Nat.mul_one, frM_one hfin]
          have hbl : xSum (fun _ => x) 1 = negB x := by show (false != negB x) = negB x; cases negB x <;> rfl
          rw [hmag, hbl] at HT
          have HVAL := Lib.hid (valZ_mag x)
          have EF := Lib.hid eF; have EU := Lib.hid eU; have HMI := Lib.hid hMI
          have hBA := Lib.hid (BW.out.trans (hal.mono BW.out.size))
          have hsz : w.heap.size ≤ wr.heap.size := BW.out.size
          clear eF eU hMI hal hmag hbl hfd hff hix hnx hnot
          go_wp2_with fail
          refine (HMI.out _).mono ?_
          rintro en w' ⟨rfl, rfl⟩
          go_wp2_with fail
          have ht := HT.out
          clear HT
          refine Calls.mono ht ?_
          rintro en w2 hT
          obtain ⟨⟨v2, rfl⟩, hF2, V2, hE2, hV2⟩ := hT
          have E2 := Lib.hid hE2; have V2' := Lib.hid hV2
          have B2 := Lib.hid (Fr.below hBA.out hF2 (Nat.le_refl _) (by simp; omega))
          clear hF2 hE2 hV2 ht
          go_wp2_with fail
          go_roundw
          case rel => exact ⟨k + 1, by go_num, by omega, B2.out, by rw [EF.out]; rfl, V2, _, _, E2.out, by rw [EU.out, HVAL.out]; exact V2'.out⟩
          case measure => (simp [intOf] <;> omega)
        · rw [hix] at hMI hfd
          have HNO := Lib.hid (hnot.out hfd)
          have HMI := Lib.hid hMI
          clear hMI hfd eF eU hnot hix hnx
          go_wp2_with fail
          refine (HMI.out _).mono ?_
          rintro en w' ⟨rfl, rfl⟩
          go_wp2_with fail
          go_ret2
          exact ⟨BW.out, .inr ⟨HNO.out, rfl⟩⟩
      · rw [hnx] at hne hfd
        have HNO := Lib.hid (hnot.out hfd)
        clear hMI hfd eF eU hnot hnx
        go_wp2_with fail
        go_ret2
        exact ⟨BW.out, .inr ⟨HNO.out, rfl⟩⟩
    · obtain rfl : k = n := by omega
      go_wp2_with fail
      go_ret2
      exact ⟨BW.out, .inl ⟨HFK.out, V, _, _, _, _, _, rfl, HE.out, HV.out⟩⟩
end Go.Proofs.Ytjakjnmfndfehaa

/- Norms and variance: here and in the document. Condition: lists of at most 65536. -/
import Derived.Test.YtjakjnmfndfehaaDe
import Derived.Test.YtjakjnmfndfehaaUm
import Derived.Test.YtjakjnmfndfehaaMc
namespace Go.Pst
open Go Ieee Go.RowKit Go.Proofs.Ytjakjnmfndfehaa
set_option linter.unusedVariables false
set_option linter.unusedSimpArgs false
/-! ### Roots, up to which no number they are -/
def sqD (x : Nat) : Option Nat := FloatKind.f64.format.sqrt x
def sqV (x : Nat) : Nat := arN (sqD x)
def sqU (w : World) (x : Nat) : Nat := match sqD x with | some r => r | none => (Question.nanBits .f64 x x).cut (w.tape w.drawn (.nanBits .f64 x x))
theorem run_sqrt (P : Program) (x : Nat) (w : World) : (Extern.MathSqrt.sqrt #[.float .f64 x]).run P w = .ok (.float .f64 (sqU w x)) (wIf (sqD x).isNone w) := by
  have h : Extern.MathSqrt.sqrt #[.float .f64 x] = (match sqD x with | some r => pure (.float .f64 r) | none => choose (.nanBits .f64 x x) >>= fun q => pure (.float .f64 q)) := rfl
  rw [h]
  unfold sqU
  cases hd : sqD x with
  | some r => rfl
  | none =>
    have hf : (Question.nanBits .f64 x x).forced = false := by rfl
    show Sem.run P (choose _ >>= _) w = _
    simp [hf, wIf]
theorem cn_sqU (w : World) (x : Nat) : cn (sqU w x) = cn (sqV x) := by
  unfold sqU sqV arN
  cases h : sqD x with
  | some r => rfl
  | none => simp only; rw [cn_of_nan _ (cut_nan _ _ _), cn_of_nan _ nanNC]
theorem cn_cases {x y : Nat} (h : cn x = cn y) : (nan64 x = true ∧ nan64 y = true) ∨ x = y := by
  have e : nan64 x = nan64 y := by rw [← cn_nan x, ← cn_nan y, h]
  cases hx : nan64 x
  · right; rw [cn_of x hx, cn_of y (by rw [← e]; exact hx)] at h; exact h
  · exact .inl ⟨rfl, by rw [← e]; exact hx⟩
theorem sqD_nan {x : Nat} (h : nan64 x = true) : sqD x = none := by
  have h1 : sqD x = ((Ieee.double.read x).root (Ieee.double.fractionBits + 2)).map Ieee.double.write := rfl
  have h2 : (Ieee.double.read x).isNaN = true := by rw [← h]; exact isNaN64 x
  rw [h1]
  cases hr : Ieee.double.read x <;> rw [hr] at h2 <;> first | (cases h2; done) | rfl
theorem sqV_cn {x y : Nat} (h : cn x = cn y) : sqV x = sqV y := by
  rcases cn_cases h with ⟨h1, h2⟩ | h1
  · unfold sqV; rw [sqD_nan h1, sqD_nan h2]
  · rw [h1]
/-! ### The exact sum of squares knows its numbers up to which no number they are -/
theorem dN_nan {x y : Nat} (h : nan64 x = true) : dN x y = true := by unfold dN; rw [h]; rfl
theorem exdot_all {f g : Nat → Nat} : ∀ n, (∀ i, i < n → cn (f i) = cn (g i)) → dxN f f n = dxN g g n ∧ dxP f f n = dxP g g n ∧ dxL f f n = dxL g g n ∧ dxS f f n = dxS g g n ∧ dxM f f n = dxM g g n ∧ dxU f f n = dxU g g n
  | 0, _ => ⟨rfl, rfl, rfl, rfl, rfl, rfl⟩
  | n + 1, h => by
    obtain ⟨h1, h2, h3, h4, h5, h6⟩ := exdot_all n fun i hi => h i (by omega)
    unfold dxN dxP dxL dxS dxM dxU
    rw [h1, h2, h3, h4, h5, h6]
    rcases cn_cases (h n (by omega)) with ⟨e1, e2⟩ | e
    · rw [dN_nan e1, dN_nan e2]; exact ⟨rfl, rfl, rfl, rfl, rfl, rfl⟩
    · rw [e]; exact ⟨rfl, rfl, rfl, rfl, rfl, rfl⟩
theorem exdotV_cn {f g : Nat → Nat} {n : Nat} (h : ∀ i, i < n → cn (f i) = cn (g i)) : exdotV f f n = exdotV g g n := by
  obtain ⟨h1, h2, h3, h4, h5, h6⟩ := exdot_all n h
  unfold exdotV
  rw [h1, h2, h3, h4, h5, h6]
theorem cn_rexdot (f g : Nat → Nat) (n : Nat) : cn (rexdotV f g n) = cn (exdotV f g n) := by
  unfold rexdotV
  cases h : dxN f g n || (dxP f g n && dxL f g n)
  · rw [if_neg Bool.false_ne_true]
  · rw [if_pos rfl]
    unfold exdotV exV
    rw [h, if_pos rfl]
    decide
/-- The size of a number, its sign struck. -/
def absF (f : Nat → Nat) (i : Nat) : Nat := f i % 9223372036854775808
/-- The variance's parts. -/
def vaD (f : Nat → Nat) (n : Nat) (i : Nat) : Nat := arV .sub (f i) (arV .quo (exactV f n) (fl n))
def vaV (f : Nat → Nat) (n : Nat) : Nat := arV .quo (exdotV (vaD f n) (vaD f n) n) (fl n)
end Go.Pst
namespace Go.Proofs.Ytjakjnmfndfehaa
open Go.RowKit Go.Pst
set_option maxRecDepth 20000
set_option linter.unusedSimpArgs false
set_option linter.unusedVariables false
theorem zsqrt0 (b : Nat) (w : World) : (callFunc 101 #[.float .f64 b]).run Try.prog w = (Extern.MathSqrt.sqrt #[.float .f64 b] >>= fun v => pure (.value v)).run Try.prog w := by kernel_rfl
theorem zsqrt (b : Nat) (w : World) : (callFunc 101 #[.float .f64 b]).run Try.prog w = .ok (.value (.float .f64 (sqU w b))) (wIf (sqD b).isNone w) := by
  rw [zsqrt0]; simp [run_sqrt]
section
attribute [local go_sem] zsqrt
theorem msqrt_any (b : Nat) (w : World) : Calls Try.prog 67 #[.float .f64 b] w (FlLike (sqV b) w) := by
  have h := cn_sqU w b
  have hb := wIf_refl (sqD b).isNone w
  have H := Lib.hid h; have HB := Lib.hid hb
  clear h hb
  generalize hv : sqV b = v at *
  clear hv
  go_enter Try.func67, Try.ntmps67
  go_wp2
  go_ret
  exact ⟨_, rfl, H.out, HB.out⟩
end
theorem norm_any (n c : Nat) (A : Option Addr) (f : Nat → Nat) (w : World) (hA : FlAt w w.heap.size A n f) (hn : n ≤ 65536) (hf : ∀ j, j < n → f j < 2 ^ 64) :
    Calls Try.prog 17 #[.slice A n c] w (FeLike (sqV (exdotV f f n)) 0 w) := by
  have HE := Lib.hid (exactdot_any n c c A A f f w hA hA hn hf hf)
  generalize exdotV f f n = v at *
  clear hA hf
  go_enter Try.func17, Try.ntmps17
  go_wp2_with fail
  refine HE.out.mono ?_
  rintro en w1 ⟨rfl, hb1⟩
  have B1 := Lib.hid hb1
  clear hb1
  go_wp2_with fail
  refine (msqrt_any _ _).mono ?_
  rintro en w2 ⟨u, rfl, hu, hb2⟩
  have HU := Lib.hid hu
  have B2 := Lib.hid (B1.out.trans (hb2.mono B1.out.size))
  clear hu hb2
  go_wp2_with fail
  go_ret2
  exact ⟨u, rfl, HU.out, B2.out⟩
theorem rnorm_any (n c : Nat) (A : Option Addr) (f : Nat → Nat) (w : World) (hA : FlAt w w.heap.size A n f) (hn : n ≤ 65536) (hf : ∀ j, j < n → f j < 2 ^ 64) :
    Calls Try.prog 21 #[.slice A n c] w (FlLike (sqV (exdotV f f n)) w) := by
  have HE := Lib.hid (rexactdot_any n c c A A f f w hA hA hn hf hf)
  have HV : Hid (sqV (rexdotV f f n) = sqV (exdotV f f n)) := Lib.hid (sqV_cn (cn_rexdot f f n))
  generalize sqV (exdotV f f n) = v at *
  generalize rexdotV f f n = r at *
  clear hA hf
  go_enter Try.func21, Try.ntmps21
  go_wp2_with fail
  refine HE.out.mono ?_
  rintro en w1 ⟨rfl, hb1⟩
  have B1 := Lib.hid hb1
  clear hb1
  go_wp2_with fail
  refine (msqrt_any _ _).mono ?_
  rintro en w2 ⟨u, rfl, hu, hb2⟩
  have HU := Lib.hid (hu.trans (by rw [HV.out]))
  have B2 := Lib.hid (B1.out.trans (hb2.mono B1.out.size))
  clear hu hb2
  go_wp2_with fail
  go_ret
  exact ⟨u, rfl, HU.out, B2.out⟩
theorem and_abs {b : Nat} (hb : b < 2 ^ 64) : bits .and .u64 (b : Int) 9223372036854775807 = ((b % 9223372036854775808 : Nat) : Int) := by
  exact and_mask (b := b) (n := 63) hb (by omega)
/-- What sizes leaves: a row of one's own. -/
def SizesPost (f : Nat → Nat) (n : Nat) (w : World) (en : Ending) (w' : World) : Prop :=
  ∃ v, en = .returned v ∧ w'.ownsRow w.heap.size 24 1 v n (nums (absF f) n) ∧ Below w.heap.size w w'
theorem nums_congr {f g : Nat → Nat} (n : Nat) (h : ∀ i, i < n → f i = g i) : nums f n = nums g n := by
  unfold nums
  exact List.map_congr_left fun i hi => by rw [h i (List.mem_range.1 hi)]
section
attribute [local go_sem] m64bits m64from
set_option maxHeartbeats 1000000 in
theorem sizes_any (n c : Nat) (A : Option Addr) (f : Nat → Nat) (w : World) (hA : FlAt w w.heap.size A n f) (hn : n ≤ 65536) (hf : ∀ j, j < n → f j < 2 ^ 64) :
    Calls Try.prog 74 #[.slice A n c] w (SizesPost f n w) := by
  have HA := Lib.hid hA; have HF := Lib.hid hf
  clear hA hf
  go_enter Try.func74, Try.ntmps74
  go_wp2_with fail
  go_loopw [3, 4] (fun v t wr => ∃ (k : Nat) (u : Value), t = .int .i64 k ∧ k ≤ n ∧ Below w.heap.size w wr ∧ u = v ∧ wr.ownsRow w.heap.size 24 1 u k (nums (absF f) k)) (fun _ t _ => n - (intOf t).toNat)
  case atStart => exact ⟨0, _, rfl, by omega, (Below.refl _ _).alloc (Nat.le_refl _) _, rfl, World.ownsRow_made _ #[] 0 (Nat.le_refl _) (by simp [maxLen]) rfl⟩
  case round =>
    obtain ⟨k, u, rfl, hk, hbw, rfl, hown⟩ := hrel
    have BW := Lib.hid hbw; have OW := Lib.hid hown
    clear hbw hown
    by_cases hkn : k < n
    · have h3 : (k : Int) < (n : Int) := by omega
      have h0 : (0 : Int) ≤ (k : Int) := by omega
      obtain ⟨a, o, rfl, ha, hc⟩ := (HA.out.below BW.out (Nat.le_refl _)) (by omega)
      have q := hc k hkn
      obtain ⟨x, hx⟩ : ∃ x, x = f k := ⟨_, rfl⟩
      rw [← hx] at q
      have hand := and_abs (b := x) (by rw [hx]; exact HF.out k hkn)
      obtain ⟨z, hz⟩ : ∃ z, z = x % 9223372036854775808 := ⟨_, rfl⟩
      rw [← hz] at hand
      have HZ : Hid (z = absF f k) := Lib.hid (by rw [hz, hx]; rfl)
      clear hc hx hz
      go_wp2_with (at_builtin
                   refine wpList_floats w _ rfl _ _ rfl rfl (BW.out.alloc (by simpa using BW.out.size) _) _ k (absF f) rfl (OW.out.alloc _) (some ⟨wr.heap.size, 0, none⟩) 1 1 (wr.heap.size + 1) (fun _ => z) rfl ?q8 (by omega) ?_
                   case q8 => exact flat_new wr 24 z
                   intro v1 w1 ho1 hb1
                   have O1 := Lib.hid ho1
                   have B1 := Lib.hid hb1
                   clear ho1 hb1)
      have O2 : Hid (w1.ownsRow w.heap.size 24 1 v1 (k + 1) (nums (absF f) (k + 1))) := Lib.hid (by
        have := O1.out
        rwa [nums_congr (f := joinR (absF f) k fun _ => z) (g := absF f) (k + 1) (fun i hi => by
          unfold joinR
          split
          · rfl
          · rw [HZ.out, show i = k by omega])] at this)
      clear O1
      go_wp2_with fail
      go_roundw
      case rel => exact ⟨k + 1, _, by go_num, by omega, B1.out, rfl, O2.out⟩
      case measure => (simp [intOf] <;> omega)
    · obtain rfl : k = n := by omega
      go_wp2_with fail
      go_ret
      exact ⟨_, rfl, OW.out, BW.out⟩
end
theorem rmanhattan_any (n c : Nat) (A : Option Addr) (f : Nat → Nat) (w : World) (hA : FlAt w w.heap.size A n f) (hn : n ≤ 65536) (hf : ∀ j, j < n → f j < 2 ^ 64) :
    Calls Try.prog 22 #[.slice A n c] w (FlLike (exactV (absF f) n) w) := by
  have HS := Lib.hid (sizes_any n c A f w hA hn hf)
  have HE := Lib.hid fun (B : Option Addr) (cb : Nat) (w : World) (h : FlAt w w.heap.size B n (absF f)) => rexact_any n cb B (absF f) w h hn (fun j hj => Nat.lt_of_lt_of_le (Nat.mod_lt _ (by decide)) (by decide))
  have HC := Lib.hid (cn_rexV (absF f) n)
  generalize exactV (absF f) n = v at *
  clear hA hf
  go_enter Try.func22, Try.ntmps22
  go_wp2_with fail
  refine HS.out.mono ?_
  rintro en w1 ⟨u, rfl, hown, hb1⟩
  obtain ⟨VB, vc, rfl, hfl⟩ := flat_of hown
  have B1 := Lib.hid hb1; have F1 := Lib.hid hfl
  clear hb1 hfl hown
  go_wp2_with fail
  refine (HE.out _ _ _ F1.out).mono ?_
  rintro en w2 ⟨rfl, hb2⟩
  have B2 := Lib.hid (B1.out.trans (hb2.mono B1.out.size))
  clear hb2
  go_wp2_with fail
  go_ret
  exact ⟨_, rfl, HC.out, B2.out⟩
set_option maxHeartbeats 1000000 in
theorem manhattan_any (n c : Nat) (A : Option Addr) (f : Nat → Nat) (w : World) (hA : FlAt w w.heap.size A n f) (hn : n ≤ 65536) (hf : ∀ j, j < n → f j < 2 ^ 64) :
    Calls Try.prog 18 #[.slice A n c] w (FeLike (exactV (absF f) n) 0 w) := by
  have HLG := Lib.hid fun w => long_f n c A w (by omega)
  rw [decide_eq_false (by omega : ¬ 65536 < n)] at HLG
  have HE := Lib.hid fun (B : Option Addr) (cb : Nat) (w : World) (h : FlAt w w.heap.size B n (absF f)) => exact_any n cb B (absF f) w h hn (fun j hj => Nat.lt_of_lt_of_le (Nat.mod_lt _ (by decide)) (by decide))
  have HA := Lib.hid hA; have HF := Lib.hid hf
  generalize hvv : exactV (absF f) n = vv at *
  clear hA hf hvv
  go_enter Try.func18, Try.ntmps18
  go_wp2_with fail
  refine (HLG.out _).mono ?_
  rintro en w' ⟨rfl, rfl⟩
  go_wp2_with fail
  go_loopw [4, 6, 11] (fun v x t wr => ∃ (k : Nat) (u : Value), t = .int .i64 k ∧ k ≤ n ∧ Below w.heap.size w wr ∧ u = v ∧ wr.ownsRow w.heap.size 24 1 u k (nums (absF f) k)) (fun _ _ t _ => n - (intOf t).toNat)
  case atStart => exact ⟨0, _, rfl, by omega, Below.refl _ _, rfl, World.ownsRow_nil _ _ _ _⟩
  case round =>
    obtain ⟨k, u, rfl, hk, hbw, rfl, hown⟩ := hrel
    have BW := Lib.hid hbw; have OW := Lib.hid hown
    clear hbw hown
    by_cases hkn : k < n
    · have h3 : (k : Int) < (n : Int) := by omega
      have h0 : (0 : Int) ≤ (k : Int) := by omega
      obtain ⟨a, o, rfl, ha, hc⟩ := (HA.out.below BW.out (Nat.le_refl _)) (by omega)
      have q := hc k hkn
      obtain ⟨x, hx⟩ : ∃ x, x = f k := ⟨_, rfl⟩
      rw [← hx] at q
      have HAB := Lib.hid fun w => mabs_any x w (by rw [hx]; exact HF.out k hkn)
      obtain ⟨z, hz⟩ : ∃ z, z = x % 9223372036854775808 := ⟨_, rfl⟩
      rw [← hz] at HAB
      have HZ : Hid (z = absF f k) := Lib.hid (by rw [hz, hx]; rfl)
      clear hc hx hz
      go_wp2_with fail
      refine (HAB.out _).mono ?_
      rintro en w' ⟨rfl, hww⟩
      obtain rfl := hww
      go_wp2_with (at_builtin
                   refine wpList_floats w _ rfl _ _ rfl rfl (BW.out.alloc (by simpa using BW.out.size) _) _ k (absF f) rfl (OW.out.alloc _) (some ⟨wr.heap.size, 0, none⟩) 1 1 (wr.heap.size + 1) (fun _ => z) rfl ?q8 (by omega) ?_
                   case q8 => exact flat_new wr 24 z
                   intro v1 w1 ho1 hb1
                   have O1 := Lib.hid ho1
                   have B1 := Lib.hid hb1
                   clear ho1 hb1)
      have O2 : Hid (w1.ownsRow w.heap.size 24 1 v1 (k + 1) (nums (absF f) (k + 1))) := Lib.hid (by
        have := O1.out
        rwa [nums_congr (f := joinR (absF f) k fun _ => z) (g := absF f) (k + 1) (fun i hi => by
          unfold joinR
          split
          · rfl
          · rw [HZ.out, show i = k by omega])] at this)
      clear O1
      go_wp2_with fail
      go_roundw
      case rel => exact ⟨k + 1, _, by go_num, by omega, B1.out, rfl, O2.out⟩
      case measure => (simp [intOf] <;> omega)
    · obtain rfl : k = n := by omega
      obtain ⟨VB, vc, rfl, fv⟩ := flat_of OW.out
      have FV := Lib.hid fv
      clear fv
      go_wp2_with fail
      refine (HE.out _ _ _ FV.out).mono ?_
      rintro en w2 ⟨rfl, hb2⟩
      have B2 := Lib.hid (BW.out.trans (hb2.mono BW.out.size))
      clear hb2
      go_wp2_with fail
      go_ret2
      exact ⟨_, rfl, rfl, B2.out⟩
end Go.Proofs.Ytjakjnmfndfehaa

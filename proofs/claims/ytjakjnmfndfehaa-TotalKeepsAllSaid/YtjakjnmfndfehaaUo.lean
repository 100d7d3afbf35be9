/- total: expansions, grown and made: plain and walks; the document's. Condition: at most 65536 numbers. -/
import Derived.Test.YtjakjnmfndfehaaDe
namespace Go.Pst
open Go Ieee Go.RowKit Go.Proofs.Ytjakjnmfndfehaa
set_option linter.unusedVariables false
set_option linter.unusedSimpArgs false
def nzB (t : Nat) : Bool := fne .f64 t 0
theorem fne_cn {s t : Nat} (h : cn s = cn t) : fne .f64 s 0 = fne .f64 t 0 := by
  rw [fne64, fne64, feq64, feq64]
  have e1 : nan64 s = nan64 t := by rw [← cn_nan s, ← cn_nan t, h]
  rw [e1]
  cases hn : nan64 t
  · rw [cn_of s (e1.trans hn), cn_of t hn] at h; rw [h]
  · rfl
theorem tw_cn {a b a' b' : Nat} (ha : cn a = cn a') (hb : cn b = cn b') : twS a b = twS a' b' ∧ twL a b = twL a' b' := by
  have h1 : twS a b = twS a' b' := arV_cn .add ha hb
  have h2 : twT a b = twT a' b' := by unfold twT; rw [h1]; exact arV_cn .sub rfl ha
  refine ⟨h1, ?_⟩
  unfold twL
  rw [h1, h2]
  exact arV_cn .add (by rw [arV_cn .sub ha rfl]) (by rw [arV_cn .sub hb rfl])
theorem cn_twS (a b : Nat) : cn (twS a b) = twS a b := cn_arV _ _ _
theorem cn_twL (a b : Nat) : cn (twL a b) = twL a b := cn_arV _ _ _
section
variable (f : Nat → Nat) (q : Nat)
def gq : Nat → Nat
  | 0 => cn q
  | k + 1 => twS (gq k) (f k)
def gl : Nat → List Nat
  | 0 => []
  | k + 1 => gl k ++ (if nzB (twL (gq f q k) (f k)) then [twL (gq f q k) (f k)] else [])
/-- An expansion of n numbers with one more. -/
def growV (n : Nat) : List Nat := gl f q n ++ (if nzB (gq f q n) then [gq f q n] else [])
end
theorem gq_congr {f g : Nat → Nat} {q r : Nat} (hq : cn q = cn r) : ∀ n, (∀ i, i < n → cn (f i) = cn (g i)) → gq f q n = gq g r n
  | 0, _ => hq
  | n + 1, h => by
    unfold gq
    rw [gq_congr hq n fun i hi => h i (by omega)]
    exact (tw_cn rfl (h n (by omega))).1
theorem gl_congr {f g : Nat → Nat} {q r : Nat} (hq : cn q = cn r) : ∀ n, (∀ i, i < n → cn (f i) = cn (g i)) → gl f q n = gl g r n
  | 0, _ => rfl
  | n + 1, h => by
    unfold gl
    rw [gl_congr hq n fun i hi => h i (by omega), gq_congr hq n fun i hi => h i (by omega), (tw_cn rfl (h n (by omega))).2]
theorem growV_congr {f g : Nat → Nat} {q r : Nat} (hq : cn q = cn r) (n : Nat) (h : ∀ i, i < n → cn (f i) = cn (g i)) : growV f q n = growV g r n := by
  unfold growV; rw [gl_congr hq n h, gq_congr hq n h]
theorem gq_cn (f : Nat → Nat) (q : Nat) : ∀ n, cn (gq f q n) = gq f q n
  | 0 => cn_cn q
  | n + 1 => cn_twS _ _
theorem gl_cn (f : Nat → Nat) (q : Nat) : ∀ n, (gl f q n).map cn = gl f q n
  | 0 => rfl
  | n + 1 => by
    unfold gl
    rw [List.map_append, gl_cn f q n]
    congr 1
    split
    · simp [cn_twL]
    · rfl
theorem growV_cn (f : Nat → Nat) (q n : Nat) : (growV f q n).map cn = growV f q n := by
  unfold growV
  rw [List.map_append, gl_cn]
  congr 1
  split
  · simp [gq_cn]
  · rfl
theorem gl_len (f : Nat → Nat) (q : Nat) : ∀ n, (gl f q n).length ≤ n
  | 0 => Nat.le_refl _
  | n + 1 => by
    have := gl_len f q n
    unfold gl
    rw [List.length_append]
    split <;> simp <;> omega
theorem growV_len (f : Nat → Nat) (q n : Nat) : (growV f q n).length ≤ n + 1 := by
  have := gl_len f q n
  unfold growV
  rw [List.length_append]
  split <;> simp <;> omega
def atL (l : List Nat) (i : Nat) : Nat := l.getD i 0
/-- Numbers as an expansion. -/
def expV (f : Nat → Nat) : Nat → List Nat
  | 0 => []
  | k + 1 => growV (atL (expV f k)) (f k) (expV f k).length
theorem expV_len (f : Nat → Nat) : ∀ n, (expV f n).length ≤ n
  | 0 => Nat.le_refl _
  | n + 1 => by
    have h1 := expV_len f n
    have h2 := growV_len (atL (expV f n)) (f n) (expV f n).length
    show (growV _ _ _).length ≤ _
    omega
theorem expV_cn (f : Nat → Nat) : ∀ n, (expV f n).map cn = expV f n
  | 0 => rfl
  | n + 1 => growV_cn _ _ _
theorem map_len {xs ys : List Nat} (h : xs.map cn = ys.map cn) : xs.length = ys.length := by
  have := congrArg List.length h; simpa using this
theorem map_at {xs ys : List Nat} (h : xs.map cn = ys.map cn) (i : Nat) : cn (atL xs i) = cn (atL ys i) := by
  have e := congrArg (fun l => l[i]?) h
  simp only [List.getElem?_map] at e
  unfold atL
  rw [List.getD_eq_getElem?_getD, List.getD_eq_getElem?_getD]
  cases h1 : xs[i]? <;> cases h2 : ys[i]? <;> rw [h1, h2] at e <;> simp at e ⊢
  exact e
end Go.Pst
namespace Go.Proofs.Ytjakjnmfndfehaa
open Go.RowKit Go.Pst
set_option maxRecDepth 20000
set_option linter.unusedSimpArgs false
set_option linter.unusedVariables false
def numsL (l : List Nat) : List Value := l.map fun b => .float .f64 b
theorem nums_atL (l : List Nat) : nums (atL l) l.length = numsL l := by
  unfold nums numsL
  apply List.ext_getElem?
  intro i
  rw [List.getElem?_map, List.getElem?_map]
  rcases Nat.lt_or_ge i l.length with h | h
  · rw [List.getElem?_range h]
    unfold atL
    simp [List.getD_eq_getElem?_getD, h]
  · rw [List.getElem?_eq_none (by simpa using h), List.getElem?_eq_none h]; rfl
theorem numsL_add (l : List Nat) (b : Nat) : nums (joinR (atL l) l.length fun _ => b) (l.length + 1) = nums (atL (l ++ [b])) (l ++ [b]).length := by
  rw [← nums_join, nums_atL, nums_atL]
  unfold numsL nums
  simp
theorem row_put {w : World} {base : Nat} {e : TypeId} {u : Value} {xs : List Nat} {b : Nat} (h : w.ownsRow base e 1 u (xs.length + 1) (nums (joinR (atL xs) xs.length fun _ => b) (xs.length + 1))) :
    w.ownsRow base e 1 u (xs ++ [b]).length (nums (atL (xs ++ [b])) (xs ++ [b]).length) := by
  rw [numsL_add] at h
  have e : (xs ++ [b]).length = xs.length + 1 := by simp
  rw [e] at h ⊢
  exact h
/-- A row as the list l, but for which no numbers. -/
def RowLike (l : List Nat) (w : World) (en : Ending) (w' : World) : Prop :=
  ∃ B c xs, en = .returned (.slice B (List.length xs) c) ∧ xs.map cn = l ∧ xs.length ≤ c ∧ FlAt w' w'.heap.size B (List.length xs) (atL xs) ∧ Below w.heap.size w w'

set_option maxHeartbeats 2000000 in
theorem grow_any (n c q : Nat) (A : Option Addr) (f : Nat → Nat) (w : World) (hA : FlAt w w.heap.size A n f) (hn : n ≤ 65536) :
    Calls Try.prog 55 #[.slice A n c, .float .f64 q] w (RowLike (growV f q n) w) := by
  have HA := Lib.hid hA
  clear hA
  go_enter Try.func55, Try.ntmps55
  go_wp2_with fail
  go_loopw [1, 5, 7, 8, 9, 12] (fun s v _ _ _ t wr => ∃ (k Q : Nat) (xs : List Nat) (u : Value), t = .int .i64 k ∧ k ≤ n ∧ Below w.heap.size w wr ∧ s = .float .f64 Q ∧ cn Q = cn (gq f q k) ∧ u = v ∧ wr.ownsRow w.heap.size 24 1 u xs.length (nums (atL xs) xs.length) ∧ xs.map cn = gl f q k) (fun _ _ _ _ _ t _ => n - (intOf t).toNat)
  case atStart => exact ⟨0, q, [], _, rfl, by omega, Below.refl _ _, rfl, (cn_cn q).symm, rfl, World.ownsRow_nil _ _ _ _, rfl⟩
  case round =>
    obtain ⟨k, Q, xs, u, rfl, hk, hbw, rfl, hQ, rfl, hown, hxs⟩ := hrel
    have BW := Lib.hid hbw; have HQ := Lib.hid hQ; have OW := Lib.hid hown; have HX := Lib.hid hxs
    have hxl : xs.length ≤ k := by have h1 := congrArg List.length hxs; have h2 := gl_len f q k; simp at h1; omega
    clear hbw hQ hown hxs
    by_cases hkn : k < n
    · have h3 : (k : Int) < (n : Int) := by omega
      have h0 : (0 : Int) ≤ (k : Int) := by omega
      obtain ⟨a, o, rfl, ha, hc⟩ := (HA.out.below BW.out (Nat.le_refl _)) (by omega)
      have qq := hc k hkn
      have e1 : gq f q (k + 1) = twS (gq f q k) (f k) := rfl
      have e2 : gl f q (k + 1) = gl f q k ++ (if nzB (twL (gq f q k) (f k)) then [twL (gq f q k) (f k)] else []) := rfl
      obtain ⟨x, hx⟩ : ∃ x, x = f k := ⟨_, rfl⟩
      rw [← hx] at qq e1 e2
      have HT := Lib.hid (two_any Q x wr)
      have htw := tw_cn (a := Q) (b := x) (a' := gq f q k) (b' := x) HQ.out rfl
      rw [htw.1, htw.2] at HT
      have E1 := Lib.hid e1; have E2 := Lib.hid e2
      clear hc hx e1 e2 htw
      go_wp2_with fail
      refine HT.out.mono ?_
      rintro en w2 ⟨s, t, rfl, hs, ht, hb2⟩
      have HS : Hid (cn s = gq f q (k + 1)) := Lib.hid (by rw [E1.out]; exact hs)
      have HTT := Lib.hid ht
      have B2 := Lib.hid (BW.out.trans (hb2.mono BW.out.size))
      have OW2 := Lib.hid (own_below OW.out hb2)
      have hnz : fne .f64 t 0 = nzB (twL (gq f q k) x) := fne_cn (by rw [ht, cn_twL])
      clear hs ht hb2 HT
      cases hzz : nzB (twL (gq f q k) x)
      · rw [hzz] at hnz
        have HZZ := Lib.hid hzz
        clear hzz
        go_wp2_with fail
        go_roundw
        case rel => exact ⟨k + 1, s, xs, _, by go_num, by omega, B2.out, rfl, by rw [HS.out, gq_cn], rfl, OW2.out, by rw [HX.out, E2.out, HZZ.out]; simp⟩
        case measure => (simp [intOf] <;> omega)
      · rw [hzz] at hnz
        have HZZ := Lib.hid hzz
        clear hzz
        go_wp2_with (at_builtin
                     refine wpList_floats w _ rfl _ _ rfl rfl (B2.out.alloc B2.out.size _) _ _ (atL xs) rfl (OW2.out.alloc _) (some ⟨w2.heap.size, 0, none⟩) 1 1 (w2.heap.size + 1) (fun _ => t) rfl (flat_new w2 24 t) (by omega) ?_
                     intro u2 w3 ho1 hb1
                     have OW3 := Lib.hid (row_put ho1)
                     have B3 := Lib.hid hb1
                     clear ho1 hb1)
        go_roundw
        case rel => exact ⟨k + 1, s, xs ++ [t], _, by go_num, by omega, B3.out, rfl, by rw [HS.out, gq_cn], rfl, OW3.out, by rw [E2.out, HZZ.out, List.map_append, HX.out]; simp [HTT.out]⟩
        case measure => (simp [intOf] <;> omega)
    · obtain rfl : k = n := by omega
      have hnz : fne .f64 Q 0 = nzB (gq f q k) := fne_cn HQ.out
      cases hzz : nzB (gq f q k)
      · rw [hzz] at hnz
        obtain ⟨VB, vc, rfl, hvc, fv⟩ := flat_cap OW.out
        have FV := Lib.hid fv
        have HZZ := Lib.hid hzz
        clear fv hzz
        go_wp2_with fail
        go_ret
        exact ⟨VB, vc, xs, rfl, by rw [HX.out]; unfold growV; rw [HZZ.out]; simp, hvc, FV.out, BW.out⟩
      · rw [hzz] at hnz
        have HZZ := Lib.hid hzz
        clear hzz
        go_wp2_with (at_builtin
                     refine wpList_floats w _ rfl _ _ rfl rfl (BW.out.alloc BW.out.size _) _ _ (atL xs) rfl (OW.out.alloc _) (some ⟨wr.heap.size, 0, none⟩) 1 1 (wr.heap.size + 1) (fun _ => Q) rfl (flat_new wr 24 Q) (by omega) ?_
                     intro u2 w3 ho1 hb1
                     have OW3 := Lib.hid (row_put ho1)
                     have B3 := Lib.hid hb1
                     clear ho1 hb1)
        obtain ⟨VB, vc, rfl, hvc, fv⟩ := flat_cap OW3.out
        go_ret
        exact ⟨VB, vc, xs ++ [Q], rfl, by unfold growV; rw [HZZ.out, List.map_append, HX.out]; simp [HQ.out, gq_cn], hvc, fv, B3.out⟩
set_option maxHeartbeats 2000000 in
theorem rgrow_any (n c q : Nat) (A : Option Addr) (f : Nat → Nat) (w : World) (hA : FlAt w w.heap.size A n f) (hn : n ≤ 65536) :
    Calls Try.prog 59 #[.slice A n c, .float .f64 q] w (RowLike (growV f q n) w) := by
  have HA := Lib.hid hA
  clear hA
  go_enter Try.func59, Try.ntmps59
  go_wp2_with fail
  go_loopw [6, 5, 7, 8, 9] (fun s v t _ _ wr => ∃ (k Q : Nat) (xs : List Nat) (u : Value), t = .int .i64 k ∧ k ≤ n ∧ Below w.heap.size w wr ∧ s = .float .f64 Q ∧ cn Q = cn (gq f q k) ∧ u = v ∧ wr.ownsRow w.heap.size 24 1 u xs.length (nums (atL xs) xs.length) ∧ xs.map cn = gl f q k) (fun _ _ t _ _ _ => n - (intOf t).toNat)
  case atStart => exact ⟨0, q, [], _, rfl, by omega, (Below.refl _ _).alloc (Nat.le_refl _) _, rfl, (cn_cn q).symm, rfl, World.ownsRow_made (e := 24) (size := 1) w #[] 0 (Nat.le_refl _) (by simp [maxLen]) rfl, rfl⟩
  case round =>
    obtain ⟨k, Q, xs, u, rfl, hk, hbw, rfl, hQ, rfl, hown, hxs⟩ := hrel
    have BW := Lib.hid hbw; have HQ := Lib.hid hQ; have OW := Lib.hid hown; have HX := Lib.hid hxs
    have hxl : xs.length ≤ k := by have h1 := congrArg List.length hxs; have h2 := gl_len f q k; simp at h1; omega
    clear hbw hQ hown hxs
    by_cases hkn : k < n
    · have h3 : (k : Int) < (n : Int) := by omega
      have h0 : (0 : Int) ≤ (k : Int) := by omega
      obtain ⟨a, o, rfl, ha, hc⟩ := (HA.out.below BW.out (Nat.le_refl _)) (by omega)
      have qq := hc k hkn
      have e1 : gq f q (k + 1) = twS (gq f q k) (f k) := rfl
      have e2 : gl f q (k + 1) = gl f q k ++ (if nzB (twL (gq f q k) (f k)) then [twL (gq f q k) (f k)] else []) := rfl
      obtain ⟨x, hx⟩ : ∃ x, x = f k := ⟨_, rfl⟩
      rw [← hx] at qq e1 e2
      have HT := Lib.hid (rtwo_any Q x wr)
      have htw := tw_cn (a := Q) (b := x) (a' := gq f q k) (b' := x) HQ.out rfl
      rw [htw.1, htw.2] at HT
      have E1 := Lib.hid e1; have E2 := Lib.hid e2
      clear hc hx e1 e2 htw
      go_wp2_with fail
      refine HT.out.mono ?_
      rintro en w2 ⟨s, t, rfl, hs, ht, hb2⟩
      have HS : Hid (cn s = gq f q (k + 1)) := Lib.hid (by rw [E1.out]; exact hs)
      have HTT := Lib.hid ht
      have B2 := Lib.hid (BW.out.trans (hb2.mono BW.out.size))
      have OW2 := Lib.hid (own_below OW.out hb2)
      have hnz : fne .f64 t 0 = nzB (twL (gq f q k) x) := fne_cn (by rw [ht, cn_twL])
      clear hs ht hb2 HT
      cases hzz : nzB (twL (gq f q k) x)
      · rw [hzz] at hnz
        have HZZ := Lib.hid hzz
        clear hzz
        go_wp2_with fail
        go_roundw
        case rel => exact ⟨k + 1, s, xs, _, by go_num, by omega, B2.out, rfl, by rw [HS.out, gq_cn], rfl, OW2.out, by rw [HX.out, E2.out, HZZ.out]; simp⟩
        case measure => (simp [intOf] <;> omega)
      · rw [hzz] at hnz
        have HZZ := Lib.hid hzz
        clear hzz
        go_wp2_with (at_builtin
                     refine wpList_floats w _ rfl _ _ rfl rfl (B2.out.alloc B2.out.size _) _ _ (atL xs) rfl (OW2.out.alloc _) (some ⟨w2.heap.size, 0, none⟩) 1 1 (w2.heap.size + 1) (fun _ => t) rfl (flat_new w2 24 t) (by omega) ?_
                     intro u2 w3 ho1 hb1
                     have OW3 := Lib.hid (row_put ho1)
                     have B3 := Lib.hid hb1
                     clear ho1 hb1)
        go_roundw
        case rel => exact ⟨k + 1, s, xs ++ [t], _, by go_num, by omega, B3.out, rfl, by rw [HS.out, gq_cn], rfl, OW3.out, by rw [E2.out, HZZ.out, List.map_append, HX.out]; simp [HTT.out]⟩
        case measure => (simp [intOf] <;> omega)
    · obtain rfl : k = n := by omega
      have hnz : fne .f64 Q 0 = nzB (gq f q k) := fne_cn HQ.out
      cases hzz : nzB (gq f q k)
      · rw [hzz] at hnz
        obtain ⟨VB, vc, rfl, hvc, fv⟩ := flat_cap OW.out
        have FV := Lib.hid fv
        have HZZ := Lib.hid hzz
        clear fv hzz
        go_wp2_with fail
        go_ret
        exact ⟨VB, vc, xs, rfl, by rw [HX.out]; unfold growV; rw [HZZ.out]; simp, hvc, FV.out, BW.out⟩
      · rw [hzz] at hnz
        have HZZ := Lib.hid hzz
        clear hzz
        go_wp2_with (at_builtin
                     refine wpList_floats w _ rfl _ _ rfl rfl (BW.out.alloc BW.out.size _) _ _ (atL xs) rfl (OW.out.alloc _) (some ⟨wr.heap.size, 0, none⟩) 1 1 (wr.heap.size + 1) (fun _ => Q) rfl (flat_new wr 24 Q) (by omega) ?_
                     intro u2 w3 ho1 hb1
                     have OW3 := Lib.hid (row_put ho1)
                     have B3 := Lib.hid hb1
                     clear ho1 hb1)
        obtain ⟨VB, vc, rfl, hvc, fv⟩ := flat_cap OW3.out
        go_ret
        exact ⟨VB, vc, xs ++ [Q], rfl, by unfold growV; rw [HZZ.out, List.map_append, HX.out]; simp [HQ.out, gq_cn], hvc, fv, B3.out⟩
end Go.Proofs.Ytjakjnmfndfehaa

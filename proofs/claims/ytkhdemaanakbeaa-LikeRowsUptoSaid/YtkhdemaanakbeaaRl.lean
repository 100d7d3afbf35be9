/- Plain facts: pieces in common are the same both ways; the longest row that stands in both: as long both ways, the name itself of a name and it, in order in both; the usual distance and what is left. No condition. · A row stands in a name; the usual distance; a number by itself is 1. Condition: names of at most 1048576 code points. -/
import Derived.Test.YtkhdemaanakbeaaDp
import Derived.Test.YtkhdemaanakbeaaCh
import Derived.Test.YtkhdemaanakbeaaUp
import Derived.Test.YtkhdemaanakbeaaDz
namespace Go.Pst
set_option linter.unusedVariables false
section
variable {n m : Nat} {a b : Nat → Int}
theorem lc_symm : ∀ s i j, (n - i) + (m - j) ≤ s → lc n m a b i j = lc m n b a j i := by
  intro s
  induction s with
  | zero => intro i j h; rw [lc_out (by omega), lc_out (by omega)]
  | succ s ih =>
    intro i j h
    by_cases hi : i < n
    · by_cases hj : j < m
      · rw [lc_in hi hj, lc_in hj hi, ih (i + 1) (j + 1) (by omega), ih (i + 1) j (by omega), ih i (j + 1) (by omega)]
        by_cases e : a i = b j
        · rw [if_pos e, if_pos e.symm]; omega
        · rw [if_neg e, if_neg (fun x => e x.symm)]; omega
      · rw [lc_out (by omega), lc_out (by omega)]
    · rw [lc_out (by omega), lc_out (by omega)]
theorem cm_self : ∀ k i, n - i ≤ k → cm n n a a i i = (List.range (n - i)).map (fun q => a (i + q)) ∧ lc n n a a i i = n - i := by
  intro k
  induction k with
  | zero => intro i h; rw [cm_out (by omega), lc_out (by omega), show n - i = 0 by omega]; exact ⟨rfl, rfl⟩
  | succ k ih =>
    intro i h
    by_cases hi : i < n
    · obtain ⟨h1, h2⟩ := ih (i + 1) (by omega)
      have h3 : lc n n a a i i = n - i := by
        have h4 := lc_n (n := n) (m := n) (a := a) (b := a) (i := i) (j := i)
        have h5 : lc n n a a (i + 1) (i + 1) + 1 ≤ lc n n a a i i := by rw [lc_in hi hi, if_pos rfl]; omega
        omega
      have hf : firstM n a (a i) i = i := by unfold firstM; rw [if_pos hi, if_pos rfl]
      refine ⟨?_, h3⟩
      rw [cm_take hi hf hi (by omega), h1, show n - i = (n - (i + 1)) + 1 by omega, List.range_succ_eq_map, List.map_cons, List.map_map]
      congr 1
      refine List.map_congr_left fun q _ => ?_
      show a (i + 1 + q) = a (i + (q + 1))
      congr 1; omega
    · rw [cm_out hi, lc_out (by omega), show n - i = 0 by omega]; exact ⟨rfl, rfl⟩
/-- A row stands in order in what of a name begins at i. -/
def Emb (a : Nat → Int) (n : Nat) : Nat → List Int → Prop
  | _, [] => True
  | i, x :: r => ∃ p, i ≤ p ∧ p < n ∧ a p = x ∧ Emb a n (p + 1) r
theorem Emb.less : ∀ {l : List Int} {i j : Nat}, Emb a n j l → i ≤ j → Emb a n i l
  | [], _, _, _, _ => trivial
  | x :: r, i, j, ⟨p, h1, h2, h3, h4⟩, h => ⟨p, by omega, h2, h3, h4⟩
theorem Emb.hit {i : Nat} {x : Int} {r : List Int} (h : Emb a n i (x :: r)) : Emb a n (i + 1) r := by
  obtain ⟨p, h1, h2, h3, h4⟩ := h
  exact h4.less (by omega)
theorem Emb.miss {i : Nat} {x : Int} {r : List Int} (h : Emb a n i (x :: r)) (hne : a i ≠ x) : Emb a n (i + 1) (x :: r) := by
  obtain ⟨p, h1, h2, h3, h4⟩ := h
  refine ⟨p, ?_, h2, h3, h4⟩
  rcases Nat.eq_or_lt_of_le h1 with e | e
  · subst e; exact absurd h3 hne
  · exact e
theorem Emb.last {l : List Int} (h : Emb a n n l) : l = [] := by
  cases l with
  | nil => rfl
  | cons x r => obtain ⟨p, h1, h2, _⟩ := h; omega
theorem cm_emb : ∀ k i j, n - i ≤ k → j ≤ m → Emb a n i (cm n m a b i j) ∧ Emb b m j (cm n m a b i j) := by
  intro k
  induction k with
  | zero => intro i j h _; rw [cm_out (by omega)]; exact ⟨trivial, trivial⟩
  | succ k ih =>
    intro i j h hj
    by_cases hi : i < n
    · by_cases hc : firstM m b (a i) j < m ∧ lc n m a b (i + 1) (firstM m b (a i) j + 1) + 1 = lc n m a b i j
      · rw [cm_take hi rfl hc.1 hc.2]
        obtain ⟨h1, h2⟩ := ih (i + 1) (firstM m b (a i) j + 1) (by omega) (by omega)
        rcases first_spec (m := m) (b := b) (x := a i) _ j (Nat.le_refl _) with ⟨g1, g2, g3⟩ | g1
        · obtain ⟨g4, g5⟩ := g1 hc.1
          exact ⟨⟨i, Nat.le_refl _, hi, rfl, h1⟩, ⟨_, g4, hc.1, g5.symm, h2⟩⟩
        · omega
      · rw [cm_skip hi hc]
        obtain ⟨h1, h2⟩ := ih (i + 1) j (by omega) hj
        exact ⟨h1.less (by omega), h2⟩
    · rw [cm_out hi]; exact ⟨trivial, trivial⟩
end
end Go.Pst
namespace Go.Proofs.Ytkhdemaanakbeaa
open Go.Pst
set_option linter.unusedVariables false
section
variable {n m : Nat} {a b : Nat → Int}
theorem lev_row {i j : Nat} : lev a b (i + 1) j ≤ lev a b i j + 1 := by
  cases j with
  | zero => rw [lev]; exact Nat.le_refl _
  | succ j => rw [lev]; split <;> omega
theorem lev_col {i j : Nat} : lev a b i (j + 1) ≤ lev a b i j + 1 := by
  cases i with
  | zero => rw [lev]; exact Nat.le_refl _
  | succ i => rw [lev]; split <;> omega
theorem lev_same {i j : Nat} (h : a i = b j) : lev a b (i + 1) (j + 1) ≤ lev a b i j := by
  rw [lev, if_pos h]; split <;> omega
/-- What is left behind two places bounds what the distance may still grow by. -/
theorem lev_lc : ∀ s i j, (n - i) + (m - j) ≤ s → i ≤ n → j ≤ m → lev a b n m + 2 * lc n m a b i j ≤ lev a b i j + (n - i) + (m - j) := by
  intro s
  induction s with
  | zero =>
    intro i j h hi hj
    obtain rfl : i = n := by omega
    obtain rfl : j = m := by omega
    rw [lc_out (by omega)]; omega
  | succ s ih =>
    intro i j h hi hj
    by_cases h1 : i < n
    · have g1 := ih (i + 1) j (by omega) (by omega) hj
      have r1 := lev_row (a := a) (b := b) (i := i) (j := j)
      by_cases h2 : j < m
      · have g2 := ih i (j + 1) (by omega) hi (by omega)
        have r2 := lev_col (a := a) (b := b) (i := i) (j := j)
        rw [lc_in h1 h2]
        by_cases e : a i = b j
        · have g3 := ih (i + 1) (j + 1) (by omega) (by omega) (by omega)
          have r3 := lev_same e
          rw [if_pos e]; omega
        · rw [if_neg e]; omega
      · rw [lc_out (by omega)]
        have := lc_out (n := n) (m := m) (a := a) (b := b) (i := i + 1) (j := j) (by omega)
        omega
    · by_cases h2 : j < m
      · have g2 := ih i (j + 1) (by omega) hi (by omega)
        have r2 := lev_col (a := a) (b := b) (i := i) (j := j)
        rw [lc_out (by omega)] at g2 ⊢
        omega
      · rw [lc_out (by omega)]
        obtain rfl : i = n := by omega
        obtain rfl : j = m := by omega
        omega
theorem lev_left : lev a b n m + 2 * lc n m a b 0 0 ≤ n + m := by
  have h := lev_lc (n := n) (m := m) (a := a) (b := b) _ 0 0 (Nat.le_refl _) (Nat.zero_le _) (Nat.zero_le _)
  rw [lev] at h; omega
end
section
variable {α : Type} [DecidableEq α]
/-- One more of a key there: one more that finds its like. -/
theorem gL_grow {kB : Nat → α} {c c' : α → Nat} {v : α} (hv : c' v = c v + 1) (ho : ∀ u, u ≠ v → c' u = c u) :
    ∀ N, gL kB c' (fun _ => true) N = gL kB c (fun _ => true) N + (if c v < cntK kB N v then 1 else 0)
  | 0 => by
    show 0 = 0 + (if c v < 0 then 1 else 0)
    rw [if_neg (by omega)]
  | N + 1 => by
    have ih := gL_grow (kB := kB) hv ho N
    show gL kB c' (fun _ => true) N + (if true = true ∧ cntK kB N (kB N) < c' (kB N) then 1 else 0) = gL kB c (fun _ => true) N + (if true = true ∧ cntK kB N (kB N) < c (kB N) then 1 else 0) + _
    by_cases e : kB N = v
    · rw [e, cntK_hit e, ih, hv]
      simp only [true_and]
      rcases Nat.lt_trichotomy (c v) (cntK kB N v) with h | h | h
      · rw [if_pos h, if_neg (by omega), if_neg (by omega), if_pos (by omega)]
      · rw [if_neg (by omega), if_pos (by omega), if_neg (by omega), if_pos (by omega)]
      · rw [if_neg (by omega), if_pos (by omega), if_pos (by omega), if_neg (by omega)]
    · rw [ho _ e, cntK_miss e, ih]; omega
theorem gL_symm {kA kB : Nat → α} {N : Nat} : ∀ M, gL kA (cntK kB N) (fun _ => true) M = gL kB (cntK kA M) (fun _ => true) N
  | 0 => by
    have h : ∀ N, gL kB (cntK kA 0) (fun _ => true) N = 0 := fun N => by
      induction N with
      | zero => rfl
      | succ N ih =>
        show gL kB (cntK kA 0) (fun _ => true) N + (if true = true ∧ cntK kB N (kB N) < 0 then 1 else 0) = 0
        rw [ih, if_neg (by omega)]
    exact (h N).symm
  | M + 1 => by
    have ih := gL_symm (kA := kA) (kB := kB) (N := N) M
    rw [gL_grow (c := cntK kA M) (c' := cntK kA (M + 1)) (v := kA M) (cntK_hit rfl) (fun u hu => cntK_miss (Ne.symm hu)) N, ← ih]
    show gL kA (cntK kB N) (fun _ => true) M + (if true = true ∧ cntK kA M (kA M) < cntK kB N (kA M) then 1 else 0) = _
    simp only [true_and]
theorem dC_symm {kA kB : Nat → α} {M N : Nat} : dC kA kB N M = dC kB kA M N := by rw [dC_gL, dC_gL, gL_symm]
theorem cntK_mono {k : Nat → α} {v : α} {i j : Nat} (h : i ≤ j) : cntK k i v ≤ cntK k j v := by
  induction j with
  | zero => rw [show i = 0 by omega]; exact Nat.le_refl _
  | succ j ih =>
    rcases Nat.eq_or_lt_of_le h with e | e
    · rw [e]; exact Nat.le_refl _
    · have := ih (by omega)
      show _ ≤ cntK k j v + (if k j = v then 1 else 0)
      omega
theorem dC_self {k : Nat → α} {M : Nat} : dC k k M M = M := by
  rw [dC_gL]
  have h : ∀ i, i ≤ M → gL k (cntK k M) (fun _ => true) i = i := fun i => by
    induction i with
    | zero => intro _; rfl
    | succ i ih =>
      intro hi
      show gL k (cntK k M) (fun _ => true) i + (if true = true ∧ cntK k i (k i) < cntK k M (k i) then 1 else 0) = i + 1
      have h1 := cntK_hit (k := k) (i := i) (v := k i) rfl
      have h2 := cntK_mono (k := k) (v := k i) (show i + 1 ≤ M from hi)
      rw [ih (by omega), if_pos ⟨rfl, by omega⟩]
  exact h M (Nat.le_refl _)
end
end Go.Proofs.Ytkhdemaanakbeaa

namespace Go.Pst
open Go Ieee Go.RowKit
set_option linter.unusedVariables false
theorem quot_self (s : Bool) (m : Nat) (i : Int) (h : m ≠ 0) : (Datum.number s m i).quotient 54 (.number s m i) = some (.number (s ^^ s) (2 * 2 ^ 54) (-55)) := by
  unfold Datum.quotient
  simp only
  rw [if_neg h]
  have h1 : 54 + m.log2 - m.log2 = 54 := by omega
  simp only [h1, Nat.shiftLeft_eq]
  have h2 : m * 2 ^ 54 / m = 2 ^ 54 := Nat.mul_div_cancel_left _ (by omega)
  have h3 : m * 2 ^ 54 % m = 0 := Nat.mul_mod_right _ _
  rw [h2, h3]
  have h4 : i - i - ((54 : Nat) : Int) - 1 = -55 := by omega
  rw [h4]; rfl
theorem quo_self {x : Nat} (hx : finB x) (h : mantB x ≠ 0) : arV .quo x x = ONE := by
  have h1 : arD .quo x x = ((Ieee.double.read x).quotient 54 (Ieee.double.read x)).map Ieee.double.write := rfl
  unfold arV
  rw [h1, read_fin hx, quot_self _ _ _ h, Option.map_some, write64]
  cases negB x <;> decide +kernel
theorem quo_fl {g : Nat} (hg : g < 2 ^ 53) (h0 : 0 < g) : arV .quo (fl g) (fl g) = ONE := by
  obtain ⟨f1, n1, v1⟩ := fl_fin hg
  refine quo_self f1 fun h => ?_
  rw [valZ_eq, n1, h] at v1
  have : ((g * 2 ^ K74 : Nat) : Int) = 0 := v1.symm.trans (by unfold sgn; simp)
  have hp : 0 < g * 2 ^ K74 := Nat.mul_pos h0 (Nat.two_pow_pos _)
  omega
end Go.Pst
namespace Go.Proofs.Ytkhdemaanakbeaa
open Go.RowKit Go.Pst Go.ChangeShapes Go.WideShapes Go.ChangeAt Go.Joins Go.Deep
set_option maxRecDepth 20000
set_option linter.unusedSimpArgs false
set_option linter.unusedVariables false
theorem diV_self (n size : Nat) (fa : Nat → Int) (hn : n ≤ 1048576) : diV n n size fa fa = ONE := by
  unfold diV
  split
  · rfl
  · rename_i h
    unfold diG
    rw [dC_self, show 2 * (n + 1 - size) = (n + 1 - size) + (n + 1 - size) by omega]
    exact quo_fl (by omega) (by omega)
theorem diV_symm (n m size : Nat) (fa fb : Nat → Int) : diV n m size fa fb = diV m n size fb fa := by
  unfold diV diG
  rw [dC_symm, Nat.add_comm (n + 1 - size)]
set_option maxHeartbeats 1000000 in
theorem stands_any (L A : Option Addr) (n cl c : Nat) (l : List Int) (fa : Nat → Int) (w : World) (hL : NameAt w w.heap.size L l.length (fun q => l.getD q 0)) (hA : NameAt w w.heap.size A n fa) (hn : n ≤ 1048576) (hl : l.length ≤ 1048576) (he : Emb fa n 0 l) :
    Calls Try.prog 39 #[.slice L l.length cl, .slice A n c] w fun en w' => en = .returned (.bool true) ∧ Below w.heap.size w w' := by
  have HA := Lib.hid hA; have HL := Lib.hid hL; have HE := Lib.hid he
  clear hA hL he
  go_enter Try.func39, Try.ntmps39
  go_wp2_with fail
  go_loopw [5, 6] (fun s t wr => ∃ at' i : Nat, s = .int .i64 (at' : Int) ∧ t = .int .i64 (i : Int) ∧ i ≤ n ∧ at' ≤ l.length ∧ Emb fa n i (l.drop at') ∧ Below w.heap.size w wr) (fun _ t _ => n - (intOf t).toNat)
  case atStart => exact ⟨0, 0, rfl, rfl, by omega, by omega, HE.out, Below.refl _ _⟩
  case round =>
    obtain ⟨at', i, rfl, rfl, hi, hat, hem, hbw⟩ := hrel
    have EM := Lib.hid hem; have BW := Lib.hid hbw
    have hsz := hbw.size
    clear hem hbw HE
    by_cases h1 : i < n
    · have k1 : (i : Int) < (n : Int) := by omega
      by_cases h2 : at' < l.length
      · have k2 : (at' : Int) < (l.length : Int) := by omega
        have k3 : (0 : Int) ≤ (i : Int) := by omega
        have k4 : (0 : Int) ≤ (at' : Int) := by omega
        have hd : l.drop at' = l.getD at' 0 :: l.drop (at' + 1) := by
          rw [List.drop_eq_getElem_cons h2, List.getD_eq_getElem?_getD, List.getElem?_eq_getElem h2]; rfl
        have HD := Lib.hid hd
        obtain ⟨ga, oa, rfl, hga, hca⟩ := (HA.out.below BW.out (Nat.le_refl _)) (by omega)
        obtain ⟨gb, ob, rfl, hgb, hcb⟩ := (HL.out.below BW.out (Nat.le_refl _)) (by omega)
        have qa := hca i h1
        have qb : wr.cell? ⟨gb, ob + at', none⟩ = some (.int .i32 (l.getD at' 0)) := hcb at' h2
        have qga : ga < wr.heap.size := by omega
        have qgb : gb < wr.heap.size := by omega
        clear hca hcb hd
        generalize l.getD at' 0 = y at *
        generalize l.length = L at *
        cases hfe : (fa i == y)
        · have E2 : Hid (Emb fa n (i + 1) (l.drop at')) := Lib.hid (by
            have := EM.out
            rw [HD.out] at this ⊢
            exact this.miss (by simpa using hfe))
          go_wp2_with fail
          refine Reg.wp_region_rd (by kernel_rfl) (by kernel_rfl) (fun _ => ?_)
          repeat (refine Reg.rd_op rfl ?_; apply Exists.intro; apply And.intro; (intro w' hb; have hc := Reg.rd_cells hb; clear hb; go_simp; (try go_bits); first | done | (with_reducible exact rfl)); (intro _ a' ha'; simp only [Act.put, List.setIfInBounds_toArray, List.set_cons_zero, List.set_cons_succ] at ha'; subst ha'))
          refine Reg.rd_end (fun wz hb => ?_)
          have BW2 := Lib.hid (BW.out.trans (hb.mono hsz))
          clear hb
          go_wp2_with fail
          go_roundw
          case rel => exact ⟨at', i + 1, rfl, by go_num, by omega, by omega, E2.out, BW2.out⟩
          case measure => (simp [intOf] <;> omega)
        · have E2 : Hid (Emb fa n (i + 1) (l.drop (at' + 1))) := Lib.hid (by
            have := EM.out
            rw [HD.out] at this
            exact this.hit)
          go_wp2_with fail
          refine Reg.wp_region_rd (by kernel_rfl) (by kernel_rfl) (fun _ => ?_)
          repeat (refine Reg.rd_op rfl ?_; apply Exists.intro; apply And.intro; (intro w' hb; have hc := Reg.rd_cells hb; clear hb; go_simp; (try go_bits); first | done | (with_reducible exact rfl)); (intro _ a' ha'; simp only [Act.put, List.setIfInBounds_toArray, List.set_cons_zero, List.set_cons_succ] at ha'; subst ha'))
          refine Reg.rd_end (fun wz hb => ?_)
          have BW2 := Lib.hid (BW.out.trans (hb.mono hsz))
          clear hb
          go_wp2_with fail
          go_roundw
          case rel => exact ⟨at' + 1, i + 1, by go_num, by go_num, by omega, by omega, E2.out, BW2.out⟩
          case measure => (simp [intOf] <;> omega)
      · obtain rfl : at' = l.length := by omega
        have k2 : decide ((l.length : Int) < (l.length : Int)) = false := by simp
        have k2' : ¬ (l.length : Int) < (l.length : Int) := by omega
        generalize l.length = L at *
        go_wp2_with fail
        go_ret
        exact ⟨rfl, BW.out⟩
    · obtain rfl : i = n := by omega
      have k1 : ¬ (i : Int) < (i : Int) := by omega
      have k1' : decide ((i : Int) < (i : Int)) = false := by simp
      have h3 : at' = l.length := by
        have h4 := congrArg List.length (EM.out.last)
        rw [List.length_drop] at h4
        simp at h4; omega
      subst h3
      generalize l.length = L at *
      go_wp2_with fail
      go_ret
      exact ⟨rfl, BW.out⟩
end Go.Proofs.Ytkhdemaanakbeaa

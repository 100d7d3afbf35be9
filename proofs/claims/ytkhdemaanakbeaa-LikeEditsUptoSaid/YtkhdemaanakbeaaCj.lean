/- The document's longest row that stands in both. Condition: the names are not too long. -/
import Derived.Test.YtkhdemaanakbeaaCg
namespace Go.Proofs.Ytkhdemaanakbeaa
open Go.RowKit Go.Pst
set_option maxRecDepth 100000
set_option linter.unusedSimpArgs false
set_option linter.unusedVariables false

/-- The rows that are done, of noughts. -/
def RowsZ (w : World) (H m i : Nat) (R : Nat → Nat) : Prop :=
  ∀ r, r < i → H ≤ R r ∧ ∃ cs, w.heap[R r]? = some (.cells cs 3 (0, 0)) ∧ ∀ j, j < m → cs[j]? = some (.int .i64 0)
def Apart (i : Nat) (R : Nat → Nat) : Prop := ∀ r s, r < i → s < i → r ≠ s → R r ≠ R s

section
variable {w w' : World} {H m i : Nat} {R C : Nat → Nat}
theorem RowsZ.lt (h : RowsZ w H m i R) {r : Nat} (hr : r < i) : R r < w.heap.size := by
  obtain ⟨_, cs, h1, _⟩ := h r hr; exact heap_lt h1
theorem RowsZ.below (h : RowsZ w H m i R) (hb : Below w.heap.size w w') : RowsZ w' H m i R := fun r hr => by
  obtain ⟨h0, cs, h1, h2⟩ := h r hr
  exact ⟨h0, cs, (hb.block _ (heap_lt h1)).trans h1, h2⟩
theorem RowsZ.grown {row : Option Nat} (h : RowsZ w H m i R) (hg : w.grownBy w' row) (hr : ∀ r, r < i → some (R r) ≠ row) : RowsZ w' H m i R := fun r hri => by
  obtain ⟨h0, cs, h1, h2⟩ := h r hri
  exact ⟨h0, cs, (hg.block _ (heap_lt h1) (hr r hri)).trans h1, h2⟩

theorem noughts_done {base g cap n : Nat} (h : w.ownsRow base 3 1 (.slice (some ⟨g, 0, none⟩) n cap) n (List.replicate n (.int .i64 0))) :
    base ≤ g ∧ ∃ cs, w.heap[g]? = some (.cells cs 3 (0, 0)) ∧ ∀ j, j < n → cs[j]? = some (.int .i64 0) := by
  rcases h.2 with ⟨h1, _⟩ | ⟨g', cap', cur, h1, h2, h3, h4, h5, h6, h7⟩
  · cases h1
  · injection h1 with h1 _ _
    injection h1 with h1
    injection h1 with h1
    subst h1
    refine ⟨h2, cur, h3, fun j hj => ?_⟩
    have hu : (List.replicate n (Value.int .i64 0))[j]? = some (.int .i64 0) := by simp [hj]
    rw [← h7, Nat.mul_one, List.getElem?_take_of_lt hj] at hu
    simpa using hu

theorem IG_of_rows {base g cap n : Nat} (ho : w.ownsRow base 103 1 (.slice (some ⟨g, 0, none⟩) n cap) n (rows R C m n)) (hz : RowsZ w H m n R) (hi : Apart n R) (hH : H ≤ base) :
    IG w H g n m 0 R C (fun _ _ => 0) where
  dlt := (ho.lt g rfl).2
  hB := Nat.le_trans hH (ho.lt g rfl).1
  dfr r := by
    rcases ho.2 with ⟨h1, _⟩ | ⟨g', cap', cur, h1, h2, h3, h4⟩
    · cases h1
    · injection h1 with h1 _ _
      injection h1 with h1
      injection h1 with h1
      subst h1
      exact frozen_of_row _ _ _ _ _ h3
  done r h1 h2 := own_cell ho (rows_get R C m h2)
  todo r h1 := by omega
  rlt r h1 h2 := by
    obtain ⟨h3, cs, h4, h5⟩ := hz r h2
    refine ⟨h3, fun e => own_ne ho h4 (by decide) ?_, heap_lt h4⟩
    rw [e]; rfl
  inj r s h1 h2 h3 h4 hne := hi r s h2 h4 hne
  rfr r j h1 h2 := by
    obtain ⟨h3, cs, h4, h5⟩ := hz r h2
    exact frozen_of_row _ _ _ _ _ h4
  cell r j h1 h2 hj := by
    obtain ⟨h3, cs, h4, h5⟩ := hz r h2
    rw [cell_of_row w (R r) j cs _ (0, 0) h4]
    exact h5 j hj
end

/-- The numbers so far, the one at hand told. -/
def curI (T : Nat → Nat → Nat) (i j x r k : Nat) : Int := if r = i ∧ k = j then (x : Int) else partI T i (j + 1) r k

/-- The list that is made. -/
def RCommonPost (l : List Int) (w : World) (en : Ending) (w' : World) : Prop :=
  ∃ v, en = .returned v ∧ w'.ownsRow w.heap.size 21 1 v l.length (l.map fun x => .int .i32 x) ∧ Below w.heap.size w w'



set_option maxHeartbeats 16000000 in
theorem rcommon_any (n m c d : Nat) (A B : Option Addr) (fa fb : Nat → Int) (w : World) (hA : NameAt w w.heap.size A n fa) (hB : NameAt w w.heap.size B m fb)
    (hn : n ≤ 1048576) (hm : m ≤ 1048576) :
    Calls Try.prog 33 #[.slice A n c, .slice B m d] w (RCommonPost (cm n m fa fb 0 0) w) := by
  obtain ⟨i0, hi0, hz0, hz1, hz2⟩ := info_parts infoRowI
  obtain ⟨j0, hj0, hy0, hy1, hy2⟩ := info_parts infoInt
  obtain ⟨k0, hk0, hx0, hx1, hx2⟩ := info_parts infoI32
  have I0 := Lib.hid hi0; have I1 := Lib.hid hz0; have I2 := Lib.hid hz1; have I3 := Lib.hid hz2
  have J0 := Lib.hid hj0; have J1 := Lib.hid hy0; have J2 := Lib.hid hy1; have J3 := Lib.hid hy2
  have K0 := Lib.hid hk0; have K1 := Lib.hid hx0; have K2 := Lib.hid hx1; have K3 := Lib.hid hx2
  clear hi0 hz0 hz1 hz2 hj0 hy0 hy1 hy2 hk0 hx0 hx1 hx2
  have HA := Lib.hid hA; have HB := Lib.hid hB
  have HT := Lib.hid (fun i j (hi : i < n) (hj : j < m) => lc_in (n := n) (m := m) (a := fa) (b := fb) hi hj)
  have HT0 := Lib.hid (fun i j (h : ¬ (i < n ∧ j < m)) => lc_out (a := fa) (b := fb) h)
  have HLE := Lib.hid (fun i j => Nat.le_trans (lc_n (n := n) (m := m) (a := fa) (b := fb) (i := i) (j := j)) (show n - i ≤ 1048576 by omega))
  have HFO := Lib.hid (fun p j q L hp hL hj hq he hc h => cm_found (n := n) (m := m) (a := fa) (b := fb) (p := p) (j := j) (q := q) (L := L) hp hL hj hq he hc h)
  have HNO := Lib.hid (fun p j L hp hj hL h => cm_none (n := n) (m := m) (a := fa) (b := fb) (p := p) (j := j) (L := L) hp hj hL h)
  have HCZ := Lib.hid (fun i j h => cm_zero (n := n) (m := m) (a := fa) (b := fb) _ i j (Nat.le_refl _) h)
  generalize hTT : lc n m fa fb = T at *
  generalize hCC : cm n m fa fb = K at *
  clear hA hB
  go_enter Try.func33, Try.ntmps33
  go_wp2
  obtain ⟨Bo, hBo⟩ : ∃ Bo, Bo = w.heap.size := ⟨_, rfl⟩
  go_loopw [5, 6] (fun dv t wr => ∃ (i : Nat) (v : Value) (R C : Nat → Nat), t = .int .i64 i ∧ i ≤ n + 1 ∧ v = dv ∧ wr.ownsRow w.heap.size 103 1 v i (rows R C (m + 1) i) ∧ RowsZ wr w.heap.size (m + 1) i R ∧ Apart i R ∧
      Below w.heap.size w wr) (fun _ t _ => n + 1 - (intOf t).toNat)
  case atStart =>
    exact ⟨0, _, fun _ => 0, fun _ => 0, rfl, by omega, rfl, own_made _ _ _ _ _ (by simp) (Nat.le_refl _), fun r hr => by omega, fun r s hr => by omega, (Below.refl _ _).alloc (Nat.le_refl _) _⟩
  case round =>
    obtain ⟨i, v, R, C, rfl, h1, rfl, hown, hrows, hap, hbw⟩ := hrel
    have OD := Lib.hid hown; have RW := Lib.hid hrows; have BW := Lib.hid hbw; have AP := Lib.hid hap
    clear hown hrows hbw hap
    by_cases hi : i < n + 1
    ·
      as_aux_lemma =>
        have h3 : (i : Int) ≤ (n : Int) := by omega
        obtain ⟨Bi, hBi⟩ : ∃ Bi, Bi = wr.heap.size := ⟨_, rfl⟩
        have DL : Hid (∀ q, v.ownBlock = some q → q < Bi ∧ w.heap.size ≤ q) := Lib.hid fun q e => by have := OD.out.lt q e; omega
        have RL : Hid (∀ r, r < i → R r < Bi) := Lib.hid fun r hr => by rw [hBi]; exact RW.out.lt hr
        have BL : w.heap.size ≤ Bi := by have := BW.out.size; omega
        have hal := (Below.refl wr.heap.size wr).alloc (Nat.le_refl _) (.cells #[] 3)
        have OD1 := Lib.hid (own_below OD.out hal)
        have RW1 := Lib.hid (RW.out.below hal)
        have BW1 := Lib.hid (BW.out.trans (hal.mono BW.out.size))
        have OR1 : Hid (World.ownsRow (wr.alloc (.cells #[] 3)) Bi 3 1 (.slice (some ⟨wr.heap.size, 0, none⟩) 0 0) 0 (List.replicate 0 (.int .i64 0))) := Lib.hid (World.ownsRow_made _ #[] 0 (by omega) (by simp [maxLen]) rfl)
        have SZ1 : Bi ≤ (wr.alloc (.cells #[] 3)).heap.size := by simp; omega
        have HBI := Lib.hid hBi
        clear hal hBi
        go_wp2_with fail
        obtain ⟨wo, rfl⟩ : ∃ wo : World, wo = wr := ⟨_, rfl⟩
        go_loopw [7, 8] (fun rv t wr => ∃ (j : Nat) (vr : Value), t = .int .i64 j ∧ j ≤ m + 1 ∧ vr = rv ∧ wr.ownsRow Bi 3 1 vr j (List.replicate j (.int .i64 0)) ∧
            wr.ownsRow w.heap.size 103 1 v i (rows R C (m + 1) i) ∧ RowsZ wr w.heap.size (m + 1) i R ∧ Below w.heap.size w wr ∧ Bi ≤ wr.heap.size) (fun _ t _ => m + 1 - (intOf t).toNat)
        case atStart => exact ⟨0, _, rfl, by omega, rfl, OR1.out, OD1.out, RW1.out, BW1.out, SZ1⟩
        case round =>
          obtain ⟨j, vr, rfl, hj1, rfl, hor, hod, hrw, hbw, hsz1⟩ := hrel
          clear OD1 RW1 BW1 OR1 SZ1
          have OR1 := Lib.hid hor; have OD1 := Lib.hid hod; have RW1 := Lib.hid hrw; have BW1 := Lib.hid hbw
          clear hor hod hrw hbw
          by_cases hj : j < m + 1
          · have h4 : (j : Int) ≤ (m : Int) := by omega
            go_wp2_with (at_builtin
                         refine wpList_append_lies _ rfl _ _ _ rfl Bi 3 j0 _ 1 8 Try.underlying103 J0.out J1.out J2.out J3.out rfl (by omega) vr j (List.replicate j (.int .i64 0)) rfl (OR1.out.alloc _) ⟨wr.heap.size, 0, none⟩ 1 1 [.int .i64 0] rfl rfl (World.news_of_block (heap_alloc_new _ _)) (by simp [Value.oneCell']) (by omega) (by unfold maxLen; omega) (by omega) (by simp; omega) (wr.heap.size + 1) (by simp) ?_
                         intro g' cap' w1 hown1 hgrow hat hlt
                         have ORN := Lib.hid hown1
                         have HGR := Lib.hid hgrow
                         clear hown1 hgrow hat)
            have hal := (Below.refl wr.heap.size wr).alloc (Nat.le_refl _) (.cells #[.int .i64 0] 3)
            have hrl := OR1.out.lt
            have ODN := Lib.hid ((own_below OD1.out hal).kept HGR.out (by
              rcases hvd : v.ownBlock with _ | q
              · exact .inl rfl
              · right
                intro e
                have h1 := DL.out _ hvd
                have h2 := (hrl _ e.symm).1
                omega))
            have RWN := Lib.hid ((RW1.out.below hal).grown HGR.out (fun r hr e => by
              have h2 := (hrl _ e.symm).1
              have h3 := RL.out r hr
              omega))
            have BWN := Lib.hid ((BW1.out.trans (hal.mono BW1.out.size)).grown HGR.out (by simp; omega) (fun q e => by have h2 := (hrl _ e).1; omega))
            have SZN : Bi ≤ w1.heap.size := by have := HGR.out.size; simp at this; omega
            rw [← List.replicate_succ'] at ORN
            clear hal hrl
            go_wp2_with fail
            go_roundw
            case rel => exact ⟨j + 1, _, by go_num, by omega, rfl, ORN.out, ODN.out, RWN.out, BWN.out, SZN⟩
            case measure => (simp [intOf] <;> omega)
          · obtain rfl : j = m + 1 := by omega
            have hjm : ¬ ((m + 1 : Nat) : Int) ≤ (m : Int) := by omega
            obtain ⟨gr, capr, rfl, hgr, hgr2⟩ := OR1.out.form (by omega)
            have hdone := Lib.hid (noughts_done OR1.out)
            go_wp2_with (at_builtin
                         refine wpList_append_lies _ rfl _ _ _ rfl w.heap.size 103 i0 _ 1 24 Try.underlying102 I0.out I1.out I2.out I3.out rfl (by omega) v i (rows R C (m + 1) i) rfl (OD1.out.alloc _) ⟨wr.heap.size, 0, none⟩ 1 1 [.slice (some ⟨gr, 0, none⟩) (m + 1) capr] rfl rfl (World.news_of_block (heap_alloc_new _ _)) (by simp [Value.oneCell']) (by omega) (by unfold maxLen; omega) (by omega) (by simp; omega) (wr.heap.size + 1) (by simp) ?_
                         intro g' cap' w1 hown1 hgrow hat hlt
                         have ORN := Lib.hid hown1
                         have HGR := Lib.hid hgrow
                         clear hown1 hgrow hat)
            have hal := (Below.refl wr.heap.size wr).alloc (Nat.le_refl _) (.cells #[.slice (some ⟨gr, 0, none⟩) (m + 1) capr] 103)
            have hrl := OD1.out.lt
            have RWN := Lib.hid ((RW1.out.below hal).grown HGR.out (fun r hr e => by
              obtain ⟨-, cs, hcs, -⟩ := RW1.out r hr
              exact own_ne OD1.out hcs (by decide) e.symm))
            have RWZ : Hid (RowsZ w1 w.heap.size (m + 1) (i + 1) (fun r => if r = i then gr else R r)) := Lib.hid (fun r hr => by
              show w.heap.size ≤ (if r = i then gr else R r) ∧ ∃ cs, w1.heap[(if r = i then gr else R r)]? = some (.cells cs 3 (0, 0)) ∧ _
              by_cases hri : r = i
              · rw [if_pos hri]
                obtain ⟨e0, cs, e1, e2⟩ := hdone.out
                refine ⟨by omega, cs, ?_, e2⟩
                have e3 := (hal.block gr hgr2).trans e1
                exact (HGR.out.block gr (by simp; omega) (fun e => own_ne OD1.out e1 (by decide) e.symm)).trans e3
              · rw [if_neg hri]
                exact RWN.out r (by omega))
            have APN : Hid (Apart (i + 1) (fun r => if r = i then gr else R r)) := Lib.hid (fun r s hr hs hne => by
              show (if r = i then gr else R r) ≠ (if s = i then gr else R s)
              have g1 := hdone.out.1
              by_cases hri : r = i
              · rw [if_pos hri, if_neg (by omega)]
                have := RL.out s (by omega); omega
              · rw [if_neg hri]
                by_cases hsi : s = i
                · rw [if_pos hsi]
                  have := RL.out r (by omega); omega
                · rw [if_neg hsi]
                  exact AP.out r s (by omega) (by omega) hne)
            have BWN := Lib.hid ((BW1.out.trans (hal.mono BW1.out.size)).grown HGR.out (by simp; omega) (fun q e => by have h2 := (hrl _ e).1; omega))
            rw [rows_succ] at ORN
            clear hal hrl
            go_wp2_with fail
            go_roundw
            case rel => exact ⟨i + 1, _, _, _, by go_num, by omega, rfl, ORN.out, RWZ.out, APN.out, BWN.out⟩
            case measure => (simp [intOf] <;> omega)
    · obtain rfl : i = n + 1 := by omega
      have hin : ¬ ((n + 1 : Nat) : Int) ≤ (n : Int) := by omega
      obtain ⟨Bg, capd, rfl, hgd, hgd2⟩ := OD.out.form (by omega)
      have G := Lib.hid (IG_of_rows OD.out RW.out AP.out (Nat.le_refl _))
      clear OD RW AP hgd hgd2 I0 I1 I2 I3 J0 J1 J2 J3
      go_wp2_with fail
      go_loopw [9] (fun t wr => ∃ (i : Nat), t = .int .i64 ((i : Int) - 1) ∧ i ≤ n ∧ IG wr w.heap.size Bg (n + 1) (m + 1) 0 R C (partI T i 0) ∧ Below w.heap.size w wr) (fun t _ => (intOf t + 1).toNat)
      case atStart =>
        refine ⟨n, by go_num, Nat.le_refl _, G.out.congr (fun r k h1 h2 h3 => ?_), BW.out⟩
        unfold partI
        split
        · rw [HT0.out r k (by omega)]; rfl
        · rfl
      case round =>
        clear G BW
        obtain ⟨i, rfl, hi1, hg, hbw⟩ := hrel
        have G := Lib.hid hg; have BW := Lib.hid hbw
        clear hg hbw
        rcases i with _ | i
        · have e : ((0 : Nat) : Int) - 1 = -1 := rfl
          rw [e]
          clear e
          have BL := BW.out.size
          have RL := Lib.hid (fun r h => (G.out.rlt r (Nat.zero_le _) h).2.2)
          have DL := G.out.dlt
          have G1 := Lib.hid (G.out.congr (G' := fun r k => (T r k : Int)) (fun r k h1 h2 h3 => by unfold partI; rw [if_pos (by omega)]))
          clear G
          go_wp2_with fail
          obtain ⟨Bs, hBs⟩ : ∃ Bs, Bs = wr.heap.size := ⟨_, rfl⟩
          rw [← hBs] at RL DL BL
          have hal := (Below.refl wr.heap.size wr).alloc (Nat.le_refl _) (.cells #[] 21)
          have G2 := Lib.hid (G1.out.below hal)
          have BW2 := Lib.hid (BW.out.trans (hal.mono BW.out.size))
          have OW2 : Hid (World.ownsRow (wr.alloc (.cells #[] 21)) Bs 21 1 (.slice (some ⟨wr.heap.size, 0, none⟩) 0 0) 0 []) := Lib.hid (World.ownsRow_made _ #[] 0 (by omega) (by simp [maxLen]) rfl)
          have SZ2 : Bs ≤ (wr.alloc (.cells #[] 21)).heap.size := by simp; omega
          clear G1 BW hal hBs
          obtain ⟨wo, rfl⟩ : ∃ wo : World, wo = wr := ⟨_, rfl⟩
          go_loopw [11, 12, 13] (fun dv t u wr => ∃ (i j : Nat) (out : List Int) (v : Value), t = .int .i64 i ∧ u = .int .i64 j ∧ i ≤ n ∧ j ≤ m ∧ v = dv ∧ wr.ownsRow Bs 21 1 v out.length (out.map fun x => .int .i32 x) ∧ out.length ≤ i ∧ out ++ K i j = K 0 0 ∧
              IG wr w.heap.size Bg (n + 1) (m + 1) 0 R C (fun r k => (T r k : Int)) ∧ Below w.heap.size w wr ∧ Bs ≤ wr.heap.size) (fun _ t _ _ => n - (intOf t).toNat)
          case atStart => exact ⟨0, 0, [], _, rfl, rfl, by omega, by omega, rfl, OW2.out, by simp, rfl, G2.out, BW2.out, SZ2⟩
          case round =>
            clear G2 BW2 OW2 SZ2
            as_aux_lemma =>
              obtain ⟨i, j, out, v, rfl, rfl, hi1, hj1, rfl, hown, hol, hout, hg, hbw, hsz⟩ := hrel
              have OW := Lib.hid hown; have HO := Lib.hid hout; have G := Lib.hid hg; have BW := Lib.hid hbw
              clear hown hout hg hbw
              have z5 := G.out.dlt
              have rI := G.out.rlt i (by omega) (by omega)
              have dI := G.out.done i (by omega) (by omega)
              have c00 := G.out.cell i j (by omega) (by omega) (by omega)
              have h6 : (i : Int) < (n : Int) + 1 := by omega
              have h7 : (j : Int) < (m : Int) + 1 := by omega
              by_cases ht0 : T i j = 0
              · rw [ht0] at c00
                have HKZ := Lib.hid (HCZ.out i j ht0)
                clear ht0
                go_wp2_with fail
                go_ret
                refine ⟨v, rfl, ?_, BW.out⟩
                have e : out = K 0 0 := by rw [← HO.out, HKZ.out]; simp
                rw [← e]
                exact own_less OW.out (by omega)
              · have ht1 : 0 < T i j := by omega
                have ht2 := HLE.out i j
                obtain ⟨x00, e00⟩ : ∃ x, x = T i j := ⟨_, rfl⟩
                rw [← e00] at c00 ht1 ht2
                have E00 := Lib.hid e00
                clear e00 ht0
                go_wp2_with fail
                clear c00 dI rI z5
                obtain ⟨w4, rfl⟩ : ∃ w4 : World, w4 = wr := ⟨_, rfl⟩
                go_loopw [11, 12, 13, 14] (fun dv ti tj t wr => ∃ p : Nat, t = .int .i64 p ∧ v = dv ∧ ti = .int .i64 i ∧ tj = .int .i64 j ∧ i ≤ p ∧ p ≤ n ∧ T p j = x00 ∧ K p j = K i j ∧ Below w4.heap.size w4 wr) (fun _ _ _ t _ => n - (intOf t).toNat)
                case atStart => exact ⟨i, rfl, rfl, rfl, rfl, Nat.le_refl _, hi1, E00.out.symm, rfl, Below.refl _ _⟩
                case round =>
                  obtain ⟨p, rfl, rfl, rfl, rfl, hp1, hp2, htp, hkp, hb4⟩ := hrel
                  have TP := Lib.hid htp; have KP := Lib.hid hkp
                  have G4 := Lib.hid (G.out.below hb4); have OW4 := Lib.hid (own_below OW.out hb4); have BW4 := Lib.hid (BW.out.trans (hb4.mono BW.out.size))
                  have B4 := Lib.hid hb4
                  have hsz4 : Bs ≤ wr.heap.size := Nat.le_trans hsz hb4.size
                  clear htp hkp hb4
                  by_cases hp : p < n
                  · have h3 : (p : Int) < (n : Int) := by omega
                    have HP := Lib.hid hp
                    clear hp
                    go_wp2_with fail
                    obtain ⟨w5, rfl⟩ : ∃ w5 : World, w5 = wr := ⟨_, rfl⟩
                    go_loopw [15, 16] (fun ta t wr => ∃ (q : Nat) (at' : Int), t = .int .i64 q ∧ ta = .int .i64 at' ∧ j ≤ q ∧ q ≤ m ∧ Below w5.heap.size w5 wr ∧ ((at' = -1 ∧ ∀ k, j ≤ k → k < q → ¬ (fa p = fb k ∧ T (p + 1) (k + 1) + 1 = x00)) ∨
                        ∃ q0 : Nat, at' = (q0 : Int) ∧ q = q0 + 1 ∧ j ≤ q0 ∧ (fa p = fb q0 ∧ T (p + 1) (q0 + 1) + 1 = x00) ∧ ∀ k, j ≤ k → k < q0 → ¬ (fa p = fb k ∧ T (p + 1) (k + 1) + 1 = x00))) (fun _ t _ => m - (intOf t).toNat)
                    case atStart => exact ⟨j, -1, rfl, rfl, Nat.le_refl _, hj1, Below.refl _ _, .inl ⟨rfl, fun k h1 h2 => by omega⟩⟩
                    case round =>
                      obtain ⟨q, at', rfl, rfl, hq1, hq2, hb5, hdis⟩ := hrel
                      have G5 := Lib.hid (G4.out.below hb5); have OW5 := Lib.hid (own_below OW4.out hb5); have BW5 := Lib.hid (BW4.out.trans (hb5.mono BW4.out.size))
                      have B5 := Lib.hid hb5
                      have hsz5 : Bs ≤ wr.heap.size := Nat.le_trans hsz4 hb5.size
                      clear hb5
                      rcases hdis with ⟨rfl, hno⟩ | ⟨q0, rfl, rfl, hq0, hyes, hno⟩
                      · have NO := Lib.hid hno
                        clear hno
                        by_cases hq : q < m
                        · have h5 : (q : Int) < (m : Int) := by omega
                          obtain ⟨a1, o1, rfl, ha1, ha2⟩ := (HA.out.below BW5.out (Nat.le_refl _)) (by omega)
                          obtain ⟨b1, p1, rfl, hb1, hb2⟩ := (HB.out.below BW5.out (Nat.le_refl _)) (by omega)
                          have qa := ha2 p HP.out
                          have qb := hb2 q hq
                          have ha3 : a1 < wr.heap.size := by omega
                          have hb3 : b1 < wr.heap.size := by omega
                          clear ha1 ha2 hb1 hb2
                          have z5 := G5.out.dlt
                          have rI := G5.out.rlt i (by omega) (by omega)
                          have rP := G5.out.rlt (p + 1) (by omega) (by omega)
                          have dI := G5.out.done i (by omega) (by omega)
                          have dP := G5.out.done (p + 1) (by omega) (by omega)
                          have c00 := G5.out.cell i j (by omega) (by omega) (by omega)
                          have c11 := G5.out.cell (p + 1) (q + 1) (by omega) (by omega) (by omega)
                          have b11 := HLE.out (p + 1) (q + 1)
                          obtain ⟨x11, e11⟩ : ∃ x, x = T (p + 1) (q + 1) := ⟨_, rfl⟩
                          rw [← e11] at c11 b11
                          rw [← E00.out] at c00
                          have E11 := Lib.hid e11
                          clear e11
                          have k1 : (p : Int) + 1 < (n : Int) + 1 := by omega
                          have k2 : (q : Int) + 1 < (m : Int) + 1 := by omega
                          have k3 : (0 : Int) ≤ (p : Int) + 1 := by omega
                          have k4 : (0 : Int) ≤ (q : Int) + 1 := by omega
                          by_cases hab : fa p = fb q
                          · by_cases hx : (x11 : Int) + 1 = (x00 : Int)
                            · have HY : Hid (fa p = fb q ∧ T (p + 1) (q + 1) + 1 = x00) := Lib.hid ⟨hab, by rw [← E11.out]; omega⟩
                              go_wp2_with fail
                              refine Reg.wp_region_rd (by kernel_rfl) (by kernel_rfl) (fun _ => ?_)
                              repeat (refine Reg.rd_op rfl ?_; apply Exists.intro; apply And.intro; (intro w' hb; have hc := Reg.rd_cells hb; clear hb; go_simp; (try go_bits); first | done | (with_reducible exact rfl)); (intro _ a' ha'; simp only [Act.put, List.setIfInBounds_toArray, List.set_cons_zero, List.set_cons_succ] at ha'; subst ha'))
                              refine Reg.rd_end (fun wz hb => ?_)
                              have B6 := Lib.hid (B5.out.trans (hb.mono B5.out.size))
                              clear hb qa qb dI dP c00 c11 rI rP z5
                              go_wp2_with fail
                              go_roundw
                              case rel => exact ⟨q + 1, q, by go_num, rfl, by omega, by omega, B6.out, .inr ⟨q, rfl, rfl, hq1, HY.out, NO.out⟩⟩
                              case measure => (simp [intOf] <;> omega)
                            · have HN : Hid (∀ k, j ≤ k → k < q + 1 → ¬ (fa p = fb k ∧ T (p + 1) (k + 1) + 1 = x00)) := Lib.hid (fun k g1 g2 => by
                                by_cases hkq : k = q
                                · rw [hkq, ← E11.out]; intro e; exact hx (by omega)
                                · exact NO.out k g1 (by omega))
                              go_wp2_with fail
                              refine Reg.wp_region_rd (by kernel_rfl) (by kernel_rfl) (fun _ => ?_)
                              repeat (refine Reg.rd_op rfl ?_; apply Exists.intro; apply And.intro; (intro w' hb; have hc := Reg.rd_cells hb; clear hb; go_simp; (try go_bits); first | done | (with_reducible exact rfl)); (intro _ a' ha'; simp only [Act.put, List.setIfInBounds_toArray, List.set_cons_zero, List.set_cons_succ] at ha'; subst ha'))
                              refine Reg.rd_end (fun wz hb => ?_)
                              have B6 := Lib.hid (B5.out.trans (hb.mono B5.out.size))
                              clear hb qa qb dI dP c00 c11 rI rP z5
                              go_wp2_with fail
                              go_roundw
                              case rel => exact ⟨q + 1, -1, by go_num, rfl, by omega, by omega, B6.out, .inl ⟨rfl, HN.out⟩⟩
                              case measure => (simp [intOf] <;> omega)
                          · have HN : Hid (∀ k, j ≤ k → k < q + 1 → ¬ (fa p = fb k ∧ T (p + 1) (k + 1) + 1 = x00)) := Lib.hid (fun k g1 g2 => by
                              by_cases hkq : k = q
                              · rw [hkq]; exact fun e => hab e.1
                              · exact NO.out k g1 (by omega))
                            have hab' : (fa p == fb q) = false := by simpa using hab
                            go_wp2_with fail
                            refine Reg.wp_region_rd (by kernel_rfl) (by kernel_rfl) (fun _ => ?_)
                            repeat (refine Reg.rd_op rfl ?_; apply Exists.intro; apply And.intro; (intro w' hb; have hc := Reg.rd_cells hb; clear hb; go_simp; (try go_bits); first | done | (with_reducible exact rfl)); (intro _ a' ha'; simp only [Act.put, List.setIfInBounds_toArray, List.set_cons_zero, List.set_cons_succ] at ha'; subst ha'))
                            repeat (refine Reg.rd_skip rfl ?_; intro a' ha'; simp only [Act.put, List.setIfInBounds_toArray, List.set_cons_zero, List.set_cons_succ] at ha'; subst ha')
                            repeat (refine Reg.rd_op rfl ?_; apply Exists.intro; apply And.intro; (intro w' hb; have hc := Reg.rd_cells hb; clear hb; go_simp; (try go_bits); first | done | (with_reducible exact rfl)); (intro _ a' ha'; simp only [Act.put, List.setIfInBounds_toArray, List.set_cons_zero, List.set_cons_succ] at ha'; subst ha'))
                            refine Reg.rd_end (fun wz hb => ?_)
                            have B6 := Lib.hid (B5.out.trans (hb.mono B5.out.size))
                            clear hb qa qb dI dP c00 c11 rI rP z5
                            go_wp2_with fail
                            go_roundw
                            case rel => exact ⟨q + 1, -1, by go_num, rfl, by omega, by omega, B6.out, .inl ⟨rfl, HN.out⟩⟩
                            case measure => (simp [intOf] <;> omega)
                        · obtain rfl : q = m := by omega
                          have HN := Lib.hid (HNO.out p j x00 HP.out hj1 TP.out NO.out)
                          have B6 := Lib.hid (B4.out.trans (B5.out.mono B4.out.size))
                          go_wp2_with fail
                          go_roundw
                          case rel => exact ⟨p + 1, by go_num, rfl, rfl, rfl, by omega, by omega, HN.out.2, HN.out.1.symm.trans KP.out, B6.out⟩
                          case measure => (simp [intOf] <;> omega)
                      · have HF := Lib.hid (HFO.out p j q0 x00 HP.out TP.out hq0 (by omega) hyes.1 hyes.2 hno)
                        have h8 : ¬ ((q0 : Int) < 0) := by omega
                        have h9 : (0 : Int) ≤ (q0 : Int) := by omega
                        clear hyes hno
                        obtain ⟨a1, o1, rfl, ha1, ha2⟩ := (HA.out.below BW5.out (Nat.le_refl _)) (by omega)
                        have qa := ha2 p HP.out
                        have ha3 : a1 < wr.heap.size := by omega
                        clear ha1 ha2
                        rcases Decidable.em ((q0 : Int) + 1 < (m : Int)) with hqm | hqm
                        all_goals
                          go_wp2_with (at_builtin
                                       refine wpList_append_lies _ rfl _ _ _ rfl Bs 21 k0 _ 1 4 Try.underlying22 K0.out K1.out K2.out K3.out rfl (by omega) v out.length (out.map fun x => .int .i32 x) rfl (OW5.out.alloc _) ⟨wr.heap.size, 0, none⟩ 1 1 [.int .i32 (fa p)] rfl rfl (World.news_of_block (heap_alloc_new _ _)) (by simp [Value.oneCell']) (by omega) (by unfold maxLen; omega) (by omega) (by simp; omega) (wr.heap.size + 1) (by simp) ?_
                                       intro g' cap' w1 hown1 hgrow hat hlt
                                       have ORN := Lib.hid hown1
                                       have HGR := Lib.hid hgrow
                                       clear hown1 hgrow hat)
                          have hal := (Below.refl wr.heap.size wr).alloc (Nat.le_refl _) (.cells #[.int .i32 (fa p)] 21)
                          have hrl := OW5.out.lt
                          have GN := Lib.hid ((G5.out.below hal).grown HGR.out (fun e => by have h2 := (hrl _ e).1; omega) (fun r _ hr e => by
                            have h2 := (hrl _ e).1
                            have h3 := RL.out r hr
                            omega))
                          have BWN := Lib.hid ((BW5.out.trans (hal.mono BW5.out.size)).grown HGR.out (by simp; omega) (fun q e => by have h2 := (hrl _ e).1; omega))
                          have SZN : Bs ≤ w1.heap.size := by have := HGR.out.size; simp at this; omega
                          have OWN : Hid (w1.ownsRow Bs 21 1 (.slice (some ⟨g', 0, none⟩) (out.length + 1) cap') (out ++ [fa p]).length ((out ++ [fa p]).map fun x => .int .i32 x)) := Lib.hid (by
                            have h := ORN.out
                            simpa using h)
                          clear hal hrl qa ORN G5 OW5 BW5
                          go_wp2_with fail
                          go_roundw
                          case rel => exact ⟨p + 1, q0 + 1, out ++ [fa p], _, by go_num, by go_num, by omega, by omega, rfl, OWN.out, by simp; omega, by have h := HO.out; rw [← KP.out, HF.out] at h; simpa using h, GN.out, BWN.out, SZN⟩
                          case measure => (simp [intOf] <;> omega)
                  · obtain rfl : p = n := by omega
                    have e := HT0.out p j (by omega)
                    rw [TP.out] at e
                    omega
        ·
          as_aux_lemma =>
            have e : ((i + 1 : Nat) : Int) - 1 = (i : Int) := by omega
            rw [e]
            have hi0 : (0 : Int) ≤ (i : Int) := by omega
            clear e
            go_wp2_with fail
            obtain ⟨wo, rfl⟩ : ∃ wo : World, wo = wr := ⟨_, rfl⟩
            have G1 := Lib.hid (G.out.congr (G' := partI T i m) (fun r k h1 h2 h3 => by
              unfold partI
              by_cases h4 : i < r
              · rw [if_pos (by omega), if_pos (by omega)]
              · rw [if_neg (by omega)]
                split
                · obtain ⟨rfl, h6⟩ : r = i ∧ m ≤ k := by omega
                  rw [HT0.out r k (by omega)]; rfl
                · rfl))
            have HIN : Hid (i < n) := Lib.hid (by omega)
            clear G
            go_loopw [10] (fun t wr => ∃ (j : Nat), t = .int .i64 ((j : Int) - 1) ∧ j ≤ m ∧ IG wr w.heap.size Bg (n + 1) (m + 1) 0 R C (partI T i j) ∧ Below w.heap.size w wr) (fun t _ => (intOf t + 1).toNat)
            case atStart => exact ⟨m, by go_num, Nat.le_refl _, G1.out, BW.out⟩
            case round =>
              clear G1 BW
              obtain ⟨j, rfl, hj1, hg, hbw⟩ := hrel
              have G := Lib.hid hg; have BW := Lib.hid hbw
              clear hg hbw
              rcases j with _ | j
              · have e : ((0 : Nat) : Int) - 1 = -1 := rfl
                rw [e]
                clear e
                go_wp2_with fail
                go_roundw
                case rel => exact ⟨i, by go_num, by omega, G.out, BW.out⟩
                case measure => (simp [intOf] <;> omega)
              ·
                as_aux_lemma =>
                  have e : ((j + 1 : Nat) : Int) - 1 = (j : Int) := by omega
                  rw [e]
                  have hj0 : (0 : Int) ≤ (j : Int) := by omega
                  clear e
                  have HJM : Hid (j < m) := Lib.hid (by omega)
                  have G2 := Lib.hid (G.out.congr (G' := curI T i j 0) (fun r k h1 h2 h3 => by
                    unfold curI
                    by_cases hrk : r = i ∧ k = j
                    · rw [if_pos hrk]; unfold partI; rw [if_neg (by omega)]; rfl
                    · rw [if_neg hrk]))
                  clear G
                  have hRR := G2.out.inj i (i + 1) (by omega) (by omega) (by omega) (by omega) (by omega)
                  have b11 := HLE.out (i + 1) (j + 1)
                  obtain ⟨x01, e01⟩ : ∃ x, x = T i (j + 1) := ⟨_, rfl⟩
                  obtain ⟨x10, e10⟩ : ∃ x, x = T (i + 1) j := ⟨_, rfl⟩
                  obtain ⟨x11, e11⟩ : ∃ x, x = T (i + 1) (j + 1) := ⟨_, rfl⟩
                  rw [← e11] at b11
                  have E01 := Lib.hid e01; have E10 := Lib.hid e10; have E11 := Lib.hid e11
                  clear e01 e10 e11
                  have h6 : (i : Int) < (n : Int) + 1 := by omega
                  have h7 : (j : Int) < (m : Int) + 1 := by omega
                  have h4 : (i : Int) < (n : Int) := by omega
                  have h5 : (j : Int) < (m : Int) := by omega
                  have k1 : (i : Int) + 1 < (n : Int) + 1 := by omega
                  have k2 : (j : Int) + 1 < (m : Int) + 1 := by omega
                  have k3 : (0 : Int) ≤ (i : Int) + 1 := by omega
                  have k4 : (0 : Int) ≤ (j : Int) + 1 := by omega
                  have z5 := G2.out.dlt
                  have rI := G2.out.rlt i (by omega) (by omega)
                  have rP := G2.out.rlt (i + 1) (by omega) (by omega)
                  have dI := G2.out.done i (by omega) (by omega)
                  have dP := G2.out.done (i + 1) (by omega) (by omega)
                  have fr := G2.out.rfr i j (by omega) (by omega)
                  have c00 := G2.out.cell i j (by omega) (by omega) (by omega)
                  have c01 := G2.out.cell i (j + 1) (by omega) (by omega) (by omega)
                  have c10 := G2.out.cell (i + 1) j (by omega) (by omega) (by omega)
                  have c11 := G2.out.cell (i + 1) (j + 1) (by omega) (by omega) (by omega)
                  rw [show curI T i j 0 i j = (0 : Int) by unfold curI; (rw [if_pos ⟨rfl, rfl⟩]) <;> rfl] at c00
                  rw [show curI T i j 0 i (j + 1) = (T i (j + 1) : Int) by unfold curI; rw [if_neg (by omega)]; unfold partI; rw [if_pos (by omega)], ← E01.out] at c01
                  rw [show curI T i j 0 (i + 1) j = (T (i + 1) j : Int) by unfold curI; rw [if_neg (by omega)]; unfold partI; rw [if_pos (by omega)], ← E10.out] at c10
                  rw [show curI T i j 0 (i + 1) (j + 1) = (T (i + 1) (j + 1) : Int) by unfold curI; rw [if_neg (by omega)]; unfold partI; rw [if_pos (by omega)], ← E11.out] at c11
                  go_wp2_with fail
                  go_big_region
                  have GA := Lib.hid ((G2.out.set (r0 := i) (j0 := j) (x := ((x10 : Nat) : Int)) (G' := curI T i j x10) (by omega) (by omega) (by omega) (fun r k h1 h2 h3 => by
                    unfold curI
                    split <;> rfl)).below (Below.refl _ _).drew)
                  have BA := Lib.hid ((BW.out.setCell (p := ⟨R i, j, none⟩) (by show w.heap.size ≤ R i; omega) (.int .i64 ((x10 : Nat) : Int))).drew)
                  generalize hwy : (wr.setCell ⟨R i, j, none⟩ (.int .i64 (x10 : Int))).drew = wy at GA BA ⊢
                  clear hwy G2 BW
                  clear z5 rI rP dI dP fr c00 c01 c10 c11
                  have z5 := GA.out.dlt
                  have rI := GA.out.rlt i (by omega) (by omega)
                  have rP := GA.out.rlt (i + 1) (by omega) (by omega)
                  have dI := GA.out.done i (by omega) (by omega)
                  have dP := GA.out.done (i + 1) (by omega) (by omega)
                  have fr := GA.out.rfr i j (by omega) (by omega)
                  have c00 := GA.out.cell i j (by omega) (by omega) (by omega)
                  have c01 := GA.out.cell i (j + 1) (by omega) (by omega) (by omega)
                  have c10 := GA.out.cell (i + 1) j (by omega) (by omega) (by omega)
                  have c11 := GA.out.cell (i + 1) (j + 1) (by omega) (by omega) (by omega)
                  rw [show curI T i j x10 i j = (x10 : Int) by unfold curI; (rw [if_pos ⟨rfl, rfl⟩]) <;> rfl] at c00
                  rw [show curI T i j x10 i (j + 1) = (T i (j + 1) : Int) by unfold curI; rw [if_neg (by omega)]; unfold partI; rw [if_pos (by omega)], ← E01.out] at c01
                  rw [show curI T i j x10 (i + 1) j = (T (i + 1) j : Int) by unfold curI; rw [if_neg (by omega)]; unfold partI; rw [if_pos (by omega)], ← E10.out] at c10
                  rw [show curI T i j x10 (i + 1) (j + 1) = (T (i + 1) (j + 1) : Int) by unfold curI; rw [if_neg (by omega)]; unfold partI; rw [if_pos (by omega)], ← E11.out] at c11
                  by_cases hc : (x10 : Int) < (x01 : Int)
                  · have HX := Lib.hid (show x01 = max x10 x01 by omega)
                    go_wp2_with fail
                    refine Reg.wp_region_rd (by kernel_rfl) (by kernel_rfl) (fun _ => ?_)
                    repeat (refine Reg.rd_op rfl ?_; apply Exists.intro; apply And.intro; (intro w' hb; have hc := Reg.rd_cells hb; clear hb; go_simp; (try go_bits); first | done | (with_reducible exact rfl)); (intro _ a' ha'; simp only [Act.put, List.setIfInBounds_toArray, List.set_cons_zero, List.set_cons_succ] at ha'; subst ha'))
                    refine Reg.rd_end (fun wz hb => ?_)
                    have G3 := Lib.hid (GA.out.below hb)
                    have B3 := Lib.hid (BA.out.trans (hb.mono BA.out.size))
                    clear hb GA BA
                    clear z5 rI rP dI dP fr c00 c01 c10 c11
                    have z5 := G3.out.dlt
                    have rI := G3.out.rlt i (by omega) (by omega)
                    have rP := G3.out.rlt (i + 1) (by omega) (by omega)
                    have dI := G3.out.done i (by omega) (by omega)
                    have dP := G3.out.done (i + 1) (by omega) (by omega)
                    have fr := G3.out.rfr i j (by omega) (by omega)
                    have c00 := G3.out.cell i j (by omega) (by omega) (by omega)
                    have c01 := G3.out.cell i (j + 1) (by omega) (by omega) (by omega)
                    have c10 := G3.out.cell (i + 1) j (by omega) (by omega) (by omega)
                    have c11 := G3.out.cell (i + 1) (j + 1) (by omega) (by omega) (by omega)
                    rw [show curI T i j x10 i j = (x10 : Int) by unfold curI; (rw [if_pos ⟨rfl, rfl⟩]) <;> rfl] at c00
                    rw [show curI T i j x10 i (j + 1) = (T i (j + 1) : Int) by unfold curI; rw [if_neg (by omega)]; unfold partI; rw [if_pos (by omega)], ← E01.out] at c01
                    rw [show curI T i j x10 (i + 1) j = (T (i + 1) j : Int) by unfold curI; rw [if_neg (by omega)]; unfold partI; rw [if_pos (by omega)], ← E10.out] at c10
                    rw [show curI T i j x10 (i + 1) (j + 1) = (T (i + 1) (j + 1) : Int) by unfold curI; rw [if_neg (by omega)]; unfold partI; rw [if_pos (by omega)], ← E11.out] at c11
                    go_wp2_with fail
                    go_big_region
                    have G4 := Lib.hid ((G3.out.set (r0 := i) (j0 := j) (x := ((x01 : Nat) : Int)) (G' := curI T i j x01) (by omega) (by omega) (by omega) (fun r k h1 h2 h3 => by
                      unfold curI
                      split <;> rfl)).below (Below.refl _ _).drew)
                    have B4 := Lib.hid ((B3.out.setCell (p := ⟨R i, j, none⟩) (by show w.heap.size ≤ R i; omega) (.int .i64 ((x01 : Nat) : Int))).drew)
                    generalize hwy : (wz.setCell ⟨R i, j, none⟩ (.int .i64 (x01 : Int))).drew = wy at G4 B4 ⊢
                    clear hwy G3 B3
                    clear z5 rI rP dI dP fr c00 c01 c10 c11
                    obtain ⟨a1, o1, rfl, ha1, ha2⟩ := (HA.out.below B4.out (Nat.le_refl _)) (by omega)
                    obtain ⟨b1, p1, rfl, hb1, hb2⟩ := (HB.out.below B4.out (Nat.le_refl _)) (by omega)
                    have z4 := B4.out.size
                    have ha3 : a1 < wy.heap.size := by omega
                    have hb3 : b1 < wy.heap.size := by omega
                    have qa := ha2 i HIN.out
                    have qb := hb2 j HJM.out
                    clear ha1 hb1 ha2 hb2 z4
                    have z5 := G4.out.dlt
                    have rI := G4.out.rlt i (by omega) (by omega)
                    have rP := G4.out.rlt (i + 1) (by omega) (by omega)
                    have dI := G4.out.done i (by omega) (by omega)
                    have dP := G4.out.done (i + 1) (by omega) (by omega)
                    have fr := G4.out.rfr i j (by omega) (by omega)
                    have c00 := G4.out.cell i j (by omega) (by omega) (by omega)
                    have c01 := G4.out.cell i (j + 1) (by omega) (by omega) (by omega)
                    have c10 := G4.out.cell (i + 1) j (by omega) (by omega) (by omega)
                    have c11 := G4.out.cell (i + 1) (j + 1) (by omega) (by omega) (by omega)
                    rw [show curI T i j x01 i j = (x01 : Int) by unfold curI; (rw [if_pos ⟨rfl, rfl⟩]) <;> rfl] at c00
                    rw [show curI T i j x01 i (j + 1) = (T i (j + 1) : Int) by unfold curI; rw [if_neg (by omega)]; unfold partI; rw [if_pos (by omega)], ← E01.out] at c01
                    rw [show curI T i j x01 (i + 1) j = (T (i + 1) j : Int) by unfold curI; rw [if_neg (by omega)]; unfold partI; rw [if_pos (by omega)], ← E10.out] at c10
                    rw [show curI T i j x01 (i + 1) (j + 1) = (T (i + 1) (j + 1) : Int) by unfold curI; rw [if_neg (by omega)]; unfold partI; rw [if_pos (by omega)], ← E11.out] at c11
                    by_cases hab : fa i = fb j
                    · by_cases hx : (x01 : Int) < (x11 : Int) + 1
                      · obtain ⟨x12, hx12⟩ : ∃ k : Nat, (x11 : Int) + 1 = (k : Int) := ⟨x11 + 1, by omega⟩
                        have HTI := Lib.hid (show T i j = x12 by
                          have h := HT.out i j HIN.out HJM.out
                          have h1 := HX.out
                          rw [if_pos hab, ← E01.out, ← E10.out, ← E11.out] at h
                          omega)
                        have HX12 := Lib.hid hx12
                        clear hx12
                        go_wp2_with fail
                        refine Reg.wp_region_rd (by kernel_rfl) (by kernel_rfl) (fun _ => ?_)
                        repeat (refine Reg.rd_op rfl ?_; apply Exists.intro; apply And.intro; (intro w' hb; have hc := Reg.rd_cells hb; clear hb; go_simp; (try go_bits); first | done | (with_reducible exact rfl)); (intro _ a' ha'; simp only [Act.put, List.setIfInBounds_toArray, List.set_cons_zero, List.set_cons_succ] at ha'; subst ha'))
                        refine Reg.rd_end (fun wz hb => ?_)
                        have G5 := Lib.hid (G4.out.below hb)
                        have B5 := Lib.hid (B4.out.trans (hb.mono B4.out.size))
                        clear hb qa qb ha3 hb3
                        clear z5 rI rP dI dP fr c00 c01 c10 c11
                        have z5 := G5.out.dlt
                        have rI := G5.out.rlt i (by omega) (by omega)
                        have rP := G5.out.rlt (i + 1) (by omega) (by omega)
                        have dI := G5.out.done i (by omega) (by omega)
                        have dP := G5.out.done (i + 1) (by omega) (by omega)
                        have fr := G5.out.rfr i j (by omega) (by omega)
                        have c00 := G5.out.cell i j (by omega) (by omega) (by omega)
                        have c01 := G5.out.cell i (j + 1) (by omega) (by omega) (by omega)
                        have c10 := G5.out.cell (i + 1) j (by omega) (by omega) (by omega)
                        have c11 := G5.out.cell (i + 1) (j + 1) (by omega) (by omega) (by omega)
                        rw [show curI T i j x01 i j = (x01 : Int) by unfold curI; (rw [if_pos ⟨rfl, rfl⟩]) <;> rfl] at c00
                        rw [show curI T i j x01 i (j + 1) = (T i (j + 1) : Int) by unfold curI; rw [if_neg (by omega)]; unfold partI; rw [if_pos (by omega)], ← E01.out] at c01
                        rw [show curI T i j x01 (i + 1) j = (T (i + 1) j : Int) by unfold curI; rw [if_neg (by omega)]; unfold partI; rw [if_pos (by omega)], ← E10.out] at c10
                        rw [show curI T i j x01 (i + 1) (j + 1) = (T (i + 1) (j + 1) : Int) by unfold curI; rw [if_neg (by omega)]; unfold partI; rw [if_pos (by omega)], ← E11.out] at c11
                        go_wp2_with fail
                        go_big_region
                        rw [HX12.out]
                        have G6 := Lib.hid ((G5.out.set (r0 := i) (j0 := j) (x := ((x12 : Nat) : Int)) (G' := curI T i j x12) (by omega) (by omega) (by omega) (fun r k h1 h2 h3 => by
                          unfold curI
                          split <;> rfl)).below (Below.refl _ _).drew)
                        have B6 := Lib.hid ((B5.out.setCell (p := ⟨R i, j, none⟩) (by show w.heap.size ≤ R i; omega) (.int .i64 ((x12 : Nat) : Int))).drew)
                        clear z5 rI rP dI dP fr c00 c01 c10 c11
                        have GN := Lib.hid (G6.out.congr (G' := partI T i j) (fun r k h1 h2 h3 => by
                          unfold curI
                          by_cases hrk : r = i ∧ k = j
                          · rw [if_pos hrk]; unfold partI; rw [if_pos (by omega), hrk.1, hrk.2]; exact congrArg (fun z : Nat => (z : Int)) HTI.out.symm
                          · rw [if_neg hrk]; unfold partI
                            by_cases hrk2 : i < r ∨ r = i ∧ j + 1 ≤ k
                            · rw [if_pos hrk2, if_pos (by omega)]
                            · rw [if_neg hrk2, if_neg (by omega)]))
                        go_wp2_with fail
                        go_roundw
                        case rel => exact ⟨j, by go_num, by omega, GN.out, B6.out⟩
                        case measure => (simp [intOf] <;> omega)
                      · have HTI := Lib.hid (show T i j = x01 by
                          have h := HT.out i j HIN.out HJM.out
                          have h1 := HX.out
                          rw [if_pos hab, ← E01.out, ← E10.out, ← E11.out] at h
                          omega)
                        go_wp2_with fail
                        refine Reg.wp_region_rd (by kernel_rfl) (by kernel_rfl) (fun _ => ?_)
                        repeat (refine Reg.rd_op rfl ?_; apply Exists.intro; apply And.intro; (intro w' hb; have hc := Reg.rd_cells hb; clear hb; go_simp; (try go_bits); first | done | (with_reducible exact rfl)); (intro _ a' ha'; simp only [Act.put, List.setIfInBounds_toArray, List.set_cons_zero, List.set_cons_succ] at ha'; subst ha'))
                        refine Reg.rd_end (fun wz hb => ?_)
                        have G5 := Lib.hid (G4.out.below hb)
                        have B5 := Lib.hid (B4.out.trans (hb.mono B4.out.size))
                        clear hb qa qb ha3 hb3
                        clear z5 rI rP dI dP fr c00 c01 c10 c11
                        have GN := Lib.hid (G5.out.congr (G' := partI T i j) (fun r k h1 h2 h3 => by
                          unfold curI
                          by_cases hrk : r = i ∧ k = j
                          · rw [if_pos hrk]; unfold partI; rw [if_pos (by omega), hrk.1, hrk.2]; exact congrArg (fun z : Nat => (z : Int)) HTI.out.symm
                          · rw [if_neg hrk]; unfold partI
                            by_cases hrk2 : i < r ∨ r = i ∧ j + 1 ≤ k
                            · rw [if_pos hrk2, if_pos (by omega)]
                            · rw [if_neg hrk2, if_neg (by omega)]))
                        go_wp2_with fail
                        go_roundw
                        case rel => exact ⟨j, by go_num, by omega, GN.out, B5.out⟩
                        case measure => (simp [intOf] <;> omega)
                    · have HTI := Lib.hid (show T i j = x01 by
                        have h := HT.out i j HIN.out HJM.out
                        have h1 := HX.out
                        rw [if_neg hab, ← E01.out, ← E10.out] at h
                        omega)
                      have hab' : (fa i == fb j) = false := by simpa using hab
                      go_wp2_with fail
                      refine Reg.wp_region_rd (by kernel_rfl) (by kernel_rfl) (fun _ => ?_)
                      repeat (refine Reg.rd_op rfl ?_; apply Exists.intro; apply And.intro; (intro w' hb; have hc := Reg.rd_cells hb; clear hb; go_simp; (try go_bits); first | done | (with_reducible exact rfl)); (intro _ a' ha'; simp only [Act.put, List.setIfInBounds_toArray, List.set_cons_zero, List.set_cons_succ] at ha'; subst ha'))
                      repeat (refine Reg.rd_skip rfl ?_; intro a' ha'; simp only [Act.put, List.setIfInBounds_toArray, List.set_cons_zero, List.set_cons_succ] at ha'; subst ha')
                      repeat (refine Reg.rd_op rfl ?_; apply Exists.intro; apply And.intro; (intro w' hb; have hc := Reg.rd_cells hb; clear hb; go_simp; (try go_bits); first | done | (with_reducible exact rfl)); (intro _ a' ha'; simp only [Act.put, List.setIfInBounds_toArray, List.set_cons_zero, List.set_cons_succ] at ha'; subst ha'))
                      refine Reg.rd_end (fun wz hb => ?_)
                      have G5 := Lib.hid (G4.out.below hb)
                      have B5 := Lib.hid (B4.out.trans (hb.mono B4.out.size))
                      clear hb qa qb ha3 hb3
                      clear z5 rI rP dI dP fr c00 c01 c10 c11
                      have GN := Lib.hid (G5.out.congr (G' := partI T i j) (fun r k h1 h2 h3 => by
                        unfold curI
                        by_cases hrk : r = i ∧ k = j
                        · rw [if_pos hrk]; unfold partI; rw [if_pos (by omega), hrk.1, hrk.2]; exact congrArg (fun z : Nat => (z : Int)) HTI.out.symm
                        · rw [if_neg hrk]; unfold partI
                          by_cases hrk2 : i < r ∨ r = i ∧ j + 1 ≤ k
                          · rw [if_pos hrk2, if_pos (by omega)]
                          · rw [if_neg hrk2, if_neg (by omega)]))
                      go_wp2_with fail
                      go_roundw
                      case rel => exact ⟨j, by go_num, by omega, GN.out, B5.out⟩
                      case measure => (simp [intOf] <;> omega)
                  · have HX := Lib.hid (show x10 = max x10 x01 by omega)
                    go_wp2_with fail
                    refine Reg.wp_region_rd (by kernel_rfl) (by kernel_rfl) (fun _ => ?_)
                    repeat (refine Reg.rd_op rfl ?_; apply Exists.intro; apply And.intro; (intro w' hb; have hc := Reg.rd_cells hb; clear hb; go_simp; (try go_bits); first | done | (with_reducible exact rfl)); (intro _ a' ha'; simp only [Act.put, List.setIfInBounds_toArray, List.set_cons_zero, List.set_cons_succ] at ha'; subst ha'))
                    refine Reg.rd_end (fun wz hb => ?_)
                    have G4 := Lib.hid (GA.out.below hb)
                    have B4 := Lib.hid (BA.out.trans (hb.mono BA.out.size))
                    clear hb GA BA
                    obtain ⟨wy, rfl⟩ : ∃ wy : World, wy = wz := ⟨_, rfl⟩
                    clear z5 rI rP dI dP fr c00 c01 c10 c11
                    obtain ⟨a1, o1, rfl, ha1, ha2⟩ := (HA.out.below B4.out (Nat.le_refl _)) (by omega)
                    obtain ⟨b1, p1, rfl, hb1, hb2⟩ := (HB.out.below B4.out (Nat.le_refl _)) (by omega)
                    have z4 := B4.out.size
                    have ha3 : a1 < wy.heap.size := by omega
                    have hb3 : b1 < wy.heap.size := by omega
                    have qa := ha2 i HIN.out
                    have qb := hb2 j HJM.out
                    clear ha1 hb1 ha2 hb2 z4
                    have z5 := G4.out.dlt
                    have rI := G4.out.rlt i (by omega) (by omega)
                    have rP := G4.out.rlt (i + 1) (by omega) (by omega)
                    have dI := G4.out.done i (by omega) (by omega)
                    have dP := G4.out.done (i + 1) (by omega) (by omega)
                    have fr := G4.out.rfr i j (by omega) (by omega)
                    have c00 := G4.out.cell i j (by omega) (by omega) (by omega)
                    have c01 := G4.out.cell i (j + 1) (by omega) (by omega) (by omega)
                    have c10 := G4.out.cell (i + 1) j (by omega) (by omega) (by omega)
                    have c11 := G4.out.cell (i + 1) (j + 1) (by omega) (by omega) (by omega)
                    rw [show curI T i j x10 i j = (x10 : Int) by unfold curI; (rw [if_pos ⟨rfl, rfl⟩]) <;> rfl] at c00
                    rw [show curI T i j x10 i (j + 1) = (T i (j + 1) : Int) by unfold curI; rw [if_neg (by omega)]; unfold partI; rw [if_pos (by omega)], ← E01.out] at c01
                    rw [show curI T i j x10 (i + 1) j = (T (i + 1) j : Int) by unfold curI; rw [if_neg (by omega)]; unfold partI; rw [if_pos (by omega)], ← E10.out] at c10
                    rw [show curI T i j x10 (i + 1) (j + 1) = (T (i + 1) (j + 1) : Int) by unfold curI; rw [if_neg (by omega)]; unfold partI; rw [if_pos (by omega)], ← E11.out] at c11
                    by_cases hab : fa i = fb j
                    · by_cases hx : (x10 : Int) < (x11 : Int) + 1
                      · obtain ⟨x12, hx12⟩ : ∃ k : Nat, (x11 : Int) + 1 = (k : Int) := ⟨x11 + 1, by omega⟩
                        have HTI := Lib.hid (show T i j = x12 by
                          have h := HT.out i j HIN.out HJM.out
                          have h1 := HX.out
                          rw [if_pos hab, ← E01.out, ← E10.out, ← E11.out] at h
                          omega)
                        have HX12 := Lib.hid hx12
                        clear hx12
                        go_wp2_with fail
                        refine Reg.wp_region_rd (by kernel_rfl) (by kernel_rfl) (fun _ => ?_)
                        repeat (refine Reg.rd_op rfl ?_; apply Exists.intro; apply And.intro; (intro w' hb; have hc := Reg.rd_cells hb; clear hb; go_simp; (try go_bits); first | done | (with_reducible exact rfl)); (intro _ a' ha'; simp only [Act.put, List.setIfInBounds_toArray, List.set_cons_zero, List.set_cons_succ] at ha'; subst ha'))
                        refine Reg.rd_end (fun wz hb => ?_)
                        have G5 := Lib.hid (G4.out.below hb)
                        have B5 := Lib.hid (B4.out.trans (hb.mono B4.out.size))
                        clear hb qa qb ha3 hb3
                        clear z5 rI rP dI dP fr c00 c01 c10 c11
                        have z5 := G5.out.dlt
                        have rI := G5.out.rlt i (by omega) (by omega)
                        have rP := G5.out.rlt (i + 1) (by omega) (by omega)
                        have dI := G5.out.done i (by omega) (by omega)
                        have dP := G5.out.done (i + 1) (by omega) (by omega)
                        have fr := G5.out.rfr i j (by omega) (by omega)
                        have c00 := G5.out.cell i j (by omega) (by omega) (by omega)
                        have c01 := G5.out.cell i (j + 1) (by omega) (by omega) (by omega)
                        have c10 := G5.out.cell (i + 1) j (by omega) (by omega) (by omega)
                        have c11 := G5.out.cell (i + 1) (j + 1) (by omega) (by omega) (by omega)
                        rw [show curI T i j x10 i j = (x10 : Int) by unfold curI; (rw [if_pos ⟨rfl, rfl⟩]) <;> rfl] at c00
                        rw [show curI T i j x10 i (j + 1) = (T i (j + 1) : Int) by unfold curI; rw [if_neg (by omega)]; unfold partI; rw [if_pos (by omega)], ← E01.out] at c01
                        rw [show curI T i j x10 (i + 1) j = (T (i + 1) j : Int) by unfold curI; rw [if_neg (by omega)]; unfold partI; rw [if_pos (by omega)], ← E10.out] at c10
                        rw [show curI T i j x10 (i + 1) (j + 1) = (T (i + 1) (j + 1) : Int) by unfold curI; rw [if_neg (by omega)]; unfold partI; rw [if_pos (by omega)], ← E11.out] at c11
                        go_wp2_with fail
                        go_big_region
                        rw [HX12.out]
                        have G6 := Lib.hid ((G5.out.set (r0 := i) (j0 := j) (x := ((x12 : Nat) : Int)) (G' := curI T i j x12) (by omega) (by omega) (by omega) (fun r k h1 h2 h3 => by
                          unfold curI
                          split <;> rfl)).below (Below.refl _ _).drew)
                        have B6 := Lib.hid ((B5.out.setCell (p := ⟨R i, j, none⟩) (by show w.heap.size ≤ R i; omega) (.int .i64 ((x12 : Nat) : Int))).drew)
                        clear z5 rI rP dI dP fr c00 c01 c10 c11
                        have GN := Lib.hid (G6.out.congr (G' := partI T i j) (fun r k h1 h2 h3 => by
                          unfold curI
                          by_cases hrk : r = i ∧ k = j
                          · rw [if_pos hrk]; unfold partI; rw [if_pos (by omega), hrk.1, hrk.2]; exact congrArg (fun z : Nat => (z : Int)) HTI.out.symm
                          · rw [if_neg hrk]; unfold partI
                            by_cases hrk2 : i < r ∨ r = i ∧ j + 1 ≤ k
                            · rw [if_pos hrk2, if_pos (by omega)]
                            · rw [if_neg hrk2, if_neg (by omega)]))
                        go_wp2_with fail
                        go_roundw
                        case rel => exact ⟨j, by go_num, by omega, GN.out, B6.out⟩
                        case measure => (simp [intOf] <;> omega)
                      · have HTI := Lib.hid (show T i j = x10 by
                          have h := HT.out i j HIN.out HJM.out
                          have h1 := HX.out
                          rw [if_pos hab, ← E01.out, ← E10.out, ← E11.out] at h
                          omega)
                        go_wp2_with fail
                        refine Reg.wp_region_rd (by kernel_rfl) (by kernel_rfl) (fun _ => ?_)
                        repeat (refine Reg.rd_op rfl ?_; apply Exists.intro; apply And.intro; (intro w' hb; have hc := Reg.rd_cells hb; clear hb; go_simp; (try go_bits); first | done | (with_reducible exact rfl)); (intro _ a' ha'; simp only [Act.put, List.setIfInBounds_toArray, List.set_cons_zero, List.set_cons_succ] at ha'; subst ha'))
                        refine Reg.rd_end (fun wz hb => ?_)
                        have G5 := Lib.hid (G4.out.below hb)
                        have B5 := Lib.hid (B4.out.trans (hb.mono B4.out.size))
                        clear hb qa qb ha3 hb3
                        clear z5 rI rP dI dP fr c00 c01 c10 c11
                        have GN := Lib.hid (G5.out.congr (G' := partI T i j) (fun r k h1 h2 h3 => by
                          unfold curI
                          by_cases hrk : r = i ∧ k = j
                          · rw [if_pos hrk]; unfold partI; rw [if_pos (by omega), hrk.1, hrk.2]; exact congrArg (fun z : Nat => (z : Int)) HTI.out.symm
                          · rw [if_neg hrk]; unfold partI
                            by_cases hrk2 : i < r ∨ r = i ∧ j + 1 ≤ k
                            · rw [if_pos hrk2, if_pos (by omega)]
                            · rw [if_neg hrk2, if_neg (by omega)]))
                        go_wp2_with fail
                        go_roundw
                        case rel => exact ⟨j, by go_num, by omega, GN.out, B5.out⟩
                        case measure => (simp [intOf] <;> omega)
                    · have HTI := Lib.hid (show T i j = x10 by
                        have h := HT.out i j HIN.out HJM.out
                        have h1 := HX.out
                        rw [if_neg hab, ← E01.out, ← E10.out] at h
                        omega)
                      have hab' : (fa i == fb j) = false := by simpa using hab
                      go_wp2_with fail
                      refine Reg.wp_region_rd (by kernel_rfl) (by kernel_rfl) (fun _ => ?_)
                      repeat (refine Reg.rd_op rfl ?_; apply Exists.intro; apply And.intro; (intro w' hb; have hc := Reg.rd_cells hb; clear hb; go_simp; (try go_bits); first | done | (with_reducible exact rfl)); (intro _ a' ha'; simp only [Act.put, List.setIfInBounds_toArray, List.set_cons_zero, List.set_cons_succ] at ha'; subst ha'))
                      repeat (refine Reg.rd_skip rfl ?_; intro a' ha'; simp only [Act.put, List.setIfInBounds_toArray, List.set_cons_zero, List.set_cons_succ] at ha'; subst ha')
                      repeat (refine Reg.rd_op rfl ?_; apply Exists.intro; apply And.intro; (intro w' hb; have hc := Reg.rd_cells hb; clear hb; go_simp; (try go_bits); first | done | (with_reducible exact rfl)); (intro _ a' ha'; simp only [Act.put, List.setIfInBounds_toArray, List.set_cons_zero, List.set_cons_succ] at ha'; subst ha'))
                      refine Reg.rd_end (fun wz hb => ?_)
                      have G5 := Lib.hid (G4.out.below hb)
                      have B5 := Lib.hid (B4.out.trans (hb.mono B4.out.size))
                      clear hb qa qb ha3 hb3
                      clear z5 rI rP dI dP fr c00 c01 c10 c11
                      have GN := Lib.hid (G5.out.congr (G' := partI T i j) (fun r k h1 h2 h3 => by
                        unfold curI
                        by_cases hrk : r = i ∧ k = j
                        · rw [if_pos hrk]; unfold partI; rw [if_pos (by omega), hrk.1, hrk.2]; exact congrArg (fun z : Nat => (z : Int)) HTI.out.symm
                        · rw [if_neg hrk]; unfold partI
                          by_cases hrk2 : i < r ∨ r = i ∧ j + 1 ≤ k
                          · rw [if_pos hrk2, if_pos (by omega)]
                          · rw [if_neg hrk2, if_neg (by omega)]))
                      go_wp2_with fail
                      go_roundw
                      case rel => exact ⟨j, by go_num, by omega, GN.out, B5.out⟩
                      case measure => (simp [intOf] <;> omega)
end Go.Proofs.Ytkhdemaanakbeaa

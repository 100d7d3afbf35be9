/- The document's table of two names. Conditions: the rows of costs rise, the names are not too long. -/
import Derived.Test.YtkhdemaanakbeaaLo
namespace Go.Proofs.Ytkhdemaanakbeaa
open Go.RowKit Go.Pst
set_option maxRecDepth 100000
set_option linter.unusedSimpArgs false
set_option linter.unusedVariables false
attribute [local go_sem] run_fadd

def RTablePost (T : Nat → Nat → Nat) (n m : Nat) (w : World) (en : Ending) (w' : World) : Prop :=
  ∃ g cap R C, en = .returned (.slice (some ⟨g, 0, none⟩) (n + 1) cap) ∧ Below w.heap.size w w' ∧ w'.ownsRow (w.heap.size + 1) 51 1 (.slice (some ⟨g, 0, none⟩) (n + 1) cap) (n + 1) (rows R C (m + 1) (n + 1)) ∧
    RowsR w' w.heap.size (m + 1) (n + 1) R T 23

theorem own_ne {w : World} {base : Nat} {e t : TypeId} {size n : Nat} {v : Value} {xs : List Value} {r : Nat} {cs : Array Value} (h : w.ownsRow base e size v n xs) (hq : w.heap[r]? = some (.cells cs t (0, 0))) (he : e ≠ t) : v.ownBlock ≠ some r := by
  rcases h.2 with ⟨h1, _⟩ | ⟨g, cap, cur, h1, h2, h3, h4⟩
  · subst h1; simp [Value.ownBlock]
  · subst h1
    intro e1
    have : g = r := by simpa [Value.ownBlock] using e1
    subst this
    rw [h3] at hq
    injection hq with hq
    injection hq with _ hq
    exact he hq

theorem own_made (w1 : World) (base b : Nat) (e : TypeId) (size : Nat) (hb : w1.heap.size = b) (hb2 : base ≤ b) : (w1.alloc (.cells #[] e)).ownsRow base e size (.slice (some ⟨b, 0, none⟩) 0 0) 0 [] := by
  subst hb; exact World.ownsRow_made _ #[] 0 hb2 (by simp [maxLen]) (by simp)


set_option maxHeartbeats 16000000 in
theorem rtable_any (cI cO cX cT n m c d np cp : Nat) (A B Ap : Option Addr) (p : Nat → Int × Int × Nat) (fa fb : Nat → Int) (T : Nat → Nat → Nat) (w : World) (hA : NameAt w w.heap.size A n fa) (hB : NameAt w w.heap.size B m fb)
    (hn : n ≤ 1048576) (hm : m ≤ 1048576) (hnp : np ≤ 4096) (hp : PairsAt w w.heap.size Ap np p) (hr : Rising np p) (hT : TabIs T cI cO cT (fun i j => othV p np cX (fa i) (fb j)) fa fb) :
    Calls Try.prog 23 #[.agg #[.float .f64 cI, .float .f64 cO, .float .f64 cX, .float .f64 cT, .slice Ap np cp], .slice A n c, .slice B m d] w (RTablePost T n m w) := by
  obtain ⟨i0, hi0, hz0, hz1, hz2⟩ := info_parts infoRow
  obtain ⟨j0, hj0, hy0, hy1, hy2⟩ := info_parts infoNum
  have I0 := Lib.hid hi0; have I1 := Lib.hid hz0; have I2 := Lib.hid hz1; have I3 := Lib.hid hz2
  have J0 := Lib.hid hj0; have J1 := Lib.hid hy0; have J2 := Lib.hid hy1; have J3 := Lib.hid hy2
  clear hi0 hz0 hz1 hz2 hj0 hy0 hy1 hy2
  have HA := Lib.hid hA; have HB := Lib.hid hB; have HP := Lib.hid hp; have HR := Lib.hid hr; have HT := Lib.hid hT
  clear hA hB hp hr hT
  go_enter Try.func23, Try.ntmps23
  go_wp2
  go_loopw [7, 8] (fun dv t wr => ∃ (i : Nat) (v : Value) (R C : Nat → Nat), t = .int .i64 i ∧ i ≤ n + 1 ∧ v = dv ∧ wr.ownsRow (w.heap.size + 1) 51 1 v i (rows R C (m + 1) i) ∧ RowsR wr w.heap.size (m + 1) i R T 23 ∧
      BoxAt wr w.heap.size #[.float .f64 cI, .float .f64 cO, .float .f64 cX, .float .f64 cT, .slice Ap np cp] ∧ Below w.heap.size w wr ∧ w.heap.size + 1 ≤ wr.heap.size) (fun _ t _ => n + 1 - (intOf t).toNat)
  case atStart =>
    refine ⟨0, _, fun _ => 0, fun _ => 0, rfl, by omega, rfl, own_made _ _ _ _ _ ?_ (Nat.le_refl _), fun r hr => by omega, ?_, ((Below.refl _ _).alloc (Nat.le_refl _) _).alloc ?_ _, ?_⟩
    · simp
    rotate_left
    · simp
    · simp
    intro k
    rw [World.cell?_alloc_lt _ _ _ (by simp)]
    exact (Reg.Blk.new w _ _).cell k
  case round =>
    obtain ⟨i, v, R, C, rfl, h1, rfl, hown, hrows, hbox, hbw, hsz⟩ := hrel
    have OD := Lib.hid hown; have RW := Lib.hid hrows; have BX := Lib.hid hbox; have BW := Lib.hid hbw
    clear hown hrows hbox hbw
    by_cases hi : i < n + 1
    · have h3 : (i : Int) ≤ (n : Int) := by omega
      obtain ⟨Bi, hBi⟩ : ∃ Bi, Bi = wr.heap.size := ⟨_, rfl⟩
      have DL : Hid (∀ q, v.ownBlock = some q → q < Bi ∧ w.heap.size < q) := Lib.hid fun q e => by have := OD.out.lt q e; omega
      have RL : Hid (∀ r, r < i → R r < Bi) := Lib.hid fun r hr => by rw [hBi]; exact RW.out.lt hr
      have BL : w.heap.size + 1 ≤ Bi := by omega
      have hal := (Below.refl wr.heap.size wr).alloc (Nat.le_refl _) (.cells #[] 23)
      have OD1 := Lib.hid (own_below OD.out hal)
      have RW1 := Lib.hid (RW.out.below hal)
      have BX1 := Lib.hid (BX.out.below hal (by omega))
      have BW1 := Lib.hid (BW.out.trans (hal.mono BW.out.size))
      have OR1 : Hid (World.ownsRow (wr.alloc (.cells #[] 23)) Bi 23 1 (.slice (some ⟨wr.heap.size, 0, none⟩) 0 0) 0 []) := Lib.hid (World.ownsRow_made _ #[] 0 (by omega) (by simp [maxLen]) rfl)
      have SZ1 : Bi ≤ (wr.alloc (.cells #[] 23)).heap.size := by simp; omega
      have HBI := Lib.hid hBi
      clear hal hBi
      go_wp2_with fail
      obtain ⟨wo, rfl⟩ : ∃ wo : World, wo = wr := ⟨_, rfl⟩
      go_loopw [9, 10] (fun rv t wr => ∃ (j : Nat) (vr : Value) (f : Nat → Nat), t = .int .i64 j ∧ j ≤ m + 1 ∧ vr = rv ∧ wr.ownsRow Bi 23 1 vr j (nums f j) ∧ (∀ k, k < j → cn (f k) = T i k) ∧
          wr.ownsRow (w.heap.size + 1) 51 1 v i (rows R C (m + 1) i) ∧ RowsR wr w.heap.size (m + 1) i R T 23 ∧ BoxAt wr w.heap.size #[.float .f64 cI, .float .f64 cO, .float .f64 cX, .float .f64 cT, .slice Ap np cp] ∧ Below w.heap.size w wr ∧ Bi ≤ wr.heap.size) (fun _ t _ => m + 1 - (intOf t).toNat)
      case atStart => exact ⟨0, _, fun _ => 0, rfl, by omega, rfl, OR1.out, fun k hk => by omega, OD1.out, RW1.out, BX1.out, BW1.out, SZ1⟩
      case round =>
        obtain ⟨j, vr, f, rfl, hj1, rfl, hor, hfv, hod, hrw, hbx, hbw, hsz1⟩ := hrel
        clear OD1 RW1 BX1 BW1 OR1 SZ1
        have OR1 := Lib.hid hor; have FV := Lib.hid hfv; have OD1 := Lib.hid hod; have RW1 := Lib.hid hrw; have BX1 := Lib.hid hbx; have BW1 := Lib.hid hbw
        clear hor hfv hod hrw hbx hbw
        have z5 : w.heap.size < wr.heap.size := by omega
        by_cases hj : j < m + 1
        · have h4 : (j : Int) ≤ (m : Int) := by omega
          by_cases hi0 : i = 0
          · have ti : ((i : Int) == 0) = true := by simp; omega
            have HI0 := Lib.hid hi0
            by_cases hj0 : j = 0
            · have tj : ((j : Int) == 0) = true := by simp; omega
              have VF : Hid (T i j = cn 0) := Lib.hid (by rw [hi0, hj0, HT.out.z]; decide)
              clear hi0 hj0
              go_wp2_with (at_builtin
                           refine wpList_append_lies _ rfl _ _ _ rfl Bi 23 j0 _ 1 8 Try.underlying51 J0.out J1.out J2.out J3.out rfl (by omega) (vr) j (nums f j) rfl (OR1.out.alloc _) ⟨wr.heap.size, 0, none⟩ 1 1 [.float .f64 0] rfl rfl (World.news_of_block (heap_alloc_new _ _)) (by simp [Value.oneCell']) (by omega) (by unfold maxLen; omega) (by omega) (by simp; omega) (wr.heap.size + 1) (by simp) ?_
                           intro g' cap' w1 hown1 hgrow hat hlt
                           have ORN := Lib.hid hown1
                           have HGR := Lib.hid hgrow
                           clear hown1 hgrow hat)
              have hal := (Below.refl wr.heap.size wr).alloc (Nat.le_refl _) (.cells #[.float .f64 0] 23)
              have hrl := OR1.out.lt
              have ODN := Lib.hid ((own_below OD1.out hal).kept HGR.out (by
                rcases hvd : v.ownBlock with _ | q
                · exact .inl rfl
                · right
                  intro e
                  have h1 := DL.out _ hvd
                  have h2 := (hrl _ e.symm).1
                  omega))
              have RWN := Lib.hid ((RW1.out.below hal).grown HGR.out (fun r hr e => by
                have h2 := (hrl _ e.symm).1
                have h3 := RL.out r hr
                omega))
              have BXN := Lib.hid ((BX1.out.below hal (by omega)).grown HGR.out (by simp; omega) (fun e => by have h2 := (hrl _ e).1; omega))
              have BWN := Lib.hid ((BW1.out.trans (hal.mono BW1.out.size)).grown HGR.out (by simp; omega) (fun q e => by have h2 := (hrl _ e).1; omega))
              have SZN : Bi ≤ w1.heap.size := by have := HGR.out.size; simp at this; omega
              rw [nums_succ] at ORN
              go_wp2_with fail
              go_roundw
              case rel => exact ⟨j + 1, _, fun k => if k = j then 0 else f k, by go_num, by omega, rfl, ORN.out, fun k hk => (by
                show cn (if k = j then 0 else f k) = T i k
                by_cases hkj : k = j
                · rw [if_pos hkj, hkj]; exact VF.out.symm
                · rw [if_neg hkj]; exact FV.out k (by omega)), ODN.out, RWN.out, BXN.out, BWN.out, SZN⟩
              case measure => simp [intOf]; omega
            · have tj : ((j : Int) == 0) = false := by simp; omega
              obtain ⟨j', ej⟩ : ∃ j' : Nat, j' = j - 1 := ⟨_, rfl⟩
              have ej' : (j : Int) - 1 = (j' : Int) := by omega
              have h5 : (j' : Int) < (j : Int) := by omega
              have h50 : (0 : Int) ≤ (j' : Int) := by omega
              obtain ⟨gr, capr, rfl, hgr, hgr2⟩ := OR1.out.form (by omega)
              have q2 := own_cell OR1.out (nums_get f (show j' < j by omega))
              have X2 := Lib.hid (FV.out j' (by omega))
              have b0 : wr.cell? ⟨w.heap.size, 0, none⟩ = some (.float .f64 cI) := BX1.out 0
              obtain ⟨x2, hx2⟩ : ∃ x2, x2 = f j' := ⟨_, rfl⟩
              rw [← hx2] at q2 X2
              have HX2 := Lib.hid hx2; have EJ := Lib.hid ej; have HJ0 := Lib.hid hj0
              clear hi0 hj0 hx2 ej
              obtain ⟨V, eV⟩ : ∃ V, V = addN (T i j') cI := ⟨_, rfl⟩
              have EV := Lib.hid eV; clear eV
              go_wp2_with fail
              refine Reg.wp_region_rn [119, 11] (by kernel_rfl) (by kernel_rfl) (fun _ => ?_)
              repeat (refine Reg.op0e Reg.rn_class (fun _ _ => trivial) rfl rfl rfl ?_; apply Exists.intro; apply And.intro; (intro w' hb; have hc := Reg.rd_cells hb; clear hb; go_simp; (try go_bits); first | done | (with_reducible exact rfl)); (intro a' ha'; simp only [Act.put, List.setIfInBounds_toArray, List.set_cons_zero, List.set_cons_succ] at ha'; subst ha'))
              refine Reg.op0 Reg.rn_class (fun _ _ => trivial) rfl rfl rfl ⟨.float .f64 (V), ?_, ?_⟩
              · intro w' hb; have hc := Reg.rd_cells hb; clear hb; go_simp; exact ⟨wIf_refl _ _, .inr ⟨rfl, veq_of_cn (by rw [EV.out]; exact cn_addU _ _ _ _ X2.out)⟩⟩
              intro a' ha'; simp only [Act.put, List.setIfInBounds_toArray, List.set_cons_zero, List.set_cons_succ] at ha'; subst ha'
              refine Reg.op1 Reg.rn_class (fun _ _ => trivial) rfl rfl 119 _ rfl rfl ⟨.float .f64 (V), ?_, ?_⟩
              · intro u1 g1 w' hb; clear hb; have G1 := Lib.hid g1; clear g1; simp only [Act.put, List.setIfInBounds_toArray, List.set_cons_zero, List.set_cons_succ]; go_simp; exact ⟨Below.refl _ _, .inr ⟨rfl, G1.out⟩⟩
              intro a' ha'; simp only [Act.put, List.setIfInBounds_toArray, List.set_cons_zero, List.set_cons_succ] at ha'; subst ha'
              refine Reg.rn_endv [(119, .float .f64 (V)), (11, .float .f64 (V))] rfl (fun wz hb => ?_)
              refine ⟨rfl, fun u hu => ?_⟩
              obtain ⟨z119, rfl, k119⟩ := cn_of_veq hu; clear hu
              refine ⟨rfl, fun u hu => ?_⟩
              obtain ⟨z11, rfl, k11⟩ := cn_of_veq hu; clear hu
              simp only [Reg.endv, Act.put, List.setIfInBounds_toArray, List.set_cons_zero, List.set_cons_succ]
              have OR2 := Lib.hid (own_below OR1.out hb); have OD2 := Lib.hid (own_below OD1.out hb); have RW2 := Lib.hid (RW1.out.below hb); have BX2 := Lib.hid (BX1.out.below hb z5); have BW2 := Lib.hid (BW1.out.trans (hb.mono BW1.out.size))
              have hsz2 : Bi ≤ wz.heap.size := Nat.le_trans hsz1 hb.size
              have VF : Hid (T i j = cn z11) := Lib.hid (by
                have h1 := HT.out.i j'
                have hj0 := HJ0.out; have ej := EJ.out
                rw [show j' + 1 = j by omega] at h1
                rw [k11, EV.out, cn_addN, show i = 0 from HI0.out, h1])
              clear k119 k11 hb q2 b0
              go_wp2_with (at_builtin
                           refine wpList_append_lies _ rfl _ _ _ rfl Bi 23 j0 _ 1 8 Try.underlying51 J0.out J1.out J2.out J3.out rfl (by omega) (.slice (some ⟨gr, 0, none⟩) j capr) j (nums f j) rfl (OR2.out.alloc _) ⟨wz.heap.size, 0, none⟩ 1 1 [.float .f64 z11] rfl rfl (World.news_of_block (heap_alloc_new _ _)) (by simp [Value.oneCell']) (by omega) (by unfold maxLen; omega) (by omega) (by simp; omega) (wz.heap.size + 1) (by simp) ?_
                           intro g' cap' w1 hown1 hgrow hat hlt
                           have ORN := Lib.hid hown1
                           have HGR := Lib.hid hgrow
                           clear hown1 hgrow hat)
              have hal := (Below.refl wz.heap.size wz).alloc (Nat.le_refl _) (.cells #[.float .f64 z11] 23)
              have hrl := OR2.out.lt
              have ODN := Lib.hid ((own_below OD2.out hal).kept HGR.out (by
                rcases hvd : v.ownBlock with _ | q
                · exact .inl rfl
                · right
                  intro e
                  have h1 := DL.out _ hvd
                  have h2 := (hrl _ e.symm).1
                  omega))
              have RWN := Lib.hid ((RW2.out.below hal).grown HGR.out (fun r hr e => by
                have h2 := (hrl _ e.symm).1
                have h3 := RL.out r hr
                omega))
              have BXN := Lib.hid ((BX2.out.below hal (by omega)).grown HGR.out (by simp; omega) (fun e => by have h2 := (hrl _ e).1; omega))
              have BWN := Lib.hid ((BW2.out.trans (hal.mono BW2.out.size)).grown HGR.out (by simp; omega) (fun q e => by have h2 := (hrl _ e).1; omega))
              have SZN : Bi ≤ w1.heap.size := by have := HGR.out.size; simp at this; omega
              rw [nums_succ] at ORN
              go_wp2_with fail
              go_roundw
              case rel => exact ⟨j + 1, _, fun k => if k = j then z11 else f k, by go_num, by omega, rfl, ORN.out, fun k hk => (by
                show cn (if k = j then z11 else f k) = T i k
                by_cases hkj : k = j
                · rw [if_pos hkj, hkj]; exact VF.out.symm
                · rw [if_neg hkj]; exact FV.out k (by omega)), ODN.out, RWN.out, BXN.out, BWN.out, SZN⟩
              case measure => simp [intOf]; omega
          · have ti : ((i : Int) == 0) = false := by simp; omega
            obtain ⟨i', ei⟩ : ∃ i' : Nat, i' = i - 1 := ⟨_, rfl⟩
            have ei' : (i : Int) - 1 = (i' : Int) := by omega
            have h6 : (i' : Int) < (i : Int) := by omega
            have h60 : (0 : Int) ≤ (i' : Int) := by omega
            obtain ⟨gd, capd, rfl, hgd, hgd2⟩ := OD1.out.form (by omega)
            have dP := own_cell OD1.out (rows_get R C (m + 1) (show i' < i by omega))
            have rP := RW1.out.lt (show i' < i by omega)
            by_cases hj0 : j = 0
            · have tj : ((j : Int) == 0) = true := by simp; omega
              obtain ⟨x, qx, hx⟩ := RW1.out.cell (show i' < i by omega) (show 0 < m + 1 by omega)
              have hm0 : (0 : Int) < (m : Int) + 1 := by omega
              have b1 : wr.cell? ⟨w.heap.size, 1, none⟩ = some (.float .f64 cO) := BX1.out 1
              have HX := Lib.hid hx; have EI := Lib.hid ei; have HI := Lib.hid hi0; have HJ0 := Lib.hid hj0
              clear hx ei hi0 hj0
              obtain ⟨V, eV⟩ : ∃ V, V = addN (T i' 0) cO := ⟨_, rfl⟩
              have EV := Lib.hid eV; clear eV
              go_wp2_with fail
              refine Reg.wp_region_rn [108, 11] (by kernel_rfl) (by kernel_rfl) (fun _ => ?_)
              repeat (refine Reg.op0e Reg.rn_class (fun _ _ => trivial) rfl rfl rfl ?_; apply Exists.intro; apply And.intro; (intro w' hb; have hc := Reg.rd_cells hb; clear hb; go_simp; (try go_bits); first | done | (with_reducible exact rfl)); (intro a' ha'; simp only [Act.put, List.setIfInBounds_toArray, List.set_cons_zero, List.set_cons_succ] at ha'; subst ha'))
              refine Reg.op0 Reg.rn_class (fun _ _ => trivial) rfl rfl rfl ⟨.float .f64 (V), ?_, ?_⟩
              · intro w' hb; have hc := Reg.rd_cells hb; clear hb; go_simp; exact ⟨wIf_refl _ _, .inr ⟨rfl, veq_of_cn (by rw [EV.out]; exact cn_addU _ _ _ _ HX.out)⟩⟩
              intro a' ha'; simp only [Act.put, List.setIfInBounds_toArray, List.set_cons_zero, List.set_cons_succ] at ha'; subst ha'
              refine Reg.op1 Reg.rn_class (fun _ _ => trivial) rfl rfl 108 _ rfl rfl ⟨.float .f64 (V), ?_, ?_⟩
              · intro u1 g1 w' hb; clear hb; have G1 := Lib.hid g1; clear g1; simp only [Act.put, List.setIfInBounds_toArray, List.set_cons_zero, List.set_cons_succ]; go_simp; exact ⟨Below.refl _ _, .inr ⟨rfl, G1.out⟩⟩
              intro a' ha'; simp only [Act.put, List.setIfInBounds_toArray, List.set_cons_zero, List.set_cons_succ] at ha'; subst ha'
              refine Reg.rn_endv [(108, .float .f64 (V)), (11, .float .f64 (V))] rfl (fun wz hb => ?_)
              refine ⟨rfl, fun u hu => ?_⟩
              obtain ⟨z108, rfl, k108⟩ := cn_of_veq hu; clear hu
              refine ⟨rfl, fun u hu => ?_⟩
              obtain ⟨z11, rfl, k11⟩ := cn_of_veq hu; clear hu
              simp only [Reg.endv, Act.put, List.setIfInBounds_toArray, List.set_cons_zero, List.set_cons_succ]
              have OR2 := Lib.hid (own_below OR1.out hb); have OD2 := Lib.hid (own_below OD1.out hb); have RW2 := Lib.hid (RW1.out.below hb); have BX2 := Lib.hid (BX1.out.below hb z5); have BW2 := Lib.hid (BW1.out.trans (hb.mono BW1.out.size))
              have hsz2 : Bi ≤ wz.heap.size := Nat.le_trans hsz1 hb.size
              have VF : Hid (T i j = cn z11) := Lib.hid (by
                have h1 := HT.out.o i'
                have hi0 := HI.out; have ei := EI.out
                rw [show i' + 1 = i by omega] at h1
                rw [k11, EV.out, cn_addN, show j = 0 from HJ0.out, h1])
              clear k108 k11 hb qx b1 dP
              go_wp2_with (at_builtin
                           refine wpList_append_lies _ rfl _ _ _ rfl Bi 23 j0 _ 1 8 Try.underlying51 J0.out J1.out J2.out J3.out rfl (by omega) (vr) j (nums f j) rfl (OR2.out.alloc _) ⟨wz.heap.size, 0, none⟩ 1 1 [.float .f64 z11] rfl rfl (World.news_of_block (heap_alloc_new _ _)) (by simp [Value.oneCell']) (by omega) (by unfold maxLen; omega) (by omega) (by simp; omega) (wz.heap.size + 1) (by simp) ?_
                           intro g' cap' w1 hown1 hgrow hat hlt
                           have ORN := Lib.hid hown1
                           have HGR := Lib.hid hgrow
                           clear hown1 hgrow hat)
              have hal := (Below.refl wz.heap.size wz).alloc (Nat.le_refl _) (.cells #[.float .f64 z11] 23)
              have hrl := OR2.out.lt
              have ODN := Lib.hid ((own_below OD2.out hal).kept HGR.out (by
                rcases hvd : (Value.slice (some ⟨gd, 0, none⟩) i capd).ownBlock with _ | q
                · exact .inl rfl
                · right
                  intro e
                  have h1 := DL.out _ hvd
                  have h2 := (hrl _ e.symm).1
                  omega))
              have RWN := Lib.hid ((RW2.out.below hal).grown HGR.out (fun r hr e => by
                have h2 := (hrl _ e.symm).1
                have h3 := RL.out r hr
                omega))
              have BXN := Lib.hid ((BX2.out.below hal (by omega)).grown HGR.out (by simp; omega) (fun e => by have h2 := (hrl _ e).1; omega))
              have BWN := Lib.hid ((BW2.out.trans (hal.mono BW2.out.size)).grown HGR.out (by simp; omega) (fun q e => by have h2 := (hrl _ e).1; omega))
              have SZN : Bi ≤ w1.heap.size := by have := HGR.out.size; simp at this; omega
              rw [nums_succ] at ORN
              go_wp2_with fail
              go_roundw
              case rel => exact ⟨j + 1, _, fun k => if k = j then z11 else f k, by go_num, by omega, rfl, ORN.out, fun k hk => (by
                show cn (if k = j then z11 else f k) = T i k
                by_cases hkj : k = j
                · rw [if_pos hkj, hkj]; exact VF.out.symm
                · rw [if_neg hkj]; exact FV.out k (by omega)), ODN.out, RWN.out, BXN.out, BWN.out, SZN⟩
              case measure => simp [intOf]; omega
            · have tj : ((j : Int) == 0) = false := by simp; omega
              obtain ⟨j', ej⟩ : ∃ j' : Nat, j' = j - 1 := ⟨_, rfl⟩
              have ej' : (j : Int) - 1 = (j' : Int) := by omega
              have h5 : (j' : Int) < (j : Int) := by omega
              have h7 : (i' : Int) < (n : Int) := by omega
              have h8 : (j' : Int) < (m : Int) := by omega
              have h10 : (j : Int) < (m : Int) + 1 := by omega
              have h11 : (j' : Int) < (m : Int) + 1 := by omega
              have h50 : (0 : Int) ≤ (j' : Int) := by omega
              obtain ⟨gr, capr, rfl, hgr, hgr2⟩ := OR1.out.form (by omega)
              have q2 := own_cell OR1.out (nums_get f (show j' < j by omega))
              obtain ⟨x1, q1, hx1⟩ := RW1.out.cell (show i' < i by omega) (show j < m + 1 by omega)
              have X2 := Lib.hid (FV.out j' (by omega))
              obtain ⟨x2, hx2⟩ : ∃ x2, x2 = f j' := ⟨_, rfl⟩
              rw [← hx2] at q2 X2
              have HX2 := Lib.hid hx2
              clear hx2
              obtain ⟨V1, eV1⟩ : ∃ V, V = addN (T i' j) cO := ⟨_, rfl⟩
              obtain ⟨V2, eV2⟩ : ∃ V, V = addN (T i j') cI := ⟨_, rfl⟩
              obtain ⟨V3, eV3⟩ : ∃ V, V = minF V1 V2 := ⟨_, rfl⟩
              have lV1 : V1 < 2 ^ 64 := by rw [eV1]; exact addN_lt _ _
              have lV2 : V2 < 2 ^ 64 := by rw [eV2]; exact addN_lt _ _
              have lV3 : V3 < 2 ^ 64 := by rw [eV3]; exact minF_lt _ _ lV1 lV2
              have X1 := Lib.hid hx1; have E1 := Lib.hid eV1; have E2 := Lib.hid eV2; have E3 := Lib.hid eV3
              have L1 := Lib.hid lV1; have L2 := Lib.hid lV2; have L3 := Lib.hid lV3
              clear hx1 eV1 eV2 eV3 lV1 lV2 lV3
              have b0 : wr.cell? ⟨w.heap.size, 0, none⟩ = some (.float .f64 cI) := BX1.out 0
              have b1 : wr.cell? ⟨w.heap.size, 1, none⟩ = some (.float .f64 cO) := BX1.out 1
              have EJ := Lib.hid ej; have EI := Lib.hid ei; have HI := Lib.hid hi0; have HJ := Lib.hid hj0
              clear ej ei hi0 hj0
              go_wp2_with fail
              refine Reg.wp_region_rn [36, 44, 45, 11] (by kernel_rfl) (by kernel_rfl) (fun _ => ?_)
              repeat (refine Reg.op0e Reg.rn_class (fun _ _ => trivial) rfl rfl rfl ?_; apply Exists.intro; apply And.intro; (intro w' hb; have hc := Reg.rd_cells hb; clear hb; go_simp; (try go_bits); first | done | (with_reducible exact rfl)); (intro a' ha'; simp only [Act.put, List.setIfInBounds_toArray, List.set_cons_zero, List.set_cons_succ] at ha'; subst ha'))
              refine Reg.op0 Reg.rn_class (fun _ _ => trivial) rfl rfl rfl ⟨.float .f64 (V1), ?_, ?_⟩
              · intro w' hb; have hc := Reg.rd_cells hb; clear hb; go_simp; exact ⟨wIf_refl _ _, .inr ⟨rfl, veq_of_cn (by rw [E1.out]; exact cn_addU _ _ _ _ X1.out)⟩⟩
              intro a' ha'; simp only [Act.put, List.setIfInBounds_toArray, List.set_cons_zero, List.set_cons_succ] at ha'; subst ha'
              repeat (refine Reg.op0e Reg.rn_class (fun _ _ => trivial) rfl rfl rfl ?_; apply Exists.intro; apply And.intro; (intro w' hb; have hc := Reg.rd_cells hb; clear hb; go_simp; (try go_bits); first | done | (with_reducible exact rfl)); (intro a' ha'; simp only [Act.put, List.setIfInBounds_toArray, List.set_cons_zero, List.set_cons_succ] at ha'; subst ha'))
              refine Reg.op0 Reg.rn_class (fun _ _ => trivial) rfl rfl rfl ⟨.float .f64 (V2), ?_, ?_⟩
              · intro w' hb; have hc := Reg.rd_cells hb; clear hb; go_simp; exact ⟨wIf_refl _ _, .inr ⟨rfl, veq_of_cn (by rw [E2.out]; exact cn_addU _ _ _ _ X2.out)⟩⟩
              intro a' ha'; simp only [Act.put, List.setIfInBounds_toArray, List.set_cons_zero, List.set_cons_succ] at ha'; subst ha'
              refine Reg.op2 Reg.rn_class (fun _ _ => trivial) rfl rfl 36 44 _ _ rfl rfl rfl ⟨.float .f64 (V3), ?_, ?_⟩
              · intro u1 u2 g1 g2 w' hb; obtain ⟨y1, rfl, f1⟩ := cn_of_veq g1; obtain ⟨y2, rfl, f2⟩ := cn_of_veq g2; clear g1 g2 hb; have F1 := Lib.hid f1; have F2 := Lib.hid f2; clear f1 f2; simp only [Act.put, List.setIfInBounds_toArray, List.set_cons_zero, List.set_cons_succ]; go_simp; have f1 := F1.out; have f2 := F2.out; exact ⟨rfl, by rw [E3.out]; exact leastup V1 V2 y1 y2 w' f1 f2 L1.out L2.out⟩
              intro a' ha'; simp only [Act.put, List.setIfInBounds_toArray, List.set_cons_zero, List.set_cons_succ] at ha'; subst ha'
              refine Reg.op1 Reg.rn_class (fun _ _ => trivial) rfl rfl 45 _ rfl rfl ⟨.float .f64 (V3), ?_, ?_⟩
              · intro u1 g1 w' hb; clear hb; have G1 := Lib.hid g1; clear g1; simp only [Act.put, List.setIfInBounds_toArray, List.set_cons_zero, List.set_cons_succ]; go_simp; exact ⟨Below.refl _ _, .inr ⟨rfl, G1.out⟩⟩
              intro a' ha'; simp only [Act.put, List.setIfInBounds_toArray, List.set_cons_zero, List.set_cons_succ] at ha'; subst ha'
              refine Reg.rn_endv [(36, .float .f64 (V1)), (44, .float .f64 (V2)), (45, .float .f64 (V3)), (11, .float .f64 (V3))] rfl (fun wz hb => ?_)
              refine ⟨rfl, fun u hu => ?_⟩
              obtain ⟨z36, rfl, k36⟩ := cn_of_veq hu; clear hu
              refine ⟨rfl, fun u hu => ?_⟩
              obtain ⟨z44, rfl, k44⟩ := cn_of_veq hu; clear hu
              refine ⟨rfl, fun u hu => ?_⟩
              obtain ⟨z45, rfl, k45⟩ := cn_of_veq hu; clear hu
              refine ⟨rfl, fun u hu => ?_⟩
              obtain ⟨z11, rfl, k11⟩ := cn_of_veq hu; clear hu
              simp only [Reg.endv, Act.put, List.setIfInBounds_toArray, List.set_cons_zero, List.set_cons_succ]
              have OR2 := Lib.hid (own_below OR1.out hb); have OD2 := Lib.hid (own_below OD1.out hb); have RW2 := Lib.hid (RW1.out.below hb); have BX2 := Lib.hid (BX1.out.below hb z5); have BW2 := Lib.hid (BW1.out.trans (hb.mono BW1.out.size))
              have hsz2 : Bi ≤ wz.heap.size := Nat.le_trans hsz1 hb.size
              have hgd3 : gd < wz.heap.size := Nat.lt_of_lt_of_le hgd2 hb.size
              have K11 := Lib.hid k11
              have z6 : w.heap.size < wz.heap.size := by omega
              clear k36 k44 k45 k11 hb q1 q2 dP b0 b1 rP
              have dP := own_cell OD2.out (rows_get R C (m + 1) (show i' < i by omega))
              have rP := RW2.out.lt (show i' < i by omega)
              obtain ⟨x3, q3, hx3⟩ := RW2.out.cell (show i' < i by omega) (show j' < m + 1 by omega)
              have X3 := Lib.hid hx3; clear hx3
              obtain ⟨ga, oa, rfl, hga, hca⟩ := (HA.out.below BW2.out (Nat.le_refl _)) (by omega)
              obtain ⟨gb, ob, rfl, hgb, hcb⟩ := (HB.out.below BW2.out (Nat.le_refl _)) (by omega)
              have qa := hca i' (by omega)
              have qb := hcb j' (by omega)
              clear hca hcb
              have hga2 : ga < wz.heap.size := by omega
              have hgb2 : gb < wz.heap.size := by omega
              obtain ⟨V4, eV4⟩ : ∃ V, V = othV p np cX (fa i') (fb j') := ⟨_, rfl⟩
              obtain ⟨V5, eV5⟩ : ∃ V, V = addN (T i' j') V4 := ⟨_, rfl⟩
              obtain ⟨V6, eV6⟩ : ∃ V, V = minF V3 V5 := ⟨_, rfl⟩
              have lV5 : V5 < 2 ^ 64 := by rw [eV5]; exact addN_lt _ _
              have lV6 : V6 < 2 ^ 64 := by rw [eV6]; exact minF_lt _ _ L3.out lV5
              have hoth : ∀ w', Below wz.heap.size wz w' → Calls Try.prog 51 #[.agg #[.float .f64 cI, .float .f64 cO, .float .f64 cX, .float .f64 cT, .slice Ap np cp], .int .i32 (fa i'), .int .i32 (fb j')] w'
                  fun e w'' => ∃ u, e = .returned u ∧ Reg.Veq u (.float .f64 V4) ∧ Below w'.heap.size w' w'' := fun w' hb' =>
                (rput_any cI cO cX cT Ap np cp p (fa i') (fb j') w' hnp ((HP.out.below (BW2.out.trans (hb'.mono BW2.out.size)) (Nat.le_refl _)).more (Nat.le_trans BW2.out.size hb'.size)) HR.out).mono fun en w'' ⟨u, e1, e2, e3⟩ => ⟨_, e1, veq_of_cn (by rw [e2, eV4]), e3⟩
              have HOTH := Lib.hid hoth; have E4 := Lib.hid eV4; have E5 := Lib.hid eV5; have E6 := Lib.hid eV6; have L5 := Lib.hid lV5; have L6 := Lib.hid lV6
              clear hoth eV4 eV5 eV6 lV5 lV6
              have hbx : ∀ k, wz.cell? ⟨w.heap.size, k, none⟩ = #[.float .f64 cI, .float .f64 cO, .float .f64 cX, .float .f64 cT, .slice Ap np cp][k]? := BX2.out
              go_wp2_with fail
              refine Reg.wp_region_rn [46, 67, 68, 69, 11] (by kernel_rfl) (by kernel_rfl) (fun _ => ?_)
              refine Reg.op1 Reg.rn_class (fun _ _ => trivial) rfl rfl 11 _ rfl rfl ⟨.float .f64 (z11), ?_, ?_⟩
              · intro u1 g1 w' hb; clear hb; have G1 := Lib.hid g1; clear g1; simp only [Act.put, List.setIfInBounds_toArray, List.set_cons_zero, List.set_cons_succ]; go_simp; exact ⟨Below.refl _ _, .inr ⟨rfl, G1.out⟩⟩
              intro a' ha'; simp only [Act.put, List.setIfInBounds_toArray, List.set_cons_zero, List.set_cons_succ] at ha'; subst ha'
              repeat (refine Reg.op0e Reg.rn_class (fun _ _ => trivial) rfl rfl rfl ?_; apply Exists.intro; apply And.intro; (intro w' hb; have hc := Reg.rd_cells hb; clear hb; go_simp; (try go_bits); first | done | (with_reducible exact rfl)); (intro a' ha'; simp only [Act.put, List.setIfInBounds_toArray, List.set_cons_zero, List.set_cons_succ] at ha'; subst ha'))
              refine Reg.op0 Reg.rn_class (fun _ _ => trivial) rfl rfl rfl ⟨.float .f64 (V4), ?_, ?_⟩
              · intro w' hb; have hbw := Lib.hid hb; have hc := Reg.rd_cells hb; clear hb; go_simp; exact ⟨rfl, (HOTH.out _ hbw.out).mono fun en w'' ⟨u, e1, e2, e3⟩ => ⟨u, e1, .inr ⟨rfl, e2⟩, e3⟩⟩
              intro a' ha'; simp only [Act.put, List.setIfInBounds_toArray, List.set_cons_zero, List.set_cons_succ] at ha'; subst ha'
              refine Reg.op1 Reg.rn_class (fun _ _ => trivial) rfl rfl 67 _ rfl rfl ⟨.float .f64 (V5), ?_, ?_⟩
              · intro u1 g1 w' hb; obtain ⟨y1, rfl, f1⟩ := cn_of_veq g1; clear g1; have hc := Reg.rd_cells hb; clear hb; have F1 := Lib.hid f1; clear f1; simp only [Act.put, List.setIfInBounds_toArray, List.set_cons_zero, List.set_cons_succ]; go_simp; have f1 := F1.out; exact ⟨wIf_refl _ _, .inr ⟨rfl, veq_of_cn (by rw [E5.out]; exact cn_addU2 _ _ _ _ _ X3.out f1)⟩⟩
              intro a' ha'; simp only [Act.put, List.setIfInBounds_toArray, List.set_cons_zero, List.set_cons_succ] at ha'; subst ha'
              refine Reg.op2 Reg.rn_class (fun _ _ => trivial) rfl rfl 46 68 _ _ rfl rfl rfl ⟨.float .f64 (V6), ?_, ?_⟩
              · intro u1 u2 g1 g2 w' hb; obtain ⟨y1, rfl, f1⟩ := cn_of_veq g1; obtain ⟨y2, rfl, f2⟩ := cn_of_veq g2; clear g1 g2 hb; have F1 := Lib.hid f1; have F2 := Lib.hid f2; clear f1 f2; simp only [Act.put, List.setIfInBounds_toArray, List.set_cons_zero, List.set_cons_succ]; go_simp; have f1 := F1.out; have f2 := F2.out; exact ⟨rfl, by rw [E6.out]; exact leastup V3 V5 y1 y2 w' (f1.trans K11.out) f2 L3.out L5.out⟩
              intro a' ha'; simp only [Act.put, List.setIfInBounds_toArray, List.set_cons_zero, List.set_cons_succ] at ha'; subst ha'
              refine Reg.op1 Reg.rn_class (fun _ _ => trivial) rfl rfl 69 _ rfl rfl ⟨.float .f64 (V6), ?_, ?_⟩
              · intro u1 g1 w' hb; clear hb; have G1 := Lib.hid g1; clear g1; simp only [Act.put, List.setIfInBounds_toArray, List.set_cons_zero, List.set_cons_succ]; go_simp; exact ⟨Below.refl _ _, .inr ⟨rfl, G1.out⟩⟩
              intro a' ha'; simp only [Act.put, List.setIfInBounds_toArray, List.set_cons_zero, List.set_cons_succ] at ha'; subst ha'
              refine Reg.rn_endv [(46, .float .f64 (z11)), (67, .float .f64 (V4)), (68, .float .f64 (V5)), (69, .float .f64 (V6)), (11, .float .f64 (V6))] rfl (fun wz hb => ?_)
              refine ⟨rfl, fun u hu => ?_⟩
              obtain ⟨z46, rfl, k46⟩ := cn_of_veq hu; clear hu
              refine ⟨rfl, fun u hu => ?_⟩
              obtain ⟨z67, rfl, k67⟩ := cn_of_veq hu; clear hu
              refine ⟨rfl, fun u hu => ?_⟩
              obtain ⟨z68, rfl, k68⟩ := cn_of_veq hu; clear hu
              refine ⟨rfl, fun u hu => ?_⟩
              obtain ⟨z69, rfl, k69⟩ := cn_of_veq hu; clear hu
              refine ⟨rfl, fun u hu => ?_⟩
              obtain ⟨z11, rfl, k11⟩ := cn_of_veq hu; clear hu
              simp only [Reg.endv, Act.put, List.setIfInBounds_toArray, List.set_cons_zero, List.set_cons_succ]
              have OR3 := Lib.hid (own_below OR2.out hb); have OD3 := Lib.hid (own_below OD2.out hb); have RW3 := Lib.hid (RW2.out.below hb); have BX3 := Lib.hid (BX2.out.below hb z6); have BW3 := Lib.hid (BW2.out.trans (hb.mono BW2.out.size))
              have hsz3 : Bi ≤ wz.heap.size := Nat.le_trans hsz2 hb.size
              have hgd4 : gd < wz.heap.size := Nat.lt_of_lt_of_le hgd3 hb.size
              have z7 : w.heap.size < wz.heap.size := by omega
              have K11' := Lib.hid k11
              clear k46 k67 k68 k69 k11 q3 qa qb dP hbx HOTH hb rP hga2 hgb2
              go_wp2_with fail
              refine (rturned_any _ _ n m c d i j fa fb _ ((HA.out.below BW3.out (Nat.le_refl _)).more BW3.out.size) ((HB.out.below BW3.out (Nat.le_refl _)).more BW3.out.size) (by omega) (by omega) hn hm).mono ?_
              rintro en wt ⟨rfl, hbt⟩
              have OR4 := Lib.hid (own_below OR3.out hbt); have OD4 := Lib.hid (own_below OD3.out hbt); have RW4 := Lib.hid (RW3.out.below hbt); have BX4 := Lib.hid (BX3.out.below hbt z7); have BW4 := Lib.hid (BW3.out.trans (hbt.mono BW3.out.size))
              have hsz4 : Bi ≤ wt.heap.size := Nat.le_trans hsz3 hbt.size
              have hgd5 : gd < wt.heap.size := Nat.lt_of_lt_of_le hgd4 hbt.size
              have z8 : w.heap.size < wt.heap.size := by omega
              clear hbt
              cases htn : tnB fa fb i j
              · have VF : Hid (T i j = cn z11) := by
                  have h1 := HT.out.s i' j'
                  have ei := EI.out; have ej := EJ.out; have hi0 := HI.out; have hj0 := HJ.out
                  rw [show i' + 1 = i by omega, show j' + 1 = j by omega] at h1
                  refine Lib.hid ?_
                  rw [h1 htn, K11'.out, E6.out, E3.out, E1.out, E2.out, E5.out, E4.out]
                  exact (by rw [minF_cn _ _ (minF_cn _ _ (cn_addN _ _) (cn_addN _ _)) (cn_addN _ _)])
                go_wp2_with (at_builtin
                             refine wpList_append_lies _ rfl _ _ _ rfl Bi 23 j0 _ 1 8 Try.underlying51 J0.out J1.out J2.out J3.out rfl (by omega) (.slice (some ⟨gr, 0, none⟩) j capr) j (nums f j) rfl (OR4.out.alloc _) ⟨wt.heap.size, 0, none⟩ 1 1 [.float .f64 z11] rfl rfl (World.news_of_block (heap_alloc_new _ _)) (by simp [Value.oneCell']) (by omega) (by unfold maxLen; omega) (by omega) (by simp; omega) (wt.heap.size + 1) (by simp) ?_
                             intro g' cap' w1 hown1 hgrow hat hlt
                             have ORN := Lib.hid hown1
                             have HGR := Lib.hid hgrow
                             clear hown1 hgrow hat)
                have hal := (Below.refl wt.heap.size wt).alloc (Nat.le_refl _) (.cells #[.float .f64 z11] 23)
                have hrl := OR4.out.lt
                have ODN := Lib.hid ((own_below OD4.out hal).kept HGR.out (by
                  rcases hvd : (Value.slice (some ⟨gd, 0, none⟩) i capd).ownBlock with _ | q
                  · exact .inl rfl
                  · right
                    intro e
                    have h1 := DL.out _ hvd
                    have h2 := (hrl _ e.symm).1
                    omega))
                have RWN := Lib.hid ((RW4.out.below hal).grown HGR.out (fun r hr e => by
                  have h2 := (hrl _ e.symm).1
                  have h3 := RL.out r hr
                  omega))
                have BXN := Lib.hid ((BX4.out.below hal (by omega)).grown HGR.out (by simp; omega) (fun e => by have h2 := (hrl _ e).1; omega))
                have BWN := Lib.hid ((BW4.out.trans (hal.mono BW4.out.size)).grown HGR.out (by simp; omega) (fun q e => by have h2 := (hrl _ e).1; omega))
                have SZN : Bi ≤ w1.heap.size := by have := HGR.out.size; simp at this; omega
                rw [nums_succ] at ORN
                go_wp2_with fail
                go_roundw
                case rel => exact ⟨j + 1, _, fun k => if k = j then z11 else f k, by go_num, by omega, rfl, ORN.out, fun k hk => (by
                  show cn (if k = j then z11 else f k) = T i k
                  by_cases hkj : k = j
                  · rw [if_pos hkj, hkj]; exact VF.out.symm
                  · rw [if_neg hkj]; exact FV.out k (by omega)), ODN.out, RWN.out, BXN.out, BWN.out, SZN⟩
                case measure => simp [intOf]; omega
              · have htn' : 1 < i ∧ 1 < j := by
                  unfold tnB at htn; simp only [Bool.and_eq_true, decide_eq_true_eq] at htn; omega
                obtain ⟨i2, ei2⟩ : ∃ i2 : Nat, i2 = i - 2 := ⟨_, rfl⟩
                obtain ⟨j2, ej2⟩ : ∃ j2 : Nat, j2 = j - 2 := ⟨_, rfl⟩
                have ei2' : (i : Int) - 2 = (i2 : Int) := by omega
                have ej2' : (j : Int) - 2 = (j2 : Int) := by omega
                have g1 : (i2 : Int) < (i : Int) := by omega
                have g2 : (j2 : Int) < (m : Int) + 1 := by omega
                have g3 : (0 : Int) ≤ (i2 : Int) ∧ (0 : Int) ≤ (j2 : Int) := by omega
                have dQ := own_cell OD4.out (rows_get R C (m + 1) (show i2 < i by omega))
                have rQ := RW4.out.lt (show i2 < i by omega)
                obtain ⟨x4, q4, hx4⟩ := RW4.out.cell (show i2 < i by omega) (show j2 < m + 1 by omega)
                have X4 := Lib.hid hx4; clear hx4
                obtain ⟨V7, eV7⟩ : ∃ V, V = addN (T i2 j2) cT := ⟨_, rfl⟩
                obtain ⟨V8, eV8⟩ : ∃ V, V = minF V6 V7 := ⟨_, rfl⟩
                have lV7 : V7 < 2 ^ 64 := by rw [eV7]; exact addN_lt _ _
                have E7 := Lib.hid eV7; have E8 := Lib.hid eV8; have L7 := Lib.hid lV7
                have EI2 := Lib.hid ei2; have EJ2 := Lib.hid ej2
                clear eV7 eV8 lV7 ei2 ej2
                have b3 : wt.cell? ⟨w.heap.size, 3, none⟩ = some (.float .f64 cT) := BX4.out 3
                have HTN := Lib.hid htn; clear htn
                go_wp2_with fail
                refine Reg.wp_region_rn [75, 87, 88, 11] (by kernel_rfl) (by kernel_rfl) (fun _ => ?_)
                refine Reg.op1 Reg.rn_class (fun _ _ => trivial) rfl rfl 11 _ rfl rfl ⟨.float .f64 (z11), ?_, ?_⟩
                · intro u1 g1 w' hb; clear hb; have G1 := Lib.hid g1; clear g1; simp only [Act.put, List.setIfInBounds_toArray, List.set_cons_zero, List.set_cons_succ]; go_simp; exact ⟨Below.refl _ _, .inr ⟨rfl, G1.out⟩⟩
                intro a' ha'; simp only [Act.put, List.setIfInBounds_toArray, List.set_cons_zero, List.set_cons_succ] at ha'; subst ha'
                repeat (refine Reg.op0e Reg.rn_class (fun _ _ => trivial) rfl rfl rfl ?_; apply Exists.intro; apply And.intro; (intro w' hb; have hc := Reg.rd_cells hb; clear hb; go_simp; (try go_bits); first | done | (with_reducible exact rfl)); (intro a' ha'; simp only [Act.put, List.setIfInBounds_toArray, List.set_cons_zero, List.set_cons_succ] at ha'; subst ha'))
                refine Reg.op0 Reg.rn_class (fun _ _ => trivial) rfl rfl rfl ⟨.float .f64 (V7), ?_, ?_⟩
                · intro w' hb; have hc := Reg.rd_cells hb; clear hb; go_simp; exact ⟨wIf_refl _ _, .inr ⟨rfl, veq_of_cn (by rw [E7.out]; exact cn_addU _ _ _ _ X4.out)⟩⟩
                intro a' ha'; simp only [Act.put, List.setIfInBounds_toArray, List.set_cons_zero, List.set_cons_succ] at ha'; subst ha'
                refine Reg.op2 Reg.rn_class (fun _ _ => trivial) rfl rfl 75 87 _ _ rfl rfl rfl ⟨.float .f64 (V8), ?_, ?_⟩
                · intro u1 u2 g1 g2 w' hb; obtain ⟨y1, rfl, f1⟩ := cn_of_veq g1; obtain ⟨y2, rfl, f2⟩ := cn_of_veq g2; clear g1 g2 hb; have F1 := Lib.hid f1; have F2 := Lib.hid f2; clear f1 f2; simp only [Act.put, List.setIfInBounds_toArray, List.set_cons_zero, List.set_cons_succ]; go_simp; have f1 := F1.out; have f2 := F2.out; exact ⟨rfl, by rw [E8.out]; exact leastup V6 V7 y1 y2 w' (f1.trans K11'.out) f2 L6.out L7.out⟩
                intro a' ha'; simp only [Act.put, List.setIfInBounds_toArray, List.set_cons_zero, List.set_cons_succ] at ha'; subst ha'
                refine Reg.op1 Reg.rn_class (fun _ _ => trivial) rfl rfl 88 _ rfl rfl ⟨.float .f64 (V8), ?_, ?_⟩
                · intro u1 g1 w' hb; clear hb; have G1 := Lib.hid g1; clear g1; simp only [Act.put, List.setIfInBounds_toArray, List.set_cons_zero, List.set_cons_succ]; go_simp; exact ⟨Below.refl _ _, .inr ⟨rfl, G1.out⟩⟩
                intro a' ha'; simp only [Act.put, List.setIfInBounds_toArray, List.set_cons_zero, List.set_cons_succ] at ha'; subst ha'
                refine Reg.rn_endv [(75, .float .f64 (z11)), (87, .float .f64 (V7)), (88, .float .f64 (V8)), (11, .float .f64 (V8))] rfl (fun wz hb => ?_)
                refine ⟨rfl, fun u hu => ?_⟩
                obtain ⟨z75, rfl, k75⟩ := cn_of_veq hu; clear hu
                refine ⟨rfl, fun u hu => ?_⟩
                obtain ⟨z87, rfl, k87⟩ := cn_of_veq hu; clear hu
                refine ⟨rfl, fun u hu => ?_⟩
                obtain ⟨z88, rfl, k88⟩ := cn_of_veq hu; clear hu
                refine ⟨rfl, fun u hu => ?_⟩
                obtain ⟨z11, rfl, k11⟩ := cn_of_veq hu; clear hu
                simp only [Reg.endv, Act.put, List.setIfInBounds_toArray, List.set_cons_zero, List.set_cons_succ]
                have OR5 := Lib.hid (own_below OR4.out hb); have OD5 := Lib.hid (own_below OD4.out hb); have RW5 := Lib.hid (RW4.out.below hb); have BX5 := Lib.hid (BX4.out.below hb z8); have BW5 := Lib.hid (BW4.out.trans (hb.mono BW4.out.size))
                have hsz5 : Bi ≤ wz.heap.size := Nat.le_trans hsz4 hb.size
                have VF : Hid (T i j = cn z11) := by
                  have h1 := HT.out.t i2 j2
                  have ei := EI.out; have ej := EJ.out; have ei2 := EI2.out; have ej2 := EJ2.out
                  rw [show i2 + 2 = i by omega, show j2 + 2 = j by omega, show i2 + 1 = i' by omega, show j2 + 1 = j' by omega] at h1
                  refine Lib.hid ?_
                  rw [h1 HTN.out, k11, E8.out, E6.out, E3.out, E1.out, E2.out, E5.out, E4.out, E7.out]
                  exact (by rw [minF_cn _ _ (minF_cn _ _ (minF_cn _ _ (cn_addN _ _) (cn_addN _ _)) (cn_addN _ _)) (cn_addN _ _)])
                clear k75 k87 k88 k11 q4 dQ rQ b3 hb
                go_wp2_with (at_builtin
                             refine wpList_append_lies _ rfl _ _ _ rfl Bi 23 j0 _ 1 8 Try.underlying51 J0.out J1.out J2.out J3.out rfl (by omega) (.slice (some ⟨gr, 0, none⟩) j capr) j (nums f j) rfl (OR5.out.alloc _) ⟨wz.heap.size, 0, none⟩ 1 1 [.float .f64 z11] rfl rfl (World.news_of_block (heap_alloc_new _ _)) (by simp [Value.oneCell']) (by omega) (by unfold maxLen; omega) (by omega) (by simp; omega) (wz.heap.size + 1) (by simp) ?_
                             intro g' cap' w1 hown1 hgrow hat hlt
                             have ORN := Lib.hid hown1
                             have HGR := Lib.hid hgrow
                             clear hown1 hgrow hat)
                have hal := (Below.refl wz.heap.size wz).alloc (Nat.le_refl _) (.cells #[.float .f64 z11] 23)
                have hrl := OR5.out.lt
                have ODN := Lib.hid ((own_below OD5.out hal).kept HGR.out (by
                  rcases hvd : (Value.slice (some ⟨gd, 0, none⟩) i capd).ownBlock with _ | q
                  · exact .inl rfl
                  · right
                    intro e
                    have h1 := DL.out _ hvd
                    have h2 := (hrl _ e.symm).1
                    omega))
                have RWN := Lib.hid ((RW5.out.below hal).grown HGR.out (fun r hr e => by
                  have h2 := (hrl _ e.symm).1
                  have h3 := RL.out r hr
                  omega))
                have BXN := Lib.hid ((BX5.out.below hal (by omega)).grown HGR.out (by simp; omega) (fun e => by have h2 := (hrl _ e).1; omega))
                have BWN := Lib.hid ((BW5.out.trans (hal.mono BW5.out.size)).grown HGR.out (by simp; omega) (fun q e => by have h2 := (hrl _ e).1; omega))
                have SZN : Bi ≤ w1.heap.size := by have := HGR.out.size; simp at this; omega
                rw [nums_succ] at ORN
                go_wp2_with fail
                go_roundw
                case rel => exact ⟨j + 1, _, fun k => if k = j then z11 else f k, by go_num, by omega, rfl, ORN.out, fun k hk => (by
                  show cn (if k = j then z11 else f k) = T i k
                  by_cases hkj : k = j
                  · rw [if_pos hkj, hkj]; exact VF.out.symm
                  · rw [if_neg hkj]; exact FV.out k (by omega)), ODN.out, RWN.out, BXN.out, BWN.out, SZN⟩
                case measure => simp [intOf]; omega
        · obtain rfl : j = m + 1 := by omega
          have hjm : ¬ ((m + 1 : Nat) : Int) ≤ (m : Int) := by omega
          obtain ⟨gr, capr, rfl, hgr, hgr2⟩ := OR1.out.form (by omega)
          have hdone := Lib.hid (row_done (H := w.heap.size) OR1.out (by omega) FV.out)
          go_wp2_with (at_builtin
                       refine wpList_append_lies _ rfl _ _ _ rfl (w.heap.size + 1) 51 i0 _ 1 24 Try.underlying47 I0.out I1.out I2.out I3.out rfl (by omega) v i (rows R C (m + 1) i) rfl (OD1.out.alloc _) ⟨wr.heap.size, 0, none⟩ 1 1 [.slice (some ⟨gr, 0, none⟩) (m + 1) capr] rfl rfl (World.news_of_block (heap_alloc_new _ _)) (by simp [Value.oneCell']) (by omega) (by unfold maxLen; omega) (by omega) (by simp; omega) (wr.heap.size + 1) (by simp) ?_
                       intro g' cap' w1 hown1 hgrow hat hlt
                       have ORN := Lib.hid hown1
                       have HGR := Lib.hid hgrow
                       clear hown1 hgrow hat)
          have hal := (Below.refl wr.heap.size wr).alloc (Nat.le_refl _) (.cells #[.slice (some ⟨gr, 0, none⟩) (m + 1) capr] 51)
          have hrl := OD1.out.lt
          have RWN := Lib.hid ((RW1.out.below hal).grown HGR.out (fun r hr e => by
            obtain ⟨-, cs, hcs, -⟩ := RW1.out r hr
            exact own_ne OD1.out hcs (by decide) e.symm))
          have RWZ : Hid (RowsR w1 w.heap.size (m + 1) (i + 1) (fun r => if r = i then gr else R r) T 23) := Lib.hid (fun r hr => by
            show w.heap.size < (if r = i then gr else R r) ∧ ∃ cs, w1.heap[(if r = i then gr else R r)]? = some (.cells cs 23 (0, 0)) ∧ _
            by_cases hri : r = i
            · rw [if_pos hri, hri]
              obtain ⟨e0, cs, e1, e2⟩ := hdone.out
              refine ⟨e0, cs, ?_, e2⟩
              have e3 := (hal.block gr hgr2).trans e1
              exact (HGR.out.block gr (by simp; omega) (fun e => own_ne OD1.out e1 (by decide) e.symm)).trans e3
            · rw [if_neg hri]
              exact RWN.out r (by omega))
          have BXN := Lib.hid ((BX1.out.below hal (by omega)).grown HGR.out (by simp; omega) (fun e => by have h2 := (hrl _ e).1; omega))
          have BWN := Lib.hid ((BW1.out.trans (hal.mono BW1.out.size)).grown HGR.out (by simp; omega) (fun q e => by have h2 := (hrl _ e).1; omega))
          have SZN : w.heap.size + 1 ≤ w1.heap.size := by have := HGR.out.size; simp at this; omega
          rw [rows_succ] at ORN
          go_wp2_with fail
          go_roundw
          case rel => exact ⟨i + 1, _, _, _, by go_num, by omega, rfl, ORN.out, RWZ.out, BXN.out, BWN.out, SZN⟩
          case measure => simp [intOf]; omega
    · obtain rfl : i = n + 1 := by omega
      have hin : ¬ ((n + 1 : Nat) : Int) ≤ (n : Int) := by omega
      obtain ⟨gd, capd, rfl, hgd, hgd2⟩ := OD.out.form (by omega)
      go_wp2_with fail
      go_ret
      exact ⟨gd, capd, R, C, rfl, BW.out, OD.out, RW.out⟩

end Go.Proofs.Ytkhdemaanakbeaa

/- The nearest of some names. Conditions: the names and the rows are not too many. -/
import Derived.Test.YtkhdemaanakbeaaCa
namespace Go.Pst
open Go Ieee Go.RowKit
set_option linter.unusedVariables false
set_option linter.unusedSimpArgs false

/-- Is this one nearer. -/
def nearC (x least : Nat) (at' : Int) : Bool := decide (at' < 0) || (!nan64 x && (nan64 least || decide (ordK x < ordK least)))
def near (D : Nat → Nat) : Nat → Int × Nat
  | 0 => (-1, 0)
  | k + 1 => if nearC (D k) (near D k).2 (near D k).1 then ((k : Int), D k) else near D k

theorem near_pos (D : Nat → Nat) : ∀ k, 0 < k → 0 ≤ (near D k).1 ∧ (near D k).1 < k
  | 0, h => by omega
  | k + 1, _ => by
    unfold near
    split
    · exact ⟨by simp, by simp; omega⟩
    · rename_i h
      rcases Nat.eq_zero_or_pos k with h0 | h0
      · subst h0
        exfalso; apply h
        unfold nearC near; rfl
      · have := near_pos D k h0; omega

theorem near_cn (D : Nat → Nat) (hD : ∀ i, cn (D i) = D i ∧ D i < 2 ^ 64) : ∀ k, cn (near D k).2 = (near D k).2 ∧ (near D k).2 < 2 ^ 64
  | 0 => by show cn 0 = 0 ∧ 0 < 2 ^ 64; exact ⟨by decide, by decide⟩
  | k + 1 => by
    unfold near
    split
    · exact hD k
    · exact near_cn D hD k

/-- Is one of the first too long. -/
def anyW (n : Nat) (M : Nat → Nat) (wide : Nat → Nat → Bool) : Nat → Bool
  | 0 => false
  | k + 1 => anyW n M wide k || wide n (M k)
end Go.Pst
namespace Go.Proofs.Ytkhdemaanakbeaa
open Go.RowKit Go.Pst
set_option maxRecDepth 100000
set_option linter.unusedSimpArgs false
set_option linter.unusedVariables false

/-- A list of names. -/
def NamesAt (w : World) (B : Nat) (A : Option Addr) (nn : Nat) (NA : Nat → Option Addr) (M C : Nat → Nat) (f : Nat → Nat → Int) : Prop :=
  0 < nn → ∃ b off, A = some ⟨b, off, none⟩ ∧ b < B ∧ (∀ i, i < nn → w.cell? ⟨b, off + i, none⟩ = some (.slice (NA i) (M i) (C i))) ∧ ∀ i, i < nn → NameAt w B (NA i) (M i) (f i)

theorem NamesAt.below {w w' : World} {B B' : Nat} {A : Option Addr} {nn : Nat} {NA : Nat → Option Addr} {M C : Nat → Nat} {f : Nat → Nat → Int} (h : NamesAt w B A nn NA M C f) (hb : Below B' w w') (hB : B ≤ B') : NamesAt w' B A nn NA M C f := fun hn => by
  obtain ⟨b, off, e, h1, h2, h3⟩ := h hn
  exact ⟨b, off, e, h1, fun i hi => by rw [hb.cell (p := ⟨b, off + i, none⟩) (show b < B' by omega)]; exact h2 i hi, fun i hi => (h3 i hi).below hb hB⟩
theorem NamesAt.more {w : World} {B B' : Nat} {A : Option Addr} {nn : Nat} {NA : Nat → Option Addr} {M C : Nat → Nat} {f : Nat → Nat → Int} (h : NamesAt w B A nn NA M C f) (hB : B ≤ B') : NamesAt w B' A nn NA M C f := fun hn => by
  obtain ⟨b, off, e, h1, h2, h3⟩ := h hn
  exact ⟨b, off, e, by omega, h2, fun i hi => (h3 i hi).more hB⟩

def nearE (p : Nat → Int × Int × Nat) (np n nn : Nat) (M : Nat → Nat) : Int := if (chkN p np).2 ≠ 0 then 270 else if anyW n M wideB nn then 271 else 0

def NearPost (v : Int × Nat) (e : Int) (w : World) (en : Ending) (w' : World) : Prop :=
  ∃ (u : Nat) (av : Int), en = .returned (.tuple #[.int .i64 av, .float .f64 u, .int .i64 e]) ∧ (e ≠ 0 → u = 0 ∧ av = 0) ∧ (e = 0 → cn u = v.2 ∧ av = v.1) ∧ Below w.heap.size w w'


set_option maxHeartbeats 8000000 in
theorem nearest_any (cI cO cX cT n c np cp nn cc : Nat) (A Ap An : Option Addr) (p : Nat → Int × Int × Nat) (fa : Nat → Int) (NA : Nat → Option Addr) (M C : Nat → Nat) (f : Nat → Nat → Int) (w : World)
    (hA : NameAt w w.heap.size A n fa) (hN : NamesAt w w.heap.size An nn NA M C f) (hn : n ≤ 1048576) (hM : ∀ i, i < nn → M i ≤ 1048576) (hnn : nn ≤ 1048576) (hnp : np ≤ 1048576) (hp : PairsAt w w.heap.size Ap np p) :
    Calls Try.prog 24 #[.agg #[.float .f64 cI, .float .f64 cO, .float .f64 cX, .float .f64 cT, .slice Ap np cp], .slice A n c, .slice An nn cc] w
      (NearPost (near (fun i => tabT cI cO cX cT p np fa (f i) n (M i)) nn) (nearE p np n nn M) w) := by
  have hchk := fun w hp => check_any cI cO cX cT Ap np cp p w hnp hp
  have hmay := fun m d B w hm hp => may_any cI cO cX cT n m c d np cp A B Ap p w hn hm hnp hp
  have htab := fun m d B fb w hm hA hB hp h1 h2 => table_any cI cO cX cT n m c d np cp A B Ap p fa fb (tabT cI cO cX cT p np fa fb) w hA hB hn hm h1 hp h2 (tabT_is ..)
  have hor := chk_or p np
  have hDc : ∀ i, cn (tabT cI cO cX cT p np fa (f i) n (M i)) = tabT cI cO cX cT p np fa (f i) n (M i) ∧ tabT cI cO cX cT p np fa (f i) n (M i) < 2 ^ 64 := fun i => tab_cn _ _ _ _ _ _ _
  obtain ⟨D, hD⟩ : ∃ D : Nat → Nat, D = fun i => tabT cI cO cX cT p np fa (f i) n (M i) := ⟨_, rfl⟩
  have hDi : ∀ i, tabT cI cO cX cT p np fa (f i) n (M i) = D i := fun i => by rw [hD]
  rw [← hD]
  have hDc' : ∀ i, cn (D i) = D i ∧ D i < 2 ^ 64 := fun i => by rw [← hDi]; exact hDc i
  have HCK := Lib.hid hchk; have HM := Lib.hid hmay; have HTB := Lib.hid htab; have HP := Lib.hid hp; have HA := Lib.hid hA; have HN := Lib.hid hN; have HML := Lib.hid hM; have HDI := Lib.hid hDi; have HDC := Lib.hid hDc'
  clear hchk hmay htab hp hA hN hM hDi hDc hDc' hD
  rcases hor with ⟨c1, c2, c3, c4⟩ | c1
  · have HRI := Lib.hid (rising_of c4)
    obtain ⟨e, he⟩ : ∃ e, e = nearE p np n nn M := ⟨_, rfl⟩
    rw [← he]
    have HE : Hid (e = if anyW n M wideB nn then 271 else 0) := Lib.hid (by rw [he]; unfold nearE; rw [c1]; rfl)
    clear he
    have hmv : ∀ m, errN p np n m = if wideB n m then 271 else 0 := fun m => by unfold errN; rw [c1]; rfl
    have hck : chkN p np = (0, 0) := by rw [← c1]; exact Prod.ext c2 (by simp)
    have HCK : Hid (∀ w, PairsAt w w.heap.size Ap np p → Calls Try.prog 20 #[.agg #[.float .f64 cI, .float .f64 cO, .float .f64 cX, .float .f64 cT, .slice Ap np cp]] w fun en w' => en = .returned (.tuple #[.int .i64 0, .int .i64 0]) ∧ Below w.heap.size w w') := Lib.hid fun w hp => by
      have := HCK.out w hp
      rw [hck] at this
      exact this
    have HMV := Lib.hid hmv
    clear c1 c2 c4 hmv hck
    go_enter Try.func24, Try.ntmps24
    go_wp2_with fail
    have O := (Reg.Own.nil w).alloc rfl #[.float .f64 cI, .float .f64 cO, .float .f64 cX, .float .f64 cT, .slice Ap np cp] 26
    obtain ⟨c0, f0, z0, y0, -, zz⟩ := O.rules
    have HO := Lib.hid O; clear O
    refine (HCK.out _ ((HP.out.below HO.out.below (Nat.le_refl _)).more HO.out.size)).mono ?_
    rintro en wn ⟨rfl, hbn⟩
    have O := HO.out.keep hbn
    clear HO c0 f0 z0 y0 zz
    obtain ⟨c0, f0, z0, y0, -, zz⟩ := O.rules
    have HO := Lib.hid O; clear O
    clear hbn
    go_wp2_with fail
    go_loopw [29] (fun t wr => ∃ k : Nat, t = .int .i64 k ∧ k ≤ nn ∧ anyW n M wideB k = false ∧ Reg.Own w wr [(w.heap.size, #[.float .f64 cI, .float .f64 cO, .float .f64 cX, .float .f64 cT, .slice Ap np cp], 26)]) (fun t _ => nn - (intOf t).toNat)
    case atStart => exact ⟨0, rfl, by omega, rfl, HO.out⟩
    case round =>
      clear HO c0 f0 z0 y0 zz
      obtain ⟨k, rfl, hk, hw0, hown⟩ := hrel
      have O := hown
      obtain ⟨c0, f0, z0, y0, -, zz⟩ := O.rules
      have HO := Lib.hid O; clear O
      clear hown
      have HW0 := Lib.hid hw0
      clear hw0
      by_cases hkn : k < nn
      · obtain ⟨b, off, rfl, hb, hc, hnm⟩ := (HN.out.below HO.out.below (Nat.le_refl _)) (by omega)
        have q := hc k hkn
        have hk1 : (k : Int) < (nn : Int) := by omega
        have hblt : b < wr.heap.size := by have := HO.out.size; omega
        have hmk := HML.out k hkn
        clear hc hnm
        go_wp2_with fail
        refine (HM.out (M k) (C k) (NA k) _ hmk ((HP.out.below HO.out.below (Nat.le_refl _)).more HO.out.size)).mono ?_
        rintro en wn ⟨rfl, hbn⟩
        have O := HO.out.keep hbn
        clear HO c0 f0 z0 y0 zz
        obtain ⟨c0, f0, z0, y0, -, zz⟩ := O.rules
        have HO := Lib.hid O; clear O
        clear hbn q
        have hmv := HMV.out (M k)
        cases hwb : wideB n (M k)
        · rw [hwb] at hmv
          have HWS : Hid (anyW n M wideB (k + 1) = false) := Lib.hid (by unfold anyW; rw [HW0.out, hwb]; rfl)
          have hmv' : errN p np n (M k) = 0 := hmv
          clear hmv hwb
          go_wp2_with fail
          go_roundw
          case rel => exact ⟨k + 1, by go_num, by omega, HWS.out, HO.out⟩
          case measure => simp [intOf]; omega
        · rw [hwb] at hmv
          have HWE : Hid (anyW n M wideB nn = true) := Lib.hid (by
            have : ∀ j, k < j → anyW n M wideB j = true := fun j => by
              induction j with
              | zero => intro h; omega
              | succ j ih =>
                intro h
                unfold anyW
                rcases Nat.lt_or_ge k j with h1 | h1
                · rw [ih h1]; rfl
                · obtain rfl : k = j := by omega
                  rw [hwb]; simp
            exact this nn hkn)
          have hmv' : errN p np n (M k) = 271 := hmv
          clear hmv hwb
          go_wp2_with fail
          refine bodyPost_ret (v := .tuple #[.int .i64 0, .float .f64 0, .int .i64 271]) (by simp [results, Try.results24, go_sem]) rfl ?_
          have he : e = 271 := by rw [HE.out, HWE.out]; rfl
          refine ⟨0, 0, ?_, fun _ => ⟨rfl, rfl⟩, fun h => ?_, HO.out.below⟩
          · rw [he]
          · rw [he] at h; simp at h
      · obtain rfl : nn = k := by omega
        have hk1 : ¬ (nn : Int) < (nn : Int) := by omega
        have he0 : e = 0 := by rw [HE.out, HW0.out]; rfl
        subst he0
        clear HE
        go_wp2_with fail
        go_loopw [14, 15, 43] (fun a l t wr => ∃ (k : Nat) (u : Nat), t = .int .i64 k ∧ k ≤ nn ∧ a = .int .i64 (near D k).1 ∧ l = .float .f64 u ∧ cn u = (near D k).2 ∧ Reg.Own w wr [(w.heap.size, #[.float .f64 cI, .float .f64 cO, .float .f64 cX, .float .f64 cT, .slice Ap np cp], 26)]) (fun _ _ t _ => nn - (intOf t).toNat)
        case atStart => exact ⟨0, 0, rfl, by omega, rfl, rfl, by show cn 0 = 0; decide, HO.out⟩
        case round =>
          clear HO c0 f0 z0 y0 zz
          obtain ⟨k, u, rfl, hk, rfl, rfl, hu, hown⟩ := hrel
          have O := hown
          obtain ⟨c0, f0, z0, y0, -, zz⟩ := O.rules
          have HO := Lib.hid O; clear O
          clear hown
          by_cases hkn : k < nn
          · obtain ⟨b, off, rfl, hb, hc, hnm⟩ := (HN.out.below HO.out.below (Nat.le_refl _)) (by omega)
            have q := hc k hkn
            have hk2 : (k : Int) < (nn : Int) := by omega
            have hblt : b < wr.heap.size := by have := HO.out.size; omega
            have hmk := HML.out k hkn
            have hdk := HDI.out k
            have HNK := Lib.hid (hnm k hkn)
            have HT2 := Lib.hid fun w hA hB hp => HTB.out (M k) (C k) (NA k) (f k) w hmk hA hB hp c3 HRI.out
            obtain ⟨dc1, dc2⟩ := HDC.out k
            obtain ⟨lc1, lc2⟩ := near_cn D HDC.out k
            have hnp0 := near_pos D k
            have hz0 : k = 0 → (near D k).1 = -1 := fun h => by rw [h]; rfl
            have hst : near D (k + 1) = if nearC (D k) (near D k).2 (near D k).1 then ((k : Int), D k) else near D k := rfl
            clear hc hnm
            generalize hx : D k = x at *
            generalize hv : near D k = v at *
            have HST := Lib.hid hst
            have HDK := Lib.hid hdk
            obtain ⟨va, vl⟩ := v
            simp only at hu lc1 lc2 hnp0 hz0 ⊢
            clear hst hx hv hdk
            have HU := Lib.hid hu; clear hu
            have HLC := Lib.hid lc1; have HDC1 := Lib.hid dc1; clear lc1 dc1
            go_wp2_with fail
            refine (HT2.out _ ((HA.out.below HO.out.below (Nat.le_refl _)).more HO.out.size) (HNK.out.more HO.out.size) ((HP.out.below HO.out.below (Nat.le_refl _)).more HO.out.size)).mono ?_
            rintro en wt ⟨Bk, R, rfl, hbt, g⟩
            have d1 := g.done n (by omega)
            obtain ⟨x1, d2, hx1⟩ := g.cell n (M k) (by omega) (by omega)
            have HX1 : Hid (cn x1 = x) := Lib.hid (hx1.trans HDK.out)
            have O := HO.out.keep hbt
            clear HO c0 f0 z0 y0 zz
            obtain ⟨c0, f0, z0, y0, -, zz⟩ := O.rules
            have HO := Lib.hid O; clear O
            have hn1 : (n : Int) < (n : Int) + 1 := by omega
            have hm1 : (M k : Int) < (M k : Int) + 1 := by omega
            clear hbt g hx1 q
            have e1 : fne .f64 x1 x1 = nan64 x := by rw [fne_self, ← HX1.out, cn_nan]
            have e2 : feq .f64 x1 x1 = !nan64 x := by rw [feq64, ← HX1.out, cn_nan]; cases nan64 x1 <;> simp
            have e3 : fne .f64 u u = nan64 vl := by rw [fne_self, ← HU.out, cn_nan]
            have e4 : feq .f64 u u = !nan64 vl := by rw [feq64, ← HU.out, cn_nan]; cases nan64 u <;> simp
            by_cases hk0 : k = 0
            · have hva := hz0 hk0
              have HNX : Hid (near D (k + 1) = ((k : Int), x)) := Lib.hid (by rw [HST.out, if_pos]; unfold nearC; rw [hva]; rfl)
              subst hva
              clear hnp0 hz0 e1 e2 e3 e4 hk0
              go_wp2_with fail
              go_roundw
              case rel => exact ⟨k + 1, x1, by go_num, by omega, by rw [HNX.out], rfl, by rw [HNX.out]; exact HX1.out, HO.out⟩
              case measure => simp [intOf]; omega
            · have hva := (hnp0 (by omega)).1
              have hv0 : decide (va < 0) = false := decide_eq_false (by omega)
              clear hnp0 hz0 hk0
              cases hnx : nan64 x
              · rw [hnx] at e1 e2
                cases hnl : nan64 vl
                · rw [hnl] at e3 e4
                  obtain rfl : x1 = x := cn_eq HX1.out hnx
                  obtain rfl : u = vl := cn_eq HU.out hnl
                  have HOR := Lib.hid fun w => order_any x1 u w dc2 lc2
                  by_cases ho : ordK x1 < ordK u
                  · have HNX : Hid (near D (k + 1) = ((k : Int), x1)) := Lib.hid (by rw [HST.out, if_pos]; unfold nearC; rw [hnx, hnl, decide_eq_true ho]; simp)
                    have hc1 : cmpI (ordK x1) (ordK u) < 0 := by unfold cmpI; rw [if_pos ho]; decide
                    generalize cmpI (ordK x1) (ordK u) = o at *
                    clear ho hnx hnl
                    go_wp2_with fail
                    refine (HOR.out _).mono ?_
                    rintro en wo ⟨rfl, rfl⟩
                    go_wp2_with fail
                    go_roundw
                    case rel => exact ⟨k + 1, x1, by go_num, by omega, by rw [HNX.out], rfl, by rw [HNX.out]; exact HX1.out, HO.out⟩
                    case measure => simp [intOf]; omega
                  · have HNX : Hid (near D (k + 1) = (va, u)) := Lib.hid (by rw [HST.out, if_neg]; unfold nearC; rw [hv0, hnx, hnl, decide_eq_false ho]; simp)
                    have hc1 : ¬ cmpI (ordK x1) (ordK u) < 0 := by unfold cmpI; rw [if_neg ho]; split <;> omega
                    generalize cmpI (ordK x1) (ordK u) = o at *
                    clear ho hnx hnl
                    go_wp2_with fail
                    refine (HOR.out _).mono ?_
                    rintro en wo ⟨rfl, rfl⟩
                    go_wp2_with fail
                    go_roundw
                    case rel => exact ⟨k + 1, u, by go_num, by omega, by rw [HNX.out], rfl, by rw [HNX.out]; exact HU.out, HO.out⟩
                    case measure => simp [intOf]; omega
                · rw [hnl] at e3 e4
                  have HNX : Hid (near D (k + 1) = ((k : Int), x)) := Lib.hid (by rw [HST.out, if_pos]; unfold nearC; rw [hnx, hnl]; simp)
                  clear hnx hnl
                  go_wp2_with fail
                  go_roundw
                  case rel => exact ⟨k + 1, x1, by go_num, by omega, by rw [HNX.out], rfl, by rw [HNX.out]; exact HX1.out, HO.out⟩
                  case measure => simp [intOf]; omega
              · rw [hnx] at e1 e2
                have HNX : Hid (near D (k + 1) = (va, vl)) := Lib.hid (by rw [HST.out, if_neg]; unfold nearC; rw [hv0, hnx]; simp)
                clear hnx
                generalize nan64 vl = nl at *
                cases nl <;>
                ·
                  go_wp2_with fail
                  go_roundw
                  case rel => exact ⟨k + 1, u, by go_num, by omega, by rw [HNX.out], rfl, by rw [HNX.out]; exact HU.out, HO.out⟩
                  case measure => simp [intOf]; omega
          · obtain rfl : nn = k := by omega
            have hk2 : ¬ (nn : Int) < (nn : Int) := by omega
            have HU := Lib.hid hu; clear hu
            go_wp2_with fail
            refine bodyPost_ret (v := .tuple #[.int .i64 (near D nn).1, .float .f64 u, .int .i64 0]) (by simp [results, Try.results24, go_sem]) rfl ?_
            exact ⟨u, (near D nn).1, rfl, fun h => absurd rfl h, fun _ => ⟨HU.out, rfl⟩, HO.out.below⟩
  · have hE : nearE p np n nn M = 270 := by unfold nearE; rw [c1]; rfl
    rw [hE]
    obtain ⟨r1, hck⟩ : ∃ r1 : Nat, chkN p np = (r1, 270) := ⟨(chkN p np).1, by rw [← c1]⟩
    have HCK : Hid (∀ w, PairsAt w w.heap.size Ap np p → Calls Try.prog 20 #[.agg #[.float .f64 cI, .float .f64 cO, .float .f64 cX, .float .f64 cT, .slice Ap np cp]] w fun en w' => en = .returned (.tuple #[.int .i64 r1, .int .i64 270]) ∧ Below w.heap.size w w') := Lib.hid fun w hp => by
      have := HCK.out w hp
      rw [hck] at this
      exact this
    clear hE hck c1 HTB HM
    go_enter Try.func24, Try.ntmps24
    go_wp2_with fail
    have O := (Reg.Own.nil w).alloc rfl #[.float .f64 cI, .float .f64 cO, .float .f64 cX, .float .f64 cT, .slice Ap np cp] 26
    obtain ⟨c0, f0, z0, y0, -, zz⟩ := O.rules
    have HO := Lib.hid O; clear O
    refine (HCK.out _ ((HP.out.below HO.out.below (Nat.le_refl _)).more HO.out.size)).mono ?_
    rintro en wn ⟨rfl, hbn⟩
    have O := HO.out.keep hbn
    clear HO c0 f0 z0 y0 zz
    obtain ⟨c0, f0, z0, y0, -, zz⟩ := O.rules
    have HO := Lib.hid O; clear O
    clear hbn
    go_wp2_with fail
    refine bodyPost_ret (v := .tuple #[.int .i64 0, .float .f64 0, .int .i64 270]) (by simp [results, Try.results24, go_sem]) rfl ?_
    exact ⟨0, 0, rfl, fun _ => ⟨rfl, rfl⟩, fun h => absurd h (by decide), HO.out.below⟩
end Go.Proofs.Ytkhdemaanakbeaa

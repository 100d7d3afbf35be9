/- How many pieces two names have in common: the program. Condition: names of at most 2^45 code points. · Plain facts: twice a whole float; the bytes of a piece tell its code points. Condition: code points of 32 bits. · A name opened: its cells, how long it may be, its code points in 32 bits. No condition. -/
import Derived.Test.YtkhdemaanakbeaaDq
import Derived.Test.YtkhdemaanakbeaaJc
import Derived.Test.YtkhdemaanakbeaaOq
import Derived.Test.YtkhdemaanakbeaaLe
namespace Go.Proofs.Ytkhdemaanakbeaa
open Go.RowKit Go.Pst
set_option maxRecDepth 20000
set_option linter.unusedSimpArgs false
set_option linter.unusedVariables false
attribute [local go_sem] run_fmul run_fquo
theorem keyS_inv {key : Value} {kl : Lit} (h : keyOf Try.prog 9 key = some kl) : ∃ s : ByteArray, key = .string s ∧ kl = .string s.data.toList := by
  unfold keyOf at h
  rw [Try.underlying9] at h
  unfold mapKey at h
  rw [Try.underlying9] at h
  cases key <;> simp only at h <;> first | (cases h; done) | skip
  rename_i s
  split at h
  · cases h; exact ⟨s, rfl, rfl⟩
  · cases h
theorem gL_le (kA : Nat → List UInt8) (cB : List UInt8 → Nat) (left : List UInt8 → Bool) : ∀ M, gL kA cB left M ≤ M
  | 0 => Nat.le_refl _
  | i + 1 => by have := gL_le kA cB left i; unfold gL; split <;> omega
set_option maxHeartbeats 3000000 in
theorem dice_core (A B : Option Addr) (n m c d size G : Nat) (kA kB : Nat → List UInt8) (w : World) (hn : n ≤ 35184372088832) (hm : m ≤ 35184372088832) (hs1 : 1 ≤ size) (hs2 : size ≤ 16)
    (hG : gL kA (cntK kB (m + 1 - size)) (fun _ => true) (n + 1 - size) = G) (h0 : (n + 1 - size) + (m + 1 - size) ≠ 0)
    (hA : Calls Try.prog 57 #[.slice A n c, .int .i64 size] w (PiePost kA (n + 1 - size) w))
    (hB : ∀ w', Below w.heap.size w w' → Calls Try.prog 57 #[.slice B m d, .int .i64 size] w' (PiePost kB (m + 1 - size) w')) :
    Calls Try.prog 37 #[.slice A n c, .slice B m d, .int .i64 size] w (SharePost (arV .quo (arV .mul TWO (fl G)) (fl ((n + 1 - size) + (m + 1 - size)))) 0 w) := by
  have HA := Lib.hid hA; have HB := Lib.hid hB; have HG := Lib.hid hG
  clear hA hB hG
  have s1 : ¬ (size : Int) < 1 := by omega
  have s2 : ¬ 16 < (size : Int) := by omega
  go_enter Try.func37, Try.ntmps37
  go_wp2_with fail
  refine HA.out.mono ?_
  rintro en w1 ⟨D1, rfl, hm1, hsy1, hb1⟩
  have M1 := Lib.hid hm1; have S1 := Lib.hid hsy1; have B1 := Lib.hid hb1
  have hl1 := hm1.lt
  have hz1 := hb1.size
  clear hm1 hsy1 hb1
  go_wp2_with fail
  refine (HB.out _ B1.out).mono ?_
  rintro en w2 ⟨D2, rfl, hm2, hsy2, hb2⟩
  have M2 := Lib.hid hm2; have S2 := Lib.hid hsy2; have B2 := Lib.hid (B1.out.trans (hb2.mono hz1))
  have M3 := Lib.hid (map_below M1.out hb2 hl1)
  have hl2 := hm2.lt
  have hz2 := hb2.size
  clear hm2 hsy2 hb2
  obtain ⟨T, hT⟩ : ∃ T, T = (n + 1 - size) + (m + 1 - size) := ⟨_, rfl⟩
  have HT := Lib.hid hT
  rw [← hT] at h0
  have e1 : ((T : Int) == 0) = false := by simp; omega
  have e2 : ¬ (T : Int) = 0 := by omega
  have hTl : T ≤ 70368744177666 := by omega
  clear hT
  go_upto_region 4 with fail
  go_cut [10] (fun s wx => s = .int .i64 (T : Int) ∧ wx = w2)
  case first =>
    have hT := HT.out
    go_wp2_with fail
    all_goals
      go_meet
      case rel => exact ⟨congrArg (Value.int .i64) (by omega), rfl⟩
  case rest =>
    obtain ⟨rfl, hwc⟩ := hcut
    obtain rfl := hwc.symm
    go_wp2_with (first
      | (at_range; refine wpList_range_own _ rfl _ 107 rfl 9 3 lawS Try.underlying107 _ w.heap.size (n + 1 - size) D1 rfl M3.out ?_; intro w3 hrg3 hg3 hs3)
      | fail)
    have R3 := Lib.hid hrg3
    have M4 := Lib.hid (M2.out.kept hg3 (by simp))
    have B3 := Lib.hid (B2.out.grown hg3 (by omega) (fun q e => by cases e))
    have GL0 : Hid (0 + gL kA (cntK kB (m + 1 - size)) (fun s => Maps.has D1 (.string s)) (n + 1 - size) = G) := Lib.hid (by
      rw [Nat.zero_add, ← HG.out]
      exact gL_congr _ fun i hi => by rw [S1.out.hasK, decide_eq_true (cntK_pos hi rfl)])
    clear hrg3 hg3
    go_loopw [11] (fun s wr => ∃ (left : Lit → Bool) (cnt g : Nat), s = .int .i64 (g : Int) ∧ wr.ranges Try.prog 9 (plainElem Try.prog 3) w.heap.size w2.heap.size (n + 1 - size) D1 left cnt ∧
        wr.ownsMap Try.prog 9 (plainElem Try.prog 3) w1.heap.size (m + 1 - size) D2 ∧ g + gL kA (cntK kB (m + 1 - size)) (fun s => left (.string s)) (n + 1 - size) = G ∧ Below w.heap.size w wr) (fun _ wr => wr.rangeLeft w.heap.size w2.heap.size)
    case atStart => exact ⟨_, _, 0, rfl, R3.out, M4.out, GL0.out, B3.out⟩
    case round =>
      obtain ⟨left, cnt, g, rfl, hrg, hmp, hgl, hbr⟩ := hrel
      have BR := Lib.hid hbr; have MP := Lib.hid hmp; have RG := Lib.hid hrg; have GL := Lib.hid hgl
      have hszr := hbr.size
      clear hrg hmp hgl hbr
      go_wp2_with (first
        | (at_next; refine wpList_next_ranges _ rfl _ rfl 9 lawS (plainElem Try.prog 3) Value.string (Value.int .i64) (fun key kl h => by obtain ⟨s, h1, _⟩ := keyS_inv h; exact ⟨s, h1⟩) (fun v y h => by obtain ⟨a, h1, _⟩ := plainElem_int_inv Try.underlying3 h; exact ⟨a, h1⟩) w.heap.size w2.heap.size (n + 1 - size) D1 left cnt rfl RG.out ?_ ?_)
        | fail)
      · intro hc0 hl0
        have hg : g = G := by
          have := GL.out
          rw [gL_none (fun v => hl0 (.string v))] at this
          omega
        subst hg
        have f1 := floatInt_fl g
        have f2 : floatOfInt .f64 (T : Int) = fl (n + 1 - size + (m + 1 - size)) := by rw [HT.out]; exact floatInt_fl _
        generalize fl g = K at *
        generalize fl (n + 1 - size + (m + 1 - size)) = N2 at *
        go_wp2_with fail
        go_ret2
        refine ⟨_, rfl, fun h => absurd rfl h, fun _ => ?_, ?_⟩
        · rw [cn_arU]
          exact arV_cn .quo (by rw [cn_arU, cn_arV]; rfl) rfl
        · repeat refine wIf_below _ _ ?_
          exact BR.out
      · intro x cx kl y1 y2 w5 cnt5 hkey hlk hR hat hrg5 hlt5 hg5 hs5 hen
        obtain ⟨s', e9, hkl⟩ := keyS_inv hkey
        injection e9 with e9
        subst e9 hkl
        obtain ⟨a', e8, e7, _⟩ := plainElem_int_inv Try.underlying3 hR
        injection e8 with _ e8
        subst e8
        injection e7 with e7 _
        have hcx := same_int (S1.out.atK x.data.toList) ((hat _).trans e7)
        generalize hs : x.data.toList = s at *
        obtain rfl := hcx
        have GL2 : Hid (g + min (cntK kA (n + 1 - size) s) (cntK kB (m + 1 - size) s) + gL kA (cntK kB (m + 1 - size)) (fun u => left (.string u) && !(Lit.string u).sameKey (.string s)) (n + 1 - size) = G) := Lib.hid (by
          have h8 := gL_step (kA := kA) (cB := cntK kB (m + 1 - size)) (left := fun u => left (.string u)) (left' := fun u => left (.string u) && !(Lit.string u).sameKey (.string s)) (v := s) hlk (by
              show (left (.string s) && !(Lit.string s).sameKey (.string s)) = false
              rw [WideAt.sameKey_self (show WideAt.IsKeyLit (.string s) from trivial)]; simp) (fun u hu => by
              show (left (.string u) && !(Lit.string u).sameKey (.string s)) = left (.string u)
              rw [Maps.sameKey_ne (by intro z; injection z with z; exact hu z)]; simp) (n + 1 - size)
          have h9 := GL.out
          omega)
        have SB := Lib.hid (S2.out.atK s)
        have hc1 := cntK_le kA s (n + 1 - size)
        have hc2 := cntK_le kB s (m + 1 - size)
        have hgG : g ≤ n + 1 - size := by
          have h8 := gL_le kA (cntK kB (m + 1 - size)) (fun _ => true) (n + 1 - size)
          have h9 := GL.out
          have h7 := HG.out
          omega
        generalize cntK kA (n + 1 - size) s = c1 at *
        generalize cntK kB (m + 1 - size) s = c2 at *
        have MP5 := Lib.hid (MP.out.kept hg5 (by simp; omega))
        have RG5 := Lib.hid hrg5
        have BR5 := Lib.hid (BR.out.grown hg5 hszr (fun q e => by cases e; omega))
        have KX := Lib.hid hkey
        clear hrg5 hg5 hkey hat hR e7 GL
        rcases Nat.lt_or_ge c1 c2 with hcc | hcc
        · have hmn : min c1 c2 = c1 := by omega
          rw [hmn] at GL2
          go_wp2_with (first
            | (at_lookup; refine wpList_lookup_own_int _ rfl _ _ 107 rfl 9 3 .i64 lawS Try.underlying107 Try.underlying3 (zeroI _) w1.heap.size (m + 1 - size) D2 rfl MP5.out _ _ rfl KX.out ?_; intro cy hay hwy; obtain rfl := same_int SB.out hay; clear hay hwy)
            | fail)
          go_roundw
          case rel => exact ⟨_, cnt5, g + c1, by go_num, RG5.out, MP5.out, GL2.out, BR5.out⟩
          case measure => rw [RG5.out.left_eq, RG.out.left_eq]; exact hlt5
        · have hmn : min c1 c2 = c2 := by omega
          rw [hmn] at GL2
          go_wp2_with (first
            | (at_lookup; refine wpList_lookup_own_int _ rfl _ _ 107 rfl 9 3 .i64 lawS Try.underlying107 Try.underlying3 (zeroI _) w1.heap.size (m + 1 - size) D2 rfl MP5.out _ _ rfl KX.out ?_; intro cy hay hwy; obtain rfl := same_int SB.out hay; clear hay hwy)
            | fail)
          go_roundw
          case rel => exact ⟨_, cnt5, g + c2, by go_num, RG5.out, MP5.out, GL2.out, BR5.out⟩
          case measure => rw [RG5.out.left_eq, RG.out.left_eq]; exact hlt5
end Go.Proofs.Ytkhdemaanakbeaa

namespace Go.Pst
open Go Ieee Go.RowKit
set_option linter.unusedVariables false
theorem arD_mul {x y : Nat} (hx : finB x) (hy : finB y) : arD .mul x y = some (wrd (negB x ^^ negB y) (rndN 52 11 (mantB x * mantB y) (-1074 + (placeB x : Nat) + (-1074 + (placeB y : Nat))))) := by
  show Ieee.double.mul x y = _
  unfold Format.mul
  rw [read_fin hx, read_fin hy]
  simp only [Datum.product, Option.map_some, write64]
theorem arV_got {op : BinOp} {x y r : Nat} (h : arD op x y = some r) : arV op x y = r := by unfold arV; rw [h]; rfl
theorem wrd_plain (r : Nat) : wrd (false ^^ false) r = r := rfl
theorem two_gen (M p K : Nat) (hK : K = 52) : rndN 52 11 (2 ^ K * M) (-1074 + ((1023 : Nat) : Int) + (-1074 + (p : Int))) = rz (2 * (M * 2 ^ p)) := by
  have e1 : (-1074 + ((1023 : Nat) : Int) + (-1074 + (p : Int))) = (-1074 + ((p + 1 : Nat) : Int)) - ((K : Nat) : Int) := by omega
  rw [e1, Nat.mul_comm, rnd_shift, rnd_rz]
  have e2 : M * 2 ^ (p + 1) = 2 * (M * 2 ^ p) := by rw [Nat.pow_succ, ← Nat.mul_assoc, Nat.mul_comm]
  rw [e2]
theorem two_any {x y N : Nat} (hx : finB x) (hy : finB y) (nx : negB x = false) (ny : negB y = false) (mx : mantB x = 2 ^ 52) (px : placeB x = 1023) (v : mantB y * 2 ^ placeB y = N) : arV .mul x y = rz (2 * N) := by
  rw [arV_got (arD_mul hx hy), nx, ny, mx, px, two_gen _ _ _ rfl, v, wrd_plain]
theorem two_fl {g : Nat} (hg : g < 2 ^ 52) : arV .mul TWO (fl g) = fl (2 * g) := by
  obtain ⟨f1, n1, v1⟩ := fl_fin (show g < 2 ^ 53 by omega)
  rw [valZ_eq, n1] at v1
  have v2 : mantB (fl g) * 2 ^ placeB (fl g) = g * 2 ^ K74 := by
    have : ((mantB (fl g) * 2 ^ placeB (fl g) : Nat) : Int) = ((g * 2 ^ K74 : Nat) : Int) := v1
    exact Int.ofNat.inj this
  rw [fl_rz (2 * g), Nat.mul_assoc]
  exact two_any ⟨by decide, by decide, by decide⟩ f1 (by decide) n1 (by decide) (by decide) v2
theorem by4_inj {x y : Int} (hx : -2147483648 ≤ x ∧ x < 2147483648) (hy : -2147483648 ≤ y ∧ y < 2147483648) (h : (by4 x).map (fun n => UInt8.ofNat n.toNat) = (by4 y).map (fun n => UInt8.ofNat n.toNat)) : x = y := by
  have hb : ∀ a b : Int, 0 ≤ a → a < 256 → 0 ≤ b → b < 256 → UInt8.ofNat a.toNat = UInt8.ofNat b.toNat → a = b := fun a b h1 h2 h3 h4 h5 => by
    have h6 := congrArg UInt8.toNat h5
    simp only [UInt8.toNat_ofNat'] at h6
    rw [Nat.mod_eq_of_lt (show a.toNat < 2 ^ 8 by omega), Nat.mod_eq_of_lt (show b.toNat < 2 ^ 8 by omega)] at h6
    omega
  unfold by4 at h
  simp only [List.map_cons, List.map_nil, List.cons.injEq, and_true] at h
  obtain ⟨h1, h2, h3, h4⟩ := h
  have g1 := hb _ _ (Int.emod_nonneg _ (by decide)) (Int.emod_lt_of_pos _ (by decide)) (Int.emod_nonneg _ (by decide)) (Int.emod_lt_of_pos _ (by decide)) h1
  have g2 := hb _ _ (Int.emod_nonneg _ (by decide)) (Int.emod_lt_of_pos _ (by decide)) (Int.emod_nonneg _ (by decide)) (Int.emod_lt_of_pos _ (by decide)) h2
  have g3 := hb _ _ (Int.emod_nonneg _ (by decide)) (Int.emod_lt_of_pos _ (by decide)) (Int.emod_nonneg _ (by decide)) (Int.emod_lt_of_pos _ (by decide)) h3
  have g4 := hb _ _ (Int.emod_nonneg _ (by decide)) (Int.emod_lt_of_pos _ (by decide)) (Int.emod_nonneg _ (by decide)) (Int.emod_lt_of_pos _ (by decide)) h4
  omega
def Runes32 (n : Nat) (f : Nat → Int) : Prop := ∀ i, i < n → -2147483648 ≤ f i ∧ f i < 2147483648
theorem pcB_inj {f g : Nat → Int} {i j n m : Nat} (hf : Runes32 n f) (hg : Runes32 m g) : ∀ k, i + k ≤ n → j + k ≤ m → ((pcB f i k).map (fun n => UInt8.ofNat n.toNat) = (pcB g j k).map (fun n => UInt8.ofNat n.toNat) ↔ ∀ q, q < k → f (i + q) = g (j + q))
  | 0, _, _ => ⟨fun _ q hq => by omega, fun _ => rfl⟩
  | k + 1, h1, h2 => by
    have ih := pcB_inj (i := i) (j := j) hf hg k (by omega) (by omega)
    unfold pcB
    rw [List.map_append, List.map_append]
    constructor
    · intro h q hq
      obtain ⟨a, b⟩ := List.append_inj h (by rw [List.length_map, List.length_map, pcB_len, pcB_len])
      by_cases e : q = k
      · subst e; exact by4_inj (hf _ (by omega)) (hg _ (by omega)) b
      · exact ih.1 a q (by omega)
    · intro h
      rw [ih.2 fun q hq => h q (by omega), h k (by omega)]
end Go.Pst
namespace Go.Proofs.Ytkhdemaanakbeaa
open Go.RowKit Go.Pst
set_option linter.unusedVariables false
theorem pcK_iff {f g : Nat → Int} {i j n m size : Nat} (hf : Runes32 n f) (hg : Runes32 m g) (h1 : i + size ≤ n) (h2 : j + size ≤ m) : pcK f size i = pcK g size j ↔ ∀ q, q < size → f (i + q) = g (j + q) := by
  unfold pcK
  rw [strOfNums_data, strOfNums_data]
  exact pcB_inj hf hg size h1 h2
/-- How many pieces two names have in common. -/
def diG (n m size : Nat) (fa fb : Nat → Int) : Nat := dC (pcK fa size) (pcK fb size) (m + 1 - size) (n + 1 - size)
def diBad (size : Int) : Bool := decide (size < 1) || decide (16 < size)
def diV (n m size : Nat) (fa fb : Nat → Int) : Nat :=
  if (n + 1 - size) + (m + 1 - size) = 0 then ONE else arV .quo (fl (2 * diG n m size fa fb)) (fl ((n + 1 - size) + (m + 1 - size)))
theorem diG_le (n m size : Nat) (fa fb : Nat → Int) : diG n m size fa fb ≤ n + 1 - size := dC_le _
end Go.Proofs.Ytkhdemaanakbeaa

namespace Go.Proofs.Ytkhdemaanakbeaa
open Go Go.Pst Go.RowKit Go.ChangeShapes Go.WideShapes Go.ChangeAt Go.Joins Go.Deep
set_option linter.unusedSimpArgs false
set_option linter.unusedVariables false
section
variable {H : Type} {enc : TypeId × Value → H} {P : Program} {w : World} {spare : Nat → Bool} {held : Bool}
theorem open_runes {r : Reach} {b0 : Nat} {t e : TypeId} {v : Value} {d : DataW H} {p : List MemPlace} (ht : P.underlying t = some (.slice e)) (he : P.underlying e = some (.int .i32)) (hc : P.cellsOf e = 1)
    (hv : Value.okWide P w r b0 t v) (h : DataW.Trod enc P w 0 spare held t v d p) :
    ∃ (A : Option Addr) (n c : Nat) (f : Nat → Int), v = .slice A n c ∧ SliceD d n ∧ NameAt w w.heap.size A n f ∧ Runes32 n f := by
  obtain ⟨A, n, c, V, h1, h2, h3, h4⟩ := open_cells ht hc hv h
  have hz : ∀ i, ∃ z : Int, i < n → V i = .int .i32 z ∧ (-2147483648 ≤ z ∧ z < 2147483648) := fun i => by
    by_cases hi : i < n
    · obtain ⟨fu, D, hD⟩ := h4 i hi
      obtain ⟨m, e1, _, e2⟩ := DataW.trod_int he hD
      simp only [List.cons.injEq, and_true] at e1
      have h5 := wf_i32 e2
      exact ⟨m, fun _ => ⟨e1, by omega⟩⟩
    · exact ⟨0, fun h => absurd h hi⟩
  obtain ⟨f, hf⟩ := Classical.axiomOfChoice hz
  exact ⟨A, n, c, f, h1, h2, h3.congr fun i hi => (hf i hi).1, fun i hi => (hf i hi).2⟩
end
end Go.Proofs.Ytkhdemaanakbeaa

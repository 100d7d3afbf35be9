/- total: a row of floats made by append of whole lists. No condition. · total: sums in 32 bits: plain and walks; the document's. Condition: at most 65536 numbers. · total: the sum by halves: walks; the document's. Condition: at most 65536 numbers of 64 bits, no longer than the room they have. · total: the sums of all beginnings; lists of the same bits: walks. Condition: at most 65536 numbers. · total: a list copied by append. No condition. -/
import Derived.Test.YtjakjnmfndfehaaDd
import Derived.Test.YtjakjnmfndfehaaRq
import Derived.Test.YtjakjnmfndfehaaOp
namespace Go.Proofs.Ytjakjnmfndfehaa
open Go.RowKit Go.Pst
set_option maxRecDepth 20000
set_option linter.unusedSimpArgs false
set_option linter.unusedVariables false

/-- Two rows, one behind the other. -/
def joinR (y : Nat → Nat) (n : Nat) (h : Nat → Nat) : Nat → Nat := fun i => if i < n then y i else h (i - n)

theorem nums_join (y h : Nat → Nat) (n m : Nat) : nums y n ++ nums h m = nums (joinR y n h) (n + m) := by
  rw [← nums_add (joinR y n h) n m]
  unfold nums joinR
  congr 1
  · apply List.map_congr_left
    intro k hk
    rw [if_pos (List.mem_range.1 hk)]
  · apply List.map_congr_left
    intro k hk
    show _ = Value.float .f64 (if n + k < n then y (n + k) else h (n + k - n))
    rw [if_neg (by omega), Nat.add_sub_cancel_left]

theorem FlAt.congr {w : World} {B : Nat} {A : Option Addr} {n : Nat} {f g : Nat → Nat} (h : FlAt w B A n f) (hv : ∀ i, i < n → f i = g i) : FlAt w B A n g := fun hn => by
  obtain ⟨b, off, e, h1, h2⟩ := h hn
  exact ⟨b, off, e, h1, fun i hi => by rw [h2 i hi, hv i hi]⟩

theorem flat_new (w : World) (t : TypeId) (b : Nat) : FlAt (w.alloc (.cells #[.float .f64 b] t)) (w.heap.size + 1) (some ⟨w.heap.size, 0, none⟩) 1 (fun _ => b) := fun _ =>
  ⟨w.heap.size, 0, rfl, by omega, fun i hi => by
    obtain rfl : i = 0 := by omega
    exact (Reg.Blk.new w #[.float .f64 b] t).cell 0⟩

theorem flat_two (w : World) (t : TypeId) (b d : Nat) : FlAt (w.alloc (.cells #[.float .f64 b, .float .f64 d] t)) (w.heap.size + 1) (some ⟨w.heap.size, 0, none⟩) 2 (fun i => if i = 0 then b else d) := fun _ =>
  ⟨w.heap.size, 0, rfl, by omega, fun i hi => by
    have := (Reg.Blk.new w #[.float .f64 b, .float .f64 d] t).cell i
    rw [Nat.zero_add, this]
    have : i = 0 ∨ i = 1 := by omega
    rcases this with rfl | rfl <;> rfl⟩

theorem nums_len (y : Nat → Nat) (n : Nat) : (nums y n).length = n := by unfold nums; simp
theorem nums_one (y : Nat → Nat) (n : Nat) : ∀ u ∈ nums y n, u.oneCell' = true := by
  intro u hu
  unfold nums at hu
  obtain ⟨k, _, rfl⟩ := List.mem_map.1 hu
  rfl

theorem run_append_floats (w : World) (base : Nat) (v : Value) (n : Nat) (y : Nat → Nat) (hown : w.ownsRow base 24 1 v n (nums y n)) (A : Option Addr) (m c B : Nat) (h : Nat → Nat) (hA : FlAt w B A m h)
    (hsz : n + m ≤ 17592186044416) (hbase : base ≤ w.heap.size) :
    ∃ v' w', (Builtin.append_ #[22, 22] 22 #[v, .slice A m c]).run Try.prog w = .ok v' w' ∧ w'.ownsRow base 24 1 v' (n + m) (nums (joinR y n h) (n + m)) ∧ w.grownBy w' v.ownBlock := by
  obtain ⟨j0, hj0, hy0, hy1, hy2⟩ := info_parts infoNum
  rcases A with _ | ⟨b, off, sp⟩
  · have hm : m = 0 := by
      rcases Nat.eq_zero_or_pos m with e | e
      · exact e
      · obtain ⟨_, _, e, _⟩ := hA e; cases e
    subst hm
    rcases hown.2 with ⟨rfl, rfl⟩ | ⟨g, cap, cur, rfl, hb, hg, hnc, hcm, hcs, htake⟩
    · refine ⟨.slice none 0 0, w, ?_, World.ownsRow_nil w base _ 1, ⟨rfl, rfl, rfl, Nat.le_refl _, fun _ _ _ => rfl⟩⟩
      simp [Builtin.append_, run_underlying (P := Try.prog) Try.underlying22, run_underlying (P := Try.prog) Try.underlying24, sizeOf, typeInfo, hj0, hy1, Builtin.lenOf, Builtin.firstCells, loadCells, loadCellsFrom]
    · refine ⟨.slice (some ⟨g, 0, none⟩) n cap, w, ?_, ?_, ⟨rfl, rfl, rfl, Nat.le_refl _, fun _ _ _ => rfl⟩⟩
      · simp [Builtin.append_, run_underlying (P := Try.prog) Try.underlying22, run_underlying (P := Try.prog) Try.underlying24, sizeOf, typeInfo, hj0, hy1, Builtin.lenOf, Builtin.firstCells, loadCells, loadCellsFrom, hnc, storeCells]
      · have e : nums (joinR y n h) (n + 0) = nums y n := by rw [← nums_join]; simp [nums]
        rw [e]; exact hown
  · have hcl : ∀ j u, (nums h m)[j]? = some u → w.cell? ((⟨b, off, sp⟩ : Addr).add j) = some u := fun j u hu => by
      have hj : j < m := by
        have := (List.getElem?_eq_some_iff.1 hu).1
        rwa [nums_len] at this
      obtain ⟨b', off', e, _, hc⟩ := hA (by omega)
      cases e
      rw [nums_get h hj] at hu
      have ha : ((⟨b, off, none⟩ : Addr).add j) = ⟨b, off + j, none⟩ := by unfold Addr.add; split <;> simp_all
      rw [ha, hc j hj]; exact hu
    obtain ⟨v', w', h1, h2, h3, _⟩ := run_append_own_at (P := Try.prog) w base 22 22 24 j0 _ 1 8 Try.underlying22 hj0 hy0 hy1 hy2 rfl (by omega) v n _ hown ⟨b, off, sp⟩ m c (nums h m) (by rw [nums_len]; omega) hcl (nums_one h m) (by unfold maxLen; omega) (by omega) hbase
    exact ⟨v', w', h1, by rw [← nums_join]; exact h2, h3⟩

theorem wpList_floats {ops : Array Oper} {rest : List Oper} {o : Oper} {a : Act} {Q : Exit → Act → World → Prop} (w0 w : World) (hgd : o.guard = none) (s x : Operand)
    (ho : o.op = .call { callee := .builtin .append, args := #[s, x], argTypes := #[22, 22] }) (hty : o.type = 22)
    (hbw : Below w0.heap.size w0 w) (v : Value) (n : Nat) (y : Nat → Nat) (hs : a.eval s = v) (hown : w.ownsRow w0.heap.size 24 1 v n (nums y n))
    (A : Option Addr) (m c B : Nat) (h : Nat → Nat) (hx : a.eval x = .slice A m c) (hA : FlAt w B A m h) (hsz : n + m ≤ 17592186044416)
    (hk : ∀ v' w', w'.ownsRow w0.heap.size 24 1 v' (n + m) (nums (joinR y n h) (n + m)) → Below w0.heap.size w0 w' → wpList Try.prog ops Q rest (a.put o.dst v') w') :
    wpList Try.prog ops Q (o :: rest) a w := by
  refine wpList_plain hgd fun K hK => ?_
  obtain ⟨v', w', hr, h2, h3⟩ := run_append_floats w w0.heap.size v n y hown A m c B h hA hsz hbw.size
  rw [← hty] at hr
  unfold Oper.wp execOp
  simp only [ho, resolve, invoke, builtin, Sem.run_bind, Sem.run_pure, Result.andThen_ok, List.map_toArray, List.map_cons, List.map_nil, hs, hx]
  rw [hty] at hr
  simp only [hty, hr, Result.andThen_ok]
  exact hK _ _ (hk v' w' h2 (hbw.grown h3 hbw.size (fun q e => (hown.lt q e).1)))

end Go.Proofs.Ytjakjnmfndfehaa

namespace Go.Pst
open Go Ieee Go.Proofs.Ytjakjnmfndfehaa
set_option linter.unusedVariables false
theorem isNaN32 (x : Nat) : (FloatKind.f32.format.read x).isNaN = nan32 x := by
  show (Ieee.single.read x).isNaN = _
  have hb : Ieee.single.binade = 8388608 := by decide
  have hi : Ieee.single.infRung = 2139095040 := by decide
  have hs : Ieee.single.signWeight = 2147483648 := by decide
  unfold Format.read nan32
  simp only [hb, hi, hs]
  by_cases h1 : x % 2147483648 < 8388608
  · rw [if_pos h1, decide_eq_false (by omega)]; rfl
  · rw [if_neg h1]
    by_cases h2 : x % 2147483648 < 2139095040
    · rw [if_pos h2, decide_eq_false (by omega)]; rfl
    · rw [if_neg h2]
      by_cases h3 : x % 2147483648 = 2139095040
      · rw [if_pos h3, decide_eq_false (by omega)]; rfl
      · rw [if_neg h3, decide_eq_true (by omega)]; rfl
def ar32 (x y : Nat) : Option Nat := floatBits .add .f32 x y
theorem ar32_nan {x y : Nat} (h : nan32 x = true) : ar32 x y = none := by
  unfold ar32 floatBits
  show Ieee.single.add x y = none
  unfold Format.add
  rw [sum_nan_left (by rw [← h]; exact isNaN32 x)]; rfl
def arU32 (w : World) (x y : Nat) : Nat := match ar32 x y with | some r => r | none => (Question.nanBits .f32 x y).cut (w.tape w.drawn (.nanBits .f32 x y))
theorem cut_nan32 (q : Nat) (x y : Nat) : nan32 ((Question.nanBits .f32 x y).cut q) = true := by
  unfold Question.cut nan32
  simp only
  rw [decide_eq_true_eq]
  have h1 : q % 2 = 0 ∨ q % 2 = 1 := by omega
  have h2 : q / 2 % (2 ^ 23 - 1) < 2 ^ 23 - 1 := Nat.mod_lt _ (by decide)
  generalize q / 2 % (2 ^ 23 - 1) = z at *
  omega
theorem run_fadd32 (P : Program) (t : TypeId) (x y : Nat) (w : World) : Sem.run P (binOp .add t (.float .f32 x) (.float .f32 y)) w = .ok (.float .f32 (arU32 w x y)) (wIf (ar32 x y).isNone w) := by
  unfold arU32
  cases hd : ar32 x y with
  | some r => simpa [wIf] using run_float_arith w .add t .f32 x y r hd
  | none =>
    unfold ar32 floatBits at hd
    simp only at hd
    simp [binOp, Op.floatArith, hd, Question.forced, wIf]
/-- The sum in 32 bits; none: it is no number. -/
def ss (f : Nat → Nat) : Nat → Option Nat
  | 0 => some 0
  | k + 1 => (ss f k).bind fun r => ar32 r (f k)
def Is32 (S : Nat) : Option Nat → Prop
  | some r => S = r
  | none => nan32 S = true
theorem is32_next {f : Nat → Nat} {k S : Nat} (w : World) (h : Is32 S (ss f k)) : Is32 (arU32 w S (f k)) (ss f (k + 1)) := by
  show Is32 _ ((ss f k).bind fun r => ar32 r (f k))
  cases hs : ss f k with
  | none =>
    rw [hs] at h
    unfold arU32
    rw [ar32_nan h]
    exact cut_nan32 _ _ _
  | some r =>
    rw [hs] at h
    have h' : S = r := h
    subst h'
    show Is32 _ (ar32 S (f k))
    unfold arU32
    cases hr : ar32 S (f k) with
    | none => exact cut_nan32 _ _ _
    | some q => rfl
def ssW : Option Nat → Nat
  | some r => widV r
  | none => NC
theorem widD_nan {c : Nat} (h : nan32 c = true) : widD c = none := by
  have h' : (FloatKind.f32.decode c).isNaN = true := by rw [← h]; exact isNaN32 c
  unfold widD floatToFloatBits
  rw [if_neg (by decide)]
  cases hd : FloatKind.f32.decode c with
  | nan s t => rfl
  | infinity s => rw [hd] at h'; cases h'
  | number s m p => rw [hd] at h'; cases h'
theorem is32_wid {S : Nat} {o : Option Nat} (w : World) (h : Is32 S o) : cn (widU w S) = ssW o := by
  cases o with
  | some r =>
    have h' : S = r := h
    subst h'; exact cn_widU w S
  | none =>
    unfold widU
    rw [widD_nan h]
    exact cn_of_nan _ (cut_conv _ _)
end Go.Pst
namespace Go.Proofs.Ytjakjnmfndfehaa
open Go.RowKit Go.Pst
set_option maxRecDepth 20000
set_option linter.unusedSimpArgs false
set_option linter.unusedVariables false
attribute [local go_sem] run_fadd32
theorem long_f32 (n c : Nat) (A : Option Addr) (w : World) (hn : n ≤ 1099511627776) : Calls Try.prog 88 #[.slice A n c] w fun en w' => en = .returned (.bool (decide (65536 < n))) ∧ w = w' := by
  rw [show decide (65536 < n) = decide ((65536 : Int) < (n : Int)) by rw [decide_eq_decide]; omega]
  go_enter Try.func88, Try.ntmps88
  go_wp2
  go_ret
  exact ⟨rfl, rfl⟩
set_option maxHeartbeats 1000000 in
theorem sum32_any (n c : Nat) (A : Option Addr) (f : Nat → Nat) (w : World) (hA : ListAt w w.heap.size A n (fun i => .float .f32 (f i))) (hn : n ≤ 65536) :
    Calls Try.prog 42 #[.slice A n c] w fun en w' => ∃ u, en = .returned (.tuple #[.float .f32 u, .int .i64 0]) ∧ Is32 u (ss f n) ∧ Below w.heap.size w w' := by
  have HLG := Lib.hid fun w => long_f32 n c A w (by omega)
  rw [decide_eq_false (by omega : ¬ 65536 < n)] at HLG
  have HA := Lib.hid hA
  clear hA
  go_enter Try.func42, Try.ntmps42
  go_wp2_with fail
  refine (HLG.out _).mono ?_
  rintro en w' ⟨rfl, rfl⟩
  go_wp2_with fail
  go_loopw [4, 11] (fun s t wr => ∃ k S : Nat, t = .int .i64 k ∧ k ≤ n ∧ Below w.heap.size w wr ∧ s = .float .f32 S ∧ Is32 S (ss f k)) (fun _ t _ => n - (intOf t).toNat)
  case atStart => exact ⟨0, 0, rfl, by omega, Below.refl _ _, rfl, rfl⟩
  case round =>
    obtain ⟨k, S, rfl, hk, hbw, rfl, hS⟩ := hrel
    have BW := Lib.hid hbw
    have HS := Lib.hid fun w => is32_next (k := k) w hS
    have H0 := Lib.hid hS
    clear hbw hS
    by_cases hkn : k < n
    · have h3 : (k : Int) < (n : Int) := by omega
      have h0 : (0 : Int) ≤ (k : Int) := by omega
      obtain ⟨a, o, rfl, ha, hc⟩ := (HA.out.below BW.out (Nat.le_refl _)) (by omega)
      have q : wr.cell? ⟨a, o + k, none⟩ = some (.float .f32 (f k)) := hc k hkn
      obtain ⟨x, hx⟩ : ∃ x, x = f k := ⟨_, rfl⟩
      rw [← hx] at q HS
      clear hc hx
      go_wp2_with fail
      go_roundw
      case rel => exact ⟨k + 1, _, by go_num, by omega, wIf_below _ _ BW.out, rfl, HS.out _⟩
      case measure => (simp [intOf] <;> omega)
    · obtain rfl : k = n := by omega
      go_wp2_with fail
      go_ret2
      exact ⟨_, rfl, H0.out, BW.out⟩
set_option maxHeartbeats 1000000 in
theorem rsum32_any (n c : Nat) (A : Option Addr) (f : Nat → Nat) (w : World) (hA : ListAt w w.heap.size A n (fun i => .float .f32 (f i))) (hn : n ≤ 65536) :
    Calls Try.prog 45 #[.slice A n c] w fun en w' => ∃ u, en = .returned (.float .f32 u) ∧ Is32 u (ss f n) ∧ Below w.heap.size w w' := by
  have HA := Lib.hid hA
  clear hA
  go_enter Try.func45, Try.ntmps45
  go_wp2_with fail
  go_loopw [3, 4] (fun s t wr => ∃ k S : Nat, t = .int .i64 k ∧ k ≤ n ∧ Below w.heap.size w wr ∧ s = .float .f32 S ∧ Is32 S (ss f k)) (fun _ t _ => n - (intOf t).toNat)
  case atStart => exact ⟨0, 0, rfl, by omega, Below.refl _ _, rfl, rfl⟩
  case round =>
    obtain ⟨k, S, rfl, hk, hbw, rfl, hS⟩ := hrel
    have BW := Lib.hid hbw
    have HS := Lib.hid fun w => is32_next (k := k) w hS
    have H0 := Lib.hid hS
    clear hbw hS
    by_cases hkn : k < n
    · have h3 : (k : Int) < (n : Int) := by omega
      have h0 : (0 : Int) ≤ (k : Int) := by omega
      obtain ⟨a, o, rfl, ha, hc⟩ := (HA.out.below BW.out (Nat.le_refl _)) (by omega)
      have q : wr.cell? ⟨a, o + k, none⟩ = some (.float .f32 (f k)) := hc k hkn
      obtain ⟨x, hx⟩ : ∃ x, x = f k := ⟨_, rfl⟩
      rw [← hx] at q HS
      clear hc hx
      go_wp2_with fail
      go_roundw
      case rel => exact ⟨k + 1, _, by go_num, by omega, wIf_below _ _ BW.out, rfl, HS.out _⟩
      case measure => (simp [intOf] <;> omega)
    · obtain rfl : k = n := by omega
      go_wp2_with fail
      go_ret
      exact ⟨_, rfl, H0.out, BW.out⟩
end Go.Proofs.Ytjakjnmfndfehaa

namespace Go.Proofs.Ytjakjnmfndfehaa
open Go.RowKit Go.Pst
set_option maxRecDepth 20000
set_option linter.unusedSimpArgs false
set_option linter.unusedVariables false
/-- The sum by halves; g: more than the steps that it takes. -/
def haV : Nat → (Nat → Nat) → Nat → Nat
  | 0, _, _ => 0
  | g + 1, f, n => if n = 0 then 0 else if n = 1 then f 0 else arV .add (haV g f (n / 2)) (haV g (fun i => f (n / 2 + i)) (n - n / 2))
theorem haV_many (g : Nat) (f : Nat → Nat) (n : Nat) (h : 2 ≤ n) : haV (g + 1) f n = arV .add (haV g f (n / 2)) (haV g (fun i => f (n / 2 + i)) (n - n / 2)) := by
  conv => lhs; unfold haV
  rw [if_neg (by omega), if_neg (by omega)]
theorem flat_part {w : World} {B : Nat} {b off n a m : Nat} {f : Nat → Nat} (h : FlAt w B (some ⟨b, off, none⟩) n f) (hn : 0 < n) (hm : a + m ≤ n) : FlAt w B (some ⟨b, off + a, none⟩) m (fun i => f (a + i)) := fun hn' => by
  obtain ⟨b', o', e, h1, h2⟩ := h hn
  cases e
  exact ⟨_, _, rfl, h1, fun i hi => by rw [Nat.add_assoc]; exact h2 (a + i) (by omega)⟩
theorem flat_first {w : World} {B : Nat} {A : Option Addr} {n m : Nat} {f : Nat → Nat} (h : FlAt w B A n f) (hm : m ≤ n) : FlAt w B A m f := fun hn' => by
  obtain ⟨b', o', e, h1, h2⟩ := h (by omega)
  exact ⟨_, _, e, h1, fun i hi => h2 i (by omega)⟩
section
attribute [local go_sem] run_fadd
set_option maxHeartbeats 1000000 in
theorem halves_any (g : Nat) : ∀ (n c : Nat) (A : Option Addr) (f : Nat → Nat) (w : World), n ≤ g → n ≤ c → n ≤ 65536 → FlAt w w.heap.size A n f →
    Calls Try.prog 89 #[.slice A n c] w (FlLike (haV (g + 1) f n) w) := by
  induction g with
  | zero =>
    intro n c A f w hg hnc hn hA
    obtain rfl : n = 0 := by omega
    clear hA hg hnc hn
    go_enter Try.func89, Try.ntmps89
    go_wp2_with fail
    go_ret
    exact ⟨0, rfl, rfl, Below.refl _ _⟩
  | succ g ih =>
    intro n c A f w hg hnc hn hA
    by_cases h0 : n = 0
    · subst h0
      clear hA hg hnc hn ih
      go_enter Try.func89, Try.ntmps89
      go_wp2_with fail
      go_ret
      exact ⟨0, rfl, rfl, Below.refl _ _⟩
    · by_cases h1 : n = 1
      · subst h1
        obtain ⟨a, o, rfl, ha, hc⟩ := hA (by omega)
        have q : w.cell? ⟨a, o + 0, none⟩ = some (.float .f64 (f 0)) := hc 0 (by omega)
        rw [Nat.add_zero] at q
        have e1 : f 0 = haV (g + 1 + 1) f 1 := rfl
        obtain ⟨x, hx⟩ : ∃ x, x = f 0 := ⟨_, rfl⟩
        rw [← hx] at q e1
        have E1 := Lib.hid e1
        clear hc hA hg hnc hn ih h0 hx e1
        go_enter Try.func89, Try.ntmps89
        go_wp2_with fail
        go_ret
        exact ⟨x, rfl, by rw [E1.out], Below.refl _ _⟩
      · have e1 := haV_many (g + 1) f n (by omega)
        obtain ⟨m, hm⟩ : ∃ m, m = n / 2 := ⟨_, rfl⟩
        rw [← hm] at e1
        have hmn : (n : Int) / 2 = (m : Int) := by omega
        have hmt : (n : Int).tdiv 2 = (m : Int) := by rw [Int.tdiv_eq_ediv_of_nonneg (by omega)]; exact hmn
        obtain ⟨a, o, rfl, ha, hc⟩ := hA (by omega)
        have C1 := Lib.hid fun w' (hb : Below w.heap.size w w') => ih m c (some ⟨a, o, none⟩) f w' (by omega) (by omega) (by omega) ((flat_first (hA.below hb (Nat.le_refl _)) (by omega)).more hb.size)
        have C2 := Lib.hid fun w' (hb : Below w.heap.size w w') => ih (n - m) (c - m) (some ⟨a, o + m, none⟩) (fun i => f (m + i)) w' (by omega) (by omega) (by omega) ((flat_part (hA.below hb (Nat.le_refl _)) (by omega) (by omega)).more hb.size)
        generalize haV (g + 1) f m = V1 at e1 C1
        generalize haV (g + 1) (fun i => f (m + i)) (n - m) = V2 at e1 C2
        generalize haV (g + 1 + 1) f n = V at e1 ⊢
        have E1 := Lib.hid e1
        have hn0 : ((n : Int) == 0) = false := by simp; omega
        have hn1 : ((n : Int) == 1) = false := by simp; omega
        have hn2 : ¬ (n : Int) = 0 := by omega
        have hn3 : ¬ (n : Int) = 1 := by omega
        have hz0 : (0 : Int) ≤ (m : Int) := by omega
        have hz1 : (m : Int) ≤ (n : Int) := by omega
        have hz2 : (m : Int) ≤ (c : Int) := by omega
        have hz3 : (n : Int) ≤ (c : Int) := by omega
        have hz4 : ¬ c = m := by omega
        have hz5 : wrap64 (m : Int) = (m : Int) := by unfold wrap64; omega
        clear hc hA hg hnc hn ih h0 h1 e1 hm
        go_enter Try.func89, Try.ntmps89
        go_wp2_with fail
        refine Reg.wp_region_rn [17, 23, 24, 2] (by kernel_rfl) (by kernel_rfl) (fun _ => ?_)
        repeat (refine Reg.op0e Reg.rn_class (fun _ _ => trivial) rfl rfl rfl ?_; apply Exists.intro; apply And.intro; (intro w' hb; have hc := Reg.rd_cells hb; clear hb; go_simp; (try go_bits); first | done | (with_reducible exact rfl)); (intro a' ha'; simp only [Act.put, List.setIfInBounds_toArray, List.set_cons_zero, List.set_cons_succ] at ha'; subst ha'))
        refine Reg.op0 Reg.rn_class (fun _ _ => trivial) rfl rfl rfl ⟨.float .f64 (V1), ?_, ?_⟩
        · intro w' hb; have hbw := Lib.hid hb; have hc := Reg.rd_cells hb; clear hb; go_simp; exact ⟨rfl, (C1.out _ hbw.out).mono fun en w'' ⟨u, e1, e2, e3⟩ => ⟨_, e1, .inr ⟨rfl, veq_of_cn e2⟩, e3⟩⟩
        intro a' ha'; simp only [Act.put, List.setIfInBounds_toArray, List.set_cons_zero, List.set_cons_succ] at ha'; subst ha'
        repeat (refine Reg.op0e Reg.rn_class (fun _ _ => trivial) rfl rfl rfl ?_; apply Exists.intro; apply And.intro; (intro w' hb; have hc := Reg.rd_cells hb; clear hb; go_simp; (try go_bits); first | done | (with_reducible exact rfl)); (intro a' ha'; simp only [Act.put, List.setIfInBounds_toArray, List.set_cons_zero, List.set_cons_succ] at ha'; subst ha'))
        refine Reg.op0 Reg.rn_class (fun _ _ => trivial) rfl rfl rfl ⟨.float .f64 (V2), ?_, ?_⟩
        · intro w' hb; have hbw := Lib.hid hb; have hc := Reg.rd_cells hb; clear hb; go_simp; exact ⟨rfl, (C2.out _ hbw.out).mono fun en w'' ⟨u, e1, e2, e3⟩ => ⟨_, e1, .inr ⟨rfl, veq_of_cn e2⟩, e3⟩⟩
        intro a' ha'; simp only [Act.put, List.setIfInBounds_toArray, List.set_cons_zero, List.set_cons_succ] at ha'; subst ha'
        refine Reg.op2 Reg.rn_class (fun _ _ => trivial) rfl rfl 17 23 _ _ rfl rfl rfl ⟨.float .f64 ((arV .add V1 V2)), ?_, ?_⟩
        · intro u1 u2 g1 g2 w' hb; obtain ⟨y1, rfl, f1⟩ := cn_of_veq g1; obtain ⟨y2, rfl, f2⟩ := cn_of_veq g2; clear g1 g2; have hc := Reg.rd_cells hb; clear hb; have F1 := Lib.hid f1; have F2 := Lib.hid f2; clear f1 f2; simp only [Act.put, List.setIfInBounds_toArray, List.set_cons_zero, List.set_cons_succ]; go_simp; have f1 := F1.out; have f2 := F2.out; exact ⟨wIf_refl _ _, .inr ⟨rfl, veq_of_cn (arU_of2 f1 f2)⟩⟩
        intro a' ha'; simp only [Act.put, List.setIfInBounds_toArray, List.set_cons_zero, List.set_cons_succ] at ha'; subst ha'
        refine Reg.op1 Reg.rn_class (fun _ _ => trivial) rfl rfl 24 _ rfl rfl ⟨.float .f64 ((arV .add V1 V2)), ?_, ?_⟩
        · intro u1 g1 w' hb; clear hb; have G1 := Lib.hid g1; clear g1; simp only [Act.put, List.setIfInBounds_toArray, List.set_cons_zero, List.set_cons_succ]; go_simp; exact ⟨Below.refl _ _, .inr ⟨rfl, G1.out⟩⟩
        intro a' ha'; simp only [Act.put, List.setIfInBounds_toArray, List.set_cons_zero, List.set_cons_succ] at ha'; subst ha'
        refine Reg.rn_endv [(17, .float .f64 (V1)), (23, .float .f64 (V2)), (24, .float .f64 ((arV .add V1 V2))), (2, .float .f64 ((arV .add V1 V2)))] rfl (fun wz hb => ?_)
        refine ⟨rfl, fun u hu => ?_⟩
        obtain ⟨z17, rfl, k17⟩ := cn_of_veq hu; clear hu
        refine ⟨rfl, fun u hu => ?_⟩
        obtain ⟨z23, rfl, k23⟩ := cn_of_veq hu; clear hu
        refine ⟨rfl, fun u hu => ?_⟩
        obtain ⟨z24, rfl, k24⟩ := cn_of_veq hu; clear hu
        refine ⟨rfl, fun u hu => ?_⟩
        obtain ⟨z2, rfl, k2⟩ := cn_of_veq hu; clear hu
        simp only [Reg.endv, Act.put, List.setIfInBounds_toArray, List.set_cons_zero, List.set_cons_succ]
        go_wp2_with fail
        go_ret
        exact ⟨_, rfl, by rw [k2, E1.out], hb⟩
set_option maxHeartbeats 1000000 in
theorem rhalves_any (g : Nat) : ∀ (n c : Nat) (A : Option Addr) (f : Nat → Nat) (w : World), n ≤ g → n ≤ c → n ≤ 65536 → FlAt w w.heap.size A n f →
    Calls Try.prog 47 #[.slice A n c] w (FlLike (haV (g + 1) f n) w) := by
  induction g with
  | zero =>
    intro n c A f w hg hnc hn hA
    obtain rfl : n = 0 := by omega
    clear hA hg hnc hn
    go_enter Try.func47, Try.ntmps47
    go_wp2_with fail
    go_ret
    exact ⟨0, rfl, rfl, Below.refl _ _⟩
  | succ g ih =>
    intro n c A f w hg hnc hn hA
    by_cases h0 : n = 0
    · subst h0
      clear hA hg hnc hn ih
      go_enter Try.func47, Try.ntmps47
      go_wp2_with fail
      go_ret
      exact ⟨0, rfl, rfl, Below.refl _ _⟩
    · by_cases h1 : n = 1
      · subst h1
        obtain ⟨a, o, rfl, ha, hc⟩ := hA (by omega)
        have q : w.cell? ⟨a, o + 0, none⟩ = some (.float .f64 (f 0)) := hc 0 (by omega)
        rw [Nat.add_zero] at q
        have e1 : f 0 = haV (g + 1 + 1) f 1 := rfl
        obtain ⟨x, hx⟩ : ∃ x, x = f 0 := ⟨_, rfl⟩
        rw [← hx] at q e1
        have E1 := Lib.hid e1
        clear hc hA hg hnc hn ih h0 hx e1
        go_enter Try.func47, Try.ntmps47
        go_wp2_with fail
        go_ret
        exact ⟨x, rfl, by rw [E1.out], Below.refl _ _⟩
      · have e1 := haV_many (g + 1) f n (by omega)
        obtain ⟨m, hm⟩ : ∃ m, m = n / 2 := ⟨_, rfl⟩
        rw [← hm] at e1
        have hmn : (n : Int) / 2 = (m : Int) := by omega
        have hmt : (n : Int).tdiv 2 = (m : Int) := by rw [Int.tdiv_eq_ediv_of_nonneg (by omega)]; exact hmn
        obtain ⟨a, o, rfl, ha, hc⟩ := hA (by omega)
        have C1 := Lib.hid fun w' (hb : Below w.heap.size w w') => ih m c (some ⟨a, o, none⟩) f w' (by omega) (by omega) (by omega) ((flat_first (hA.below hb (Nat.le_refl _)) (by omega)).more hb.size)
        have C2 := Lib.hid fun w' (hb : Below w.heap.size w w') => ih (n - m) (c - m) (some ⟨a, o + m, none⟩) (fun i => f (m + i)) w' (by omega) (by omega) (by omega) ((flat_part (hA.below hb (Nat.le_refl _)) (by omega) (by omega)).more hb.size)
        generalize haV (g + 1) f m = V1 at e1 C1
        generalize haV (g + 1) (fun i => f (m + i)) (n - m) = V2 at e1 C2
        generalize haV (g + 1 + 1) f n = V at e1 ⊢
        have E1 := Lib.hid e1
        have hn0 : ((n : Int) == 0) = false := by simp; omega
        have hn1 : ((n : Int) == 1) = false := by simp; omega
        have hn2 : ¬ (n : Int) = 0 := by omega
        have hn3 : ¬ (n : Int) = 1 := by omega
        have hz0 : (0 : Int) ≤ (m : Int) := by omega
        have hz1 : (m : Int) ≤ (n : Int) := by omega
        have hz2 : (m : Int) ≤ (c : Int) := by omega
        have hz3 : (n : Int) ≤ (c : Int) := by omega
        have hz4 : ¬ c = m := by omega
        have hz5 : wrap64 (m : Int) = (m : Int) := by unfold wrap64; omega
        clear hc hA hg hnc hn ih h0 h1 e1 hm
        go_enter Try.func47, Try.ntmps47
        go_wp2_with fail
        refine Reg.wp_region_rn [17, 23, 24, 2] (by kernel_rfl) (by kernel_rfl) (fun _ => ?_)
        repeat (refine Reg.op0e Reg.rn_class (fun _ _ => trivial) rfl rfl rfl ?_; apply Exists.intro; apply And.intro; (intro w' hb; have hc := Reg.rd_cells hb; clear hb; go_simp; (try go_bits); first | done | (with_reducible exact rfl)); (intro a' ha'; simp only [Act.put, List.setIfInBounds_toArray, List.set_cons_zero, List.set_cons_succ] at ha'; subst ha'))
        refine Reg.op0 Reg.rn_class (fun _ _ => trivial) rfl rfl rfl ⟨.float .f64 (V1), ?_, ?_⟩
        · intro w' hb; have hbw := Lib.hid hb; have hc := Reg.rd_cells hb; clear hb; go_simp; exact ⟨rfl, (C1.out _ hbw.out).mono fun en w'' ⟨u, e1, e2, e3⟩ => ⟨_, e1, .inr ⟨rfl, veq_of_cn e2⟩, e3⟩⟩
        intro a' ha'; simp only [Act.put, List.setIfInBounds_toArray, List.set_cons_zero, List.set_cons_succ] at ha'; subst ha'
        repeat (refine Reg.op0e Reg.rn_class (fun _ _ => trivial) rfl rfl rfl ?_; apply Exists.intro; apply And.intro; (intro w' hb; have hc := Reg.rd_cells hb; clear hb; go_simp; (try go_bits); first | done | (with_reducible exact rfl)); (intro a' ha'; simp only [Act.put, List.setIfInBounds_toArray, List.set_cons_zero, List.set_cons_succ] at ha'; subst ha'))
        refine Reg.op0 Reg.rn_class (fun _ _ => trivial) rfl rfl rfl ⟨.float .f64 (V2), ?_, ?_⟩
        · intro w' hb; have hbw := Lib.hid hb; have hc := Reg.rd_cells hb; clear hb; go_simp; exact ⟨rfl, (C2.out _ hbw.out).mono fun en w'' ⟨u, e1, e2, e3⟩ => ⟨_, e1, .inr ⟨rfl, veq_of_cn e2⟩, e3⟩⟩
        intro a' ha'; simp only [Act.put, List.setIfInBounds_toArray, List.set_cons_zero, List.set_cons_succ] at ha'; subst ha'
        refine Reg.op2 Reg.rn_class (fun _ _ => trivial) rfl rfl 17 23 _ _ rfl rfl rfl ⟨.float .f64 ((arV .add V1 V2)), ?_, ?_⟩
        · intro u1 u2 g1 g2 w' hb; obtain ⟨y1, rfl, f1⟩ := cn_of_veq g1; obtain ⟨y2, rfl, f2⟩ := cn_of_veq g2; clear g1 g2; have hc := Reg.rd_cells hb; clear hb; have F1 := Lib.hid f1; have F2 := Lib.hid f2; clear f1 f2; simp only [Act.put, List.setIfInBounds_toArray, List.set_cons_zero, List.set_cons_succ]; go_simp; have f1 := F1.out; have f2 := F2.out; exact ⟨wIf_refl _ _, .inr ⟨rfl, veq_of_cn (arU_of2 f1 f2)⟩⟩
        intro a' ha'; simp only [Act.put, List.setIfInBounds_toArray, List.set_cons_zero, List.set_cons_succ] at ha'; subst ha'
        refine Reg.op1 Reg.rn_class (fun _ _ => trivial) rfl rfl 24 _ rfl rfl ⟨.float .f64 ((arV .add V1 V2)), ?_, ?_⟩
        · intro u1 g1 w' hb; clear hb; have G1 := Lib.hid g1; clear g1; simp only [Act.put, List.setIfInBounds_toArray, List.set_cons_zero, List.set_cons_succ]; go_simp; exact ⟨Below.refl _ _, .inr ⟨rfl, G1.out⟩⟩
        intro a' ha'; simp only [Act.put, List.setIfInBounds_toArray, List.set_cons_zero, List.set_cons_succ] at ha'; subst ha'
        refine Reg.rn_endv [(17, .float .f64 (V1)), (23, .float .f64 (V2)), (24, .float .f64 ((arV .add V1 V2))), (2, .float .f64 ((arV .add V1 V2)))] rfl (fun wz hb => ?_)
        refine ⟨rfl, fun u hu => ?_⟩
        obtain ⟨z17, rfl, k17⟩ := cn_of_veq hu; clear hu
        refine ⟨rfl, fun u hu => ?_⟩
        obtain ⟨z23, rfl, k23⟩ := cn_of_veq hu; clear hu
        refine ⟨rfl, fun u hu => ?_⟩
        obtain ⟨z24, rfl, k24⟩ := cn_of_veq hu; clear hu
        refine ⟨rfl, fun u hu => ?_⟩
        obtain ⟨z2, rfl, k2⟩ := cn_of_veq hu; clear hu
        simp only [Reg.endv, Act.put, List.setIfInBounds_toArray, List.set_cons_zero, List.set_cons_succ]
        go_wp2_with fail
        go_ret
        exact ⟨_, rfl, by rw [k2, E1.out], hb⟩
end
theorem halvesA_any (n c : Nat) (A : Option Addr) (f : Nat → Nat) (w : World) (hA : FlAt w w.heap.size A n f) (hn : n ≤ 65536) (hnc : n ≤ c) :
    Calls Try.prog 43 #[.slice A n c] w (FeLike (haV 65537 f n) 0 w) := by
  have HLG := Lib.hid fun w => long_f n c A w (by omega)
  rw [decide_eq_false (by omega : ¬ 65536 < n)] at HLG
  have HH := Lib.hid (halves_any 65536 n c A f w hn hnc hn hA)
  generalize haV (65536 + 1) f n = V at HH
  clear hA
  go_enter Try.func43, Try.ntmps43
  go_wp2_with fail
  refine (HLG.out _).mono ?_
  rintro en w' ⟨rfl, rfl⟩
  go_wp2_with fail
  refine HH.out.mono ?_
  rintro en w2 ⟨u, rfl, hu, hb⟩
  have HU := Lib.hid hu; have HB := Lib.hid hb
  clear hu hb
  go_wp2_with fail
  go_ret2
  exact ⟨u, rfl, HU.out, HB.out⟩
end Go.Proofs.Ytjakjnmfndfehaa

namespace Go.Proofs.Ytjakjnmfndfehaa
open Go.RowKit Go.Pst
set_option maxRecDepth 20000
set_option linter.unusedSimpArgs false
set_option linter.unusedVariables false
/-- A list of n floats as f, but for which no numbers they are, and what more is given. -/
def FlsLike (n : Nat) (f : Nat → Nat) (rest : List Value) (w : World) (en : Ending) (w' : World) : Prop :=
  ∃ B c y, en = .returned (.tuple (.slice B n c :: rest).toArray) ∧ n ≤ c ∧ FlAt w' w'.heap.size B n y ∧ (∀ i, i < n → cn (y i) = cn (f i)) ∧ Below w.heap.size w w'
theorem flat_cap {w : World} {base n : Nat} {e : TypeId} {v : Value} {y : Nat → Nat} (h : w.ownsRow base e 1 v n (nums y n)) : ∃ B cb, v = .slice B n cb ∧ n ≤ cb ∧ FlAt w w.heap.size B n y := by
  rcases h.2 with ⟨h1, h2⟩ | ⟨g, cap, cur, h1, h2, h3, h4, _⟩
  · subst h2; exact ⟨none, 0, h1, Nat.le_refl _, fun h => by omega⟩
  · subst h1
    exact ⟨_, _, rfl, h4, fun _ => ⟨g, 0, rfl, (Array.getElem?_eq_some_iff.1 h3).1, fun i hi => by rw [Nat.zero_add]; exact own_cell h (nums_get y hi)⟩⟩
section
attribute [local go_sem] run_fadd
set_option maxHeartbeats 1000000 in
theorem prefix_any (n c : Nat) (A : Option Addr) (f : Nat → Nat) (w : World) (hA : FlAt w w.heap.size A n f) (hn : n ≤ 65536) :
    Calls Try.prog 44 #[.slice A n c] w (FlsLike n (fun i => keS f (i + 1)) [.int .i64 0] w) := by
  have HLG := Lib.hid fun w => long_f n c A w (by omega)
  rw [decide_eq_false (by omega : ¬ 65536 < n)] at HLG
  have HA := Lib.hid hA
  clear hA
  go_enter Try.func44, Try.ntmps44
  go_wp2_with fail
  refine (HLG.out _).mono ?_
  rintro en w' ⟨rfl, rfl⟩
  go_wp2_with fail
  go_loopw [4, 5, 7, 12] (fun v s x t wr => ∃ (k S : Nat) (y : Nat → Nat) (u : Value), t = .int .i64 k ∧ k ≤ n ∧ Below w.heap.size w wr ∧ s = .float .f64 S ∧ cn S = cn (keS f k) ∧ u = v ∧ wr.ownsRow w.heap.size 24 1 u k (nums y k) ∧ ∀ i, i < k → cn (y i) = cn (keS f (i + 1))) (fun _ _ _ t _ => n - (intOf t).toNat)
  case atStart => exact ⟨0, 0, fun _ => 0, _, rfl, by omega, Below.refl _ _, rfl, rfl, rfl, World.ownsRow_nil _ _ _ _, fun i hi => by omega⟩
  case round =>
    obtain ⟨k, S, y, u, rfl, hk, hbw, rfl, hS, rfl, hown, hy⟩ := hrel
    have BW := Lib.hid hbw; have HS := Lib.hid hS; have OW := Lib.hid hown; have HY := Lib.hid hy
    clear hbw hS hown hy
    by_cases hkn : k < n
    · have h3 : (k : Int) < (n : Int) := by omega
      have h0 : (0 : Int) ≤ (k : Int) := by omega
      obtain ⟨a, o, rfl, ha, hc⟩ := (HA.out.below BW.out (Nat.le_refl _)) (by omega)
      have q := hc k hkn
      have e1 : keS f (k + 1) = arV .add (keS f k) (f k) := rfl
      obtain ⟨x, hx⟩ : ∃ x, x = f k := ⟨_, rfl⟩
      rw [← hx] at q e1
      have HZ : Hid (cn (arU .add wr S x) = cn (keS f (k + 1))) := Lib.hid (by rw [e1]; exact arU_of2 HS.out rfl)
      obtain ⟨z, hz⟩ : ∃ z, z = arU .add wr S x := ⟨_, rfl⟩
      rw [← hz] at HZ
      have HEZ := Lib.hid hz.symm
      clear hc hx e1 hz
      go_wp2_with (at_builtin
                   rw [HEZ.out]
                   refine wpList_floats w _ rfl _ _ rfl rfl ((wIf_below _ _ BW.out).alloc (by simpa using BW.out.size) _) _ k y rfl ((own_below OW.out (wIf_refl _ _)).alloc _) (some ⟨wr.heap.size, 0, none⟩) 1 1 (wr.heap.size + 1) (fun _ => z) rfl ?q8 (by omega) ?_
                   case q8 => have := flat_new (wIf (arD .add S x).isNone wr) 24 z; rwa [wIf_size] at this
                   intro v1 w1 ho1 hb1
                   have O1 := Lib.hid ho1
                   have B1 := Lib.hid hb1
                   clear ho1 hb1)
      go_roundw
      case rel => exact ⟨k + 1, z, _, _, by go_num, by omega, B1.out, rfl, HZ.out, rfl, O1.out, fun i hi => by
        unfold joinR
        split
        · exact HY.out i (by assumption)
        · rw [show i = k by omega]; exact HZ.out⟩
      case measure => (simp [intOf] <;> omega)
    · obtain rfl : k = n := by omega
      obtain ⟨VB, vc, rfl, hvc, fv⟩ := flat_cap OW.out
      have FV := Lib.hid fv
      clear fv
      go_wp2_with fail
      go_ret2
      exact ⟨VB, vc, y, rfl, hvc, FV.out, HY.out, BW.out⟩
end
set_option maxHeartbeats 1000000 in
theorem bits_any (n c d : Nat) (A B : Option Addr) (f g : Nat → Nat) (w : World) (hA : FlAt w w.heap.size A n f) (hB : FlAt w w.heap.size B n g) (hn : n ≤ 1099511627776) (hs : ∀ i, i < n → cn (f i) = cn (g i)) :
    Calls Try.prog 24 #[.slice A n c, .slice B n d] w fun en w' => en = .returned (.bool true) ∧ Below w.heap.size w w' := by
  have HA := Lib.hid hA; have HB := Lib.hid hB; have HS := Lib.hid hs
  clear hA hB hs
  go_enter Try.func24, Try.ntmps24
  go_wp2_with fail
  go_loopw [5] (fun t wr => ∃ k : Nat, t = .int .i64 k ∧ k ≤ n ∧ Below w.heap.size w wr) (fun t _ => n - (intOf t).toNat)
  case atStart => exact ⟨0, rfl, by omega, Below.refl _ _⟩
  case round =>
    obtain ⟨k, rfl, hk, hbw⟩ := hrel
    have BW := Lib.hid hbw
    clear hbw
    by_cases hkn : k < n
    · have h3 : (k : Int) < (n : Int) := by omega
      have h0 : (0 : Int) ≤ (k : Int) := by omega
      obtain ⟨a, o, rfl, ha, hc⟩ := (HA.out.below BW.out (Nat.le_refl _)) (by omega)
      obtain ⟨b, o2, rfl, hbb, hc2⟩ := (HB.out.below BW.out (Nat.le_refl _)) (by omega)
      have q := hc k hkn
      have q2 := hc2 k hkn
      have HX := Lib.hid fun w => psame_any (f k) (g k) w (HS.out k hkn)
      generalize f k = x at q HX
      generalize g k = y at q2 HX
      have hal : a < wr.heap.size := Nat.lt_of_lt_of_le ha BW.out.size
      have hbl : b < wr.heap.size := Nat.lt_of_lt_of_le hbb BW.out.size
      clear hc hc2
      go_wp2_with fail
      refine Reg.wp_region_rd (by kernel_rfl) (by kernel_rfl) (fun _ => ?_)
      repeat (refine Reg.rd_op rfl ?_; apply Exists.intro; apply And.intro; (intro w' hb; have hc := Reg.rd_cells hb; clear hb; go_simp; (try go_bits); first | done | (with_reducible exact rfl)); (intro _ a' ha'; simp only [Act.put, List.setIfInBounds_toArray, List.set_cons_zero, List.set_cons_succ] at ha'; subst ha'))
      refine Reg.rd_op rfl ?_; apply Exists.intro; apply And.intro
      · intro w' hb; have hsz := Reg.rd_size hb; clear hb; go_simp; (try go_bits); exact (HX.out _).mono fun en w'' ⟨e1, e2⟩ => ⟨e1, by rw [← e2]; exact Below.refl _ _⟩
      intro _ a' ha'; simp only [Act.put, List.setIfInBounds_toArray, List.set_cons_zero, List.set_cons_succ] at ha'; subst ha'
      repeat (refine Reg.rd_op rfl ?_; apply Exists.intro; apply And.intro; (intro w' hb; have hc := Reg.rd_cells hb; clear hb; go_simp; (try go_bits); first | done | (with_reducible exact rfl)); (intro _ a' ha'; simp only [Act.put, List.setIfInBounds_toArray, List.set_cons_zero, List.set_cons_succ] at ha'; subst ha'))
      refine Reg.rd_end (fun wz hb => ?_)
      have BW2 := Lib.hid (BW.out.trans (hb.mono BW.out.size))
      clear hb
      go_wp2_with fail
      go_roundw
      case rel => exact ⟨k + 1, by go_num, by omega, BW2.out⟩
      case measure => (simp [intOf] <;> omega)
    · obtain rfl : k = n := by omega
      go_wp2_with fail
      go_ret
      exact ⟨rfl, BW.out⟩
end Go.Proofs.Ytjakjnmfndfehaa

namespace Go.Proofs.Ytjakjnmfndfehaa
open Go.RowKit Go.Pst
set_option maxRecDepth 20000
set_option linter.unusedSimpArgs false
set_option linter.unusedVariables false
theorem wpList_twin {ops : Array Oper} {rest : List Oper} {o : Oper} {a : Act} {Q : Exit → Act → World → Prop} (w0 : World) (hgd : o.guard = none) (s x : Operand)
    (ho : o.op = .call { callee := .builtin .append, args := #[s, x], argTypes := #[22, 22] }) (hty : o.type = 22)
    (hs : a.eval s = .slice (some ⟨w0.heap.size, 0, none⟩) 0 0) (A : Option Addr) (n c : Nat) (f : Nat → Nat) (hx : a.eval x = .slice A n c) (hA : FlAt w0 w0.heap.size A n f) (hn : n ≤ 17592186044416)
    (hk : ∀ B cb w', n ≤ cb → FlAt w' w'.heap.size B n f → Below w0.heap.size w0 w' → wpList Try.prog ops Q rest (a.put o.dst (.slice B n cb)) w') :
    wpList Try.prog ops Q (o :: rest) a (w0.alloc (.cells #[] 24)) := by
  have hal := (Below.refl w0.heap.size w0).alloc (Nat.le_refl _) (.cells #[] 24)
  refine wpList_floats w0 _ hgd s x ho hty hal _ 0 f hs (World.ownsRow_made (e := 24) (size := 1) w0 #[] 0 (Nat.le_refl _) (by simp [maxLen]) rfl) A n c w0.heap.size f hx (hA.below hal (Nat.le_refl _)) (by omega) ?_
  intro v1 w1 ho1 hb1
  rw [Nat.zero_add] at ho1
  obtain ⟨B, cb, rfl, hcb, fv⟩ := flat_cap ho1
  refine hk B cb w1 hcb (fv.congr fun i hi => ?_) hb1
  unfold joinR; rw [if_neg (by omega), Nat.sub_zero]
end Go.Proofs.Ytjakjnmfndfehaa

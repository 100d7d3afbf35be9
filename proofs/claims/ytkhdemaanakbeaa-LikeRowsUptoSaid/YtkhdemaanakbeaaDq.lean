/- The pieces of a name: the program's walk. Condition: names of at most 2^45 code points. -/
import Derived.Test.YtkhdemaanakbeaaDp
import Derived.Test.YtkhdemaanakbeaaJb
import Derived.Maps.RangeWalk
import Derived.Maps.Views
import Derived.Maps.OwnOps
import Derived.Laws.IdiomStrings
namespace Go.Pst
open Go
set_option linter.unusedVariables false
def by4 (x : Int) : List Int := [x / 16777216 % 256, x / 65536 % 256, x / 256 % 256, x % 256]
/-- The bytes of the first k code points of the piece that begins at i. -/
def pcB (f : Nat → Int) (i : Nat) : Nat → List Int
  | 0 => []
  | k + 1 => pcB f i k ++ by4 (f (i + k))
theorem pcB_len (f : Nat → Int) (i : Nat) : ∀ k, (pcB f i k).length = k * 4
  | 0 => rfl
  | k + 1 => by unfold pcB; rw [List.length_append, pcB_len f i k]; simp [by4]; omega
def bts (l : List Int) : List Value := l.map fun x => .int .u8 x
end Go.Pst
namespace Go.Proofs.Ytkhdemaanakbeaa
open Go.RowKit Go.Pst
set_option maxRecDepth 20000
set_option linter.unusedSimpArgs false
set_option linter.unusedVariables false
theorem infoByte : (Try.prog.info? 5).map (fun i => (i.zero, i.size, i.bytes)) = some (some (.int .u8 0), 1, 1) := by kernel_rfl
/-- The key of the piece that begins at i. -/
def pcK (f : Nat → Int) (size i : Nat) : List UInt8 := (Go.strOfNums (pcB f i size)).data.toList
/-- How a map says how often each piece stands among the first i. -/
structure Says (kA : Nat → List UInt8) (i : Nat) (D : DataW Unit) : Prop where
  isMap : Maps.IsMap D
  atK : ∀ s, D.atKey (.string s) (.lit (.int .i64 0)) = .lit (.int .i64 (cntK kA i s : Nat))
  hasK : ∀ s, Maps.has D (.string s) = decide (0 < cntK kA i s)
theorem says_none (kA : Nat → List UInt8) : Says kA 0 (.map []) := ⟨⟨[], rfl⟩, fun s => rfl, fun s => rfl⟩
theorem says_more {kA : Nat → List UInt8} {i : Nat} {D : DataW Unit} (h : Says kA i D) : Says kA (i + 1) (D.put (.string (kA i)) (.lit (.int .i64 ((cntK kA i (kA i) : Nat) + 1 : Int)))) where
  isMap := h.isMap.put _ _
  atK s := by
    by_cases e : s = kA i
    · rw [e, Maps.atKey_put_same h.isMap (show WideAt.IsKeyLit (.string (kA i)) from trivial), cntK_hit rfl]; rfl
    · rw [Maps.atKey_put_other (by intro x; injection x with x; exact e x), h.atK, cntK_miss (Ne.symm e)]
  hasK s := by
    by_cases e : s = kA i
    · rw [e, Maps.has_put_same h.isMap (show WideAt.IsKeyLit (.string (kA i)) from trivial), cntK_hit rfl]
      exact (decide_eq_true (by omega)).symm
    · rw [Maps.has_put_other (by intro x; injection x with x; exact e x), h.hasK, cntK_miss (Ne.symm e)]
def PiePost (kA : Nat → List UInt8) (M : Nat) (w : World) (en : Ending) (w' : World) : Prop :=
  ∃ D, en = .returned (.map (some w.heap.size)) ∧ w'.ownsMap Try.prog 9 (plainElem Try.prog 3) w.heap.size M D ∧ Says kA M D ∧ Below w.heap.size w w'
theorem map_below {w w' : World} {b n B : Nat} {D : DataW Unit} (h : w.ownsMap Try.prog 9 (plainElem Try.prog 3) b n D) (hb : Below B w w') (hB : b < B) : w'.ownsMap Try.prog 9 (plainElem Try.prog 3) b n D := by
  obtain ⟨es, clock, h1, h2⟩ := h
  exact ⟨es, clock, (hb.block b hB).trans h1, h2⟩
theorem same_int {d : DataW Unit} {a b : Int} (h1 : d = .lit (.int .i64 a)) (h2 : d = .lit (.int .i64 b)) : a = b := by
  rw [h1] at h2
  injection h2 with h2
  injection h2
theorem lawS : Maps.Keyed Try.prog 9 := Maps.string_keyed Try.underlying9
theorem keyS {s : ByteArray} (h : s.size ≤ maxLen) : keyOf Try.prog 9 (.string s) = some (.string s.data.toList) := by
  unfold keyOf
  rw [Try.underlying9]
  unfold mapKey
  rw [Try.underlying9]
  simp only [if_pos h]
theorem zeroI (w : World) : (zeroValue 3).run Try.prog w = .ok (.int .i64 0) w := by kernel_rfl
set_option maxHeartbeats 3000000 in
theorem pieces_any (A : Option Addr) (n c size : Nat) (fa : Nat → Int) (w : World) (hA : NameAt w w.heap.size A n fa) (hn : n ≤ 35184372088832) (hc : n ≤ c) (hs1 : 1 ≤ size) (hs2 : size ≤ 16) :
    Calls Try.prog 57 #[.slice A n c, .int .i64 size] w (PiePost (pcK fa size) (n + 1 - size) w) := by
  obtain ⟨j0, hj0, hy0, hy1, hy2⟩ := info_parts infoByte
  have J0 := Lib.hid hj0; have J1 := Lib.hid hy0; have J2 := Lib.hid hy1; have J3 := Lib.hid hy2
  clear hj0 hy0 hy1 hy2
  have HA := Lib.hid hA
  clear hA
  have hmm := @run_makeMap Try.prog
  go_enter Try.func57, Try.ntmps57
  go_wp2_with fail
  go_loopw [6] (fun t wr => ∃ (i : Nat) (D : DataW Unit), t = .int .i64 (i : Int) ∧ i ≤ n + 1 - size ∧ wr.ownsMap Try.prog 9 (plainElem Try.prog 3) w.heap.size i D ∧ Says (pcK fa size) i D ∧ Below w.heap.size w wr) (fun t _ => n + 1 - (intOf t).toNat)
  case atStart => exact ⟨0, _, rfl, by omega, World.ownsMap_made _ _ _ _, says_none _, (Below.refl _ _).alloc (Nat.le_refl _) _⟩
  case round =>
    obtain ⟨i, D, rfl, hi, hmap, hsay, hbw⟩ := hrel
    have BW := Lib.hid hbw; have MP := Lib.hid hmap; have SY := Lib.hid hsay
    have hsz := hbw.size
    have hml := hmap.lt
    clear hbw hmap hsay
    by_cases hin : i + size ≤ n
    · have h1 : (i : Int) + (size : Int) ≤ (n : Int) := by omega
      obtain ⟨ga, oa, rfl, hga, hca⟩ := (HA.out.below BW.out (Nat.le_refl _)) (by omega)
      have CA := Lib.hid hca
      clear hca
      have h3 : (0 : Int) ≤ (i : Int) := by omega
      have h4 : (i : Int) ≤ (i : Int) + (size : Int) := by omega
      have h5 : (i : Int) + (size : Int) ≤ (c : Int) := by omega
      have h6 : (0 : Int) ≤ (i : Int) + (size : Int) := by omega
      go_wp2_with fail
      rw [Nat.add_sub_cancel_left]
      obtain ⟨wo, rfl⟩ : ∃ wo : World, wo = wr := ⟨_, rfl⟩
      go_loopw [7, 26] (fun v s wq => ∃ (k : Nat) (vb : Value), vb = v ∧ s = .int .i64 (k : Int) ∧ k ≤ size ∧ wq.ownsRow wo.heap.size 5 1 vb (pcB fa i k).length (bts (pcB fa i k)) ∧ Below wo.heap.size wo wq) (fun _ s _ => size - (intOf s).toNat)
      case atStart => exact ⟨0, _, rfl, rfl, by omega, World.ownsRow_nil _ _ _ _, Below.refl _ _⟩
      case round =>
        obtain ⟨k, vb, rfl, rfl, hk, hown, hbq⟩ := hrel
        have OB := Lib.hid hown; have BQ := Lib.hid hbq
        have hszq := hbq.size
        have hlen := pcB_len fa i k
        have HLN := Lib.hid hlen
        have hlb : (pcB fa i k).length ≤ 64 := by omega
        clear hown hbq hlen
        by_cases hks : k < size
        · have k1 : (k : Int) < (size : Int) := by omega
          have k0 : (0 : Int) ≤ (k : Int) := by omega
          have qa := CA.out (i + k) (by omega)
          have hgo : ga < wo.heap.size := by omega
          have qa2 : wr.cell? ⟨ga, oa + i + k, none⟩ = some (.int .i32 (fa (i + k))) := (BQ.out.cell (p := ⟨ga, oa + i + k, none⟩) hgo).trans (by rw [Nat.add_assoc]; exact qa)
          have qga : ga < wr.heap.size := by omega
          clear qa
          go_wp2_with (at_builtin
                       refine wpList_append_lies _ rfl _ _ _ rfl wo.heap.size 5 j0 _ 1 1 Try.underlying119 J0.out J1.out J2.out J3.out rfl (by omega) vb (pcB fa i k).length (bts (pcB fa i k)) rfl (OB.out.alloc _) ⟨wr.heap.size, 0, none⟩ 4 4 (bts (by4 (fa (i + k)))) rfl rfl (World.news_of_block (heap_alloc_new _ _)) (by simp [bts, by4, Value.oneCell']) (by omega) (by unfold maxLen; omega) (by omega) (by simp; omega) (wr.heap.size + 1) (by simp) ?_
                       intro g' cap' w7 hown7 hgrow7 hat7 hlt7
                       have O7 := Lib.hid hown7; have G7 := Lib.hid hgrow7
                       clear hown7 hgrow7 hat7)
          have hol := OB.out.lt
          have BQ2 := Lib.hid ((BQ.out.alloc hszq (.cells (bts (by4 (fa (i + k)))).toArray 5)).grown G7.out (by simp; omega) (fun q e => (hol q e).1))
          have HP : Hid (pcB fa i (k + 1) = pcB fa i k ++ by4 (fa (i + k))) := Lib.hid rfl
          go_wp2_with fail
          go_roundw
          case rel => exact ⟨k + 1, _, rfl, by go_num, by omega, by rw [HP.out, List.length_append]; unfold bts; rw [List.map_append]; exact O7.out, BQ2.out⟩
          case measure => (simp [intOf] <;> omega)
        · obtain rfl : k = size := by omega
          have k1 : ¬ (k : Int) < (k : Int) := by omega
          obtain ⟨g, cap, rfl, hg1, hg2⟩ := OB.out.form (by have := HLN.out; omega)
          have hcv := run_convert_bytes_arg (P := Try.prog) wr 119 5 Try.underlying119 Try.underlying5 g 0 (pcB fa i k).length cap (pcB fa i k) rfl (fun q hq => by
            rw [Nat.zero_add]
            refine own_cell OB.out ?_
            unfold bts
            rw [List.getElem?_map, List.getElem?_eq_getElem hq, Option.map_some, List.getD_eq_getElem?_getD, List.getElem?_eq_getElem hq]; rfl) 9 Try.underlying9
          have MP2 := Lib.hid (map_below MP.out BQ.out hml)
          have BW2 := Lib.hid (BW.out.trans (BQ.out.mono hsz))
          have hss : (strOfNums (pcB fa i k)).size ≤ maxLen := by
            have : (strOfNums (pcB fa i k)).size = (pcB fa i k).length := by simp [strOfNums, ByteArray.size]
            rw [this]; unfold maxLen; omega
          have KY := Lib.hid (keyS hss)
          have SA := Lib.hid (SY.out.atK (pcK fa k i))
          have hcn := cntK_le (pcK fa k) (pcK fa k i) i
          have SM := Lib.hid (says_more SY.out)
          generalize hcv2 : cntK (pcK fa k) i (pcK fa k i) = cc at *
          have hin2 : i < maxLen := by unfold maxLen; omega
          have hwf : (Lit.int .i64 ((cc : Int) + 1)).wf = true := by
            have z1 : IntKind.i64.min = -9223372036854775808 := by decide
            have z2 : IntKind.i64.max = 9223372036854775807 := by decide
            show (decide (IntKind.i64.min ≤ (cc : Int) + 1) && decide ((cc : Int) + 1 ≤ IntKind.i64.max)) = true
            rw [z1, z2, decide_eq_true (by omega), decide_eq_true (by omega)]; rfl
          have PI := Lib.hid (plainElem_int (H := Unit) (P := Try.prog) Try.underlying3 hwf)
          clear hcv2 hwf
          go_wp2_with (first
            | (at_lookup; refine wpList_lookup_own_int _ rfl _ _ 107 rfl 9 3 .i64 lawS Try.underlying107 Try.underlying3 (zeroI _) w.heap.size i D rfl MP2.out _ _ rfl KY.out ?_; intro cx hat hwc; obtain rfl := same_int SA.out hat; clear hat hwc)
            | (at_mapUpdate; refine wpList_mapUpdate_own _ rfl _ _ _ 107 rfl 9 3 lawS Try.underlying107 (plainElem Try.prog 3) w.heap.size i D rfl MP2.out hin2 _ _ _ rfl rfl KY.out _ [] PI.out ?_; intro w8 hown8 hgrow8; have O8 := Lib.hid hown8; have G8 := Lib.hid hgrow8; clear hown8 hgrow8)
            | fail)
          go_roundw
          case rel => exact ⟨i + 1, _, by go_num, by omega, O8.out, SM.out, BW2.out.grown G8.out (by omega) (fun q e => by cases e; exact Nat.le_refl _)⟩
          case measure => (simp [intOf] <;> omega)
    · have hM : i = n + 1 - size := by omega
      have h1 : ¬ (i : Int) + (size : Int) ≤ (n : Int) := by omega
      go_wp2_with fail
      go_ret
      rw [← hM]
      exact ⟨D, rfl, MP.out, SY.out, BW.out⟩
end Go.Proofs.Ytkhdemaanakbeaa

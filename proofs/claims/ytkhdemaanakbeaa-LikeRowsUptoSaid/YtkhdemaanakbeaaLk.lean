/- Costs as the document has them: the rows are the same. Condition: not too many rows. -/
import Derived.Test.YtkhdemaanakbeaaLj
import Derived.Deep.AppendLies
import Derived.Maps.AppendAt
import Derived.OwnWalk
import Derived.Test.YtkhdemaanakbeaaRt
import Derived.Deep.RegionHeld3
namespace Go.Proofs.Ytkhdemaanakbeaa
open Go.RowKit Go.Pst
set_option maxRecDepth 100000
set_option linter.unusedSimpArgs false
set_option linter.unusedVariables false

def flat (p : Nat → Int × Int × Nat) : Nat → List Value
  | 0 => []
  | n + 1 => flat p n ++ [.int .i32 (p n).1, .int .i32 (p n).2.1, .float .f32 (p n).2.2]

theorem flat_length (p : Nat → Int × Int × Nat) : ∀ n, (flat p n).length = n * 3
  | 0 => rfl
  | n + 1 => by rw [flat, List.length_append, flat_length p n]; simp; omega

theorem flat_get (p : Nat → Int × Int × Nat) (i : Nat) : ∀ n, i < n → (flat p n)[i * 3]? = some (.int .i32 (p i).1) ∧ (flat p n)[i * 3 + 1]? = some (.int .i32 (p i).2.1) ∧ (flat p n)[i * 3 + 2]? = some (.float .f32 (p i).2.2)
  | 0, h => by omega
  | n + 1, h => by
    have hl := flat_length p n
    rw [flat]
    rcases Nat.lt_or_ge i n with h1 | h1
    · obtain ⟨e1, e2, e3⟩ := flat_get p i n h1
      rw [List.getElem?_append_left (by omega), List.getElem?_append_left (by omega), List.getElem?_append_left (by omega)]
      exact ⟨e1, e2, e3⟩
    · obtain rfl : i = n := by omega
      rw [List.getElem?_append_right (by omega), List.getElem?_append_right (by omega), List.getElem?_append_right (by omega), hl]
      simp [show i * 3 + 1 - i * 3 = 1 by omega, show i * 3 + 2 - i * 3 = 2 by omega]

theorem pairs_of_own {w : World} {base n c : Nat} {e : TypeId} {A : Option Addr} {p : Nat → Int × Int × Nat} (h : w.ownsRow base e 3 (.slice A n c) n (flat p n)) : PairsAt w w.heap.size A n p := fun hn => by
  obtain ⟨g, cap, hv, _, hlt⟩ := h.form hn
  have hA : A = some ⟨g, 0, none⟩ := by injection hv
  subst hA
  refine ⟨g, 0, rfl, hlt, fun i hi => ?_⟩
  obtain ⟨e1, e2, e3⟩ := flat_get p i n hi
  have hc := h.cells (g := g) rfl
  have ha : ∀ j, ((⟨g, 0, none⟩ : Addr).add j) = ⟨g, 0 + j, none⟩ := fun j => by unfold Addr.add; split <;> simp_all
  have c1 := hc _ _ e1
  have c2 := hc _ _ e2
  have c3 := hc _ _ e3
  rw [ha] at c1 c2 c3
  exact ⟨c1, by rw [Nat.add_assoc]; exact c2, by rw [Nat.add_assoc]; exact c3⟩

theorem Own_grown {w0 w w' : World} {l : List (Nat × Array Value × TypeId)} {row : Option Nat} (h : Reg.Own w0 w l) (hg : w.grownBy w' row) (hr : ∀ k, row = some k → w0.heap.size ≤ k ∧ ∀ x ∈ l, x.1 ≠ k) : Reg.Own w0 w' l :=
  ⟨h.below.grown hg h.size (fun k e => (hr k e).1), fun x hx => ⟨(hg.block x.1 (h.blk x hx).1.lt (fun e => (hr _ e.symm).2 x hx rfl)).trans (h.blk x hx).1, (h.blk x hx).2⟩, h.apart⟩

theorem frozen_ad (W : World) (o : Obj) (b i : Nat) (hb : b < W.heap.size) (h : W.frozen? ⟨b, i, none⟩ = false) : ((W.alloc o).drew).frozen? ⟨b, i, none⟩ = false :=
  (((Below.refl W.heap.size W).alloc (Nat.le_refl _) o).drew.frozen (p := ⟨b, i, none⟩) hb).trans h

theorem infoCost : (Try.prog.info? 96).map (fun i => (i.zero, i.size, i.bytes)) = some (some (.agg #[.int .i32 0, .int .i32 0, .float .f32 0]), 3, 12) := by kernel_rfl

def CellsOf (w' : World) (v : Value) (b b0 g off n c k : Nat) (p : Nat → Int × Int × Nat) : Prop :=
  w'.cell? ⟨b, 4, none⟩ = some v ∧ w'.cell? ⟨b0, 4, none⟩ = some (.slice (some ⟨g, off, none⟩) n c) ∧
    w'.cell? ⟨g, off + k * 3, none⟩ = some (.int .i32 (p k).1) ∧ w'.cell? ⟨g, off + k * 3 + 1, none⟩ = some (.int .i32 (p k).2.1) ∧ w'.cell? ⟨g, off + k * 3 + 2, none⟩ = some (.float .f32 (p k).2.2)

def GivenPost (cI cO cX cT n : Nat) (p : Nat → Int × Int × Nat) (w : World) (en : Ending) (w' : World) : Prop :=
  ∃ A c, en = .returned (.agg #[.float .f64 cI, .float .f64 cO, .float .f64 cX, .float .f64 cT, .slice A n c]) ∧ PairsAt w' w'.heap.size A n p ∧ Below w.heap.size w w'

set_option maxHeartbeats 4000000 in
theorem given_any (cI cO cX cT : Nat) (A : Option Addr) (n c : Nat) (p : Nat → Int × Int × Nat) (w : World) (hn : n ≤ 1048576) (hp : PairsAt w w.heap.size A n p) :
    Calls Try.prog 18 #[.agg #[.float .f64 cI, .float .f64 cO, .float .f64 cX, .float .f64 cT, .slice A n c]] w (GivenPost cI cO cX cT n p w) := by
  obtain ⟨i0, hi0, hz0, hz1, hz2⟩ := info_parts infoCost
  have I0 := Lib.hid hi0; have I1 := Lib.hid hz0; have I2 := Lib.hid hz1; have I3 := Lib.hid hz2
  clear hi0 hz0 hz1 hz2
  have HP := Lib.hid hp; clear hp
  go_enter Try.func18, Try.ntmps18
  go_wp2
  go_loopw [4] (fun t wr => ∃ (k : Nat) (v : Value), t = .int .i64 k ∧ k ≤ n ∧ wr.ownsRow (w.heap.size + 3) 96 3 v k (flat p k) ∧ Reg.Own w wr [(w.heap.size + 1 + 1, #[.float .f64 cI, .float .f64 cO, .float .f64 cX, .float .f64 cT, v], 39),
      (w.heap.size + 1, #[.float .f64 0, .float .f64 0, .float .f64 0, .float .f64 0, .slice none 0 0], 39), (w.heap.size, #[.float .f64 cI, .float .f64 cO, .float .f64 cX, .float .f64 cT, .slice A n c], 26)]) (fun t _ => n - (intOf t).toNat)
  case atStart => exact ⟨0, .slice none 0 0, rfl, by omega, World.ownsRow_nil _ _ _ _, (((Reg.Own.nil w).alloc rfl _ _).alloc (k := w.heap.size + 1) (by simp) _ _).alloc (k := w.heap.size + 1 + 1) (by simp) _ _⟩
  case round =>
    obtain ⟨k, v, rfl, hk, hown, HO'⟩ := hrel
    have OW := Lib.hid hown; clear hown
    have O := HO'
    obtain ⟨c2, f2, z2, y2, ⟨n21, n20, -⟩, c1, f1, z1, y1, ⟨n10, -⟩, c0, f0, z0, y0, -, zz⟩ := O.rules
    have HO := Lib.hid O; clear O
    have hsz : w.heap.size + 3 ≤ wr.heap.size := by omega
    by_cases hkn : k < n
    · obtain ⟨g, off, rfl, hg, hcell⟩ := (HP.out.below HO.out.below (Nat.le_refl _)) (by omega)
      obtain ⟨q1, q2, q3⟩ := hcell k hkn
      have hg2 : g < wr.heap.size := by omega
      have hk1 : (k : Int) < (n : Int) := by omega
      clear hcell
      have HO1 := HO
      go_wp2_with fail
      have hlt := OW.out.lt
      have a1 : v.ownBlock ≠ some (w.heap.size + 1 + 1) := fun e => by have := (hlt _ e).1; omega
      have a2 : v.ownBlock ≠ some w.heap.size := fun e => by have := (hlt _ e).1; omega
      have a3 : v.ownBlock ≠ some g := fun e => by have := (hlt _ e).1; omega
      have HLT := Lib.hid hlt
      have s1 : wr.cell? ⟨w.heap.size + 1 + 1, 4, none⟩ = some v := by rw [c2]; rfl
      have s2 : wr.cell? ⟨w.heap.size, 4, none⟩ = some (.slice (some ⟨g, off, none⟩) n c) := by rw [c0]; rfl
      have s3 := f2 4
      have hk0 : (0 : Int) ≤ (k : Int) := by omega
      clear hlt c0 c1 c2 f0 f1 f2 zz n10 n20 n21
      have hS0 : CellsOf wr.drew v (w.heap.size + 1 + 1) w.heap.size g off n c k p := ⟨s1, s2, q1, q2, q3⟩
      refine wp_region_noPanic ?_
      refine Reg.wp_region_makes 21 (fun w' => CellsOf w' v (w.heap.size + 1 + 1) w.heap.size g off n c k p) (by kernel_rfl) (by kernel_rfl) (fun _ _ _ _ _ h => h) hS0 ?_
      simp only [List.take_succ_cons, List.take_zero, List.drop_succ_cons, List.drop_zero]
      repeat (refine Reg.held_op rfl ?_; apply Exists.intro; apply And.intro; (intro w' hs'; obtain ⟨t1, t2, t3, t4, t5⟩ := hs'; go_simp; first | done | (with_reducible exact rfl)); (intro a' ha'; simp only [Act.put, List.setIfInBounds_toArray, List.set_cons_zero, List.set_cons_succ] at ha'; subst ha'))
      refine Reg.held_end ⟨rfl, _, _, (by go_simp; exact ⟨rfl, rfl⟩), ?_, ?_⟩
      · have hz : w.heap.size + 1 + 1 < wr.heap.size := by omega
        have hb3 := ((Below.refl wr.heap.size wr).alloc (Nat.le_refl _) (.cells #[.int .i32 (p k).1, .int .i32 (p k).2.1, .float .f32 (p k).2.2] 96)).drew
        exact ⟨(hb3.cell (p := ⟨_, _, none⟩) hz).trans s1, (hb3.cell (p := ⟨_, _, none⟩) (show w.heap.size < _ by omega)).trans s2, (hb3.cell (p := ⟨_, _, none⟩) hg2).trans q1, (hb3.cell (p := ⟨_, _, none⟩) hg2).trans q2, (hb3.cell (p := ⟨_, _, none⟩) hg2).trans q3⟩
      · refine wpList_append_lies _ rfl _ _ _ rfl (w.heap.size + 3) 96 i0 _ 3 12 Try.underlying37 I0.out I1.out I2.out I3.out rfl (by omega) v k (flat p k) (by rfl) ((OW.out.alloc _).drew)
            ⟨wr.heap.size, 0, none⟩ 1 1 [.int .i32 (p k).1, .int .i32 (p k).2.1, .float .f32 (p k).2.2] (by rfl) (by rfl) (World.news_of_block (cs := #[.int .i32 (p k).1, .int .i32 (p k).2.1, .float .f32 (p k).2.2]) (t := 96) (fr := (0, 0)) (heap_alloc_new wr _)) (by simp [Value.oneCell'])
            (by omega) (by unfold maxLen; omega) (by omega) (by simp; omega) (wr.heap.size + 1) (by simp) ?_
        intro g' cap' w1 hown1 hgrow hat hlt
        have OW1 := Lib.hid hown1
        have O := Own_grown (HO1.out.keep (((Below.refl wr.heap.size wr).alloc (Nat.le_refl _) _).drew)) hgrow (fun q e => ⟨by have := (HLT.out q e).1; omega, fun x hx => by have := (HLT.out q e).1; simp at hx; rcases hx with rfl | rfl | rfl <;> simp <;> omega⟩)
        obtain ⟨c2, f2, z2, y2, ⟨n21, n20, -⟩, c1, f1, z1, y1, ⟨n10, -⟩, c0, f0, z0, y0, -, zz⟩ := O.rules
        have HO := Lib.hid O; clear O
        clear hgrow hat hown1 HLT s1 s2 s3
        go_wp2_with fail
        refine NoPanic.normal ?_
        go_wp2_with fail
        go_roundw
        case rel => exact ⟨k + 1, _, by go_num, by omega, ownsRow_setCell_below OW1.out (by simp) _, by simpa using HO.out.set 4 (.slice (some ⟨g', 0, none⟩) (k + 1) cap')⟩
        case measure => simp [intOf]; omega
    · obtain rfl : k = n := by omega
      obtain ⟨A', c', rfl⟩ : ∃ A' c', v = .slice A' k c' := by
        rcases OW.out.2 with ⟨h1, h2⟩ | ⟨g', cap', cur', h1, _⟩
        · exact ⟨none, 0, by rw [h1, h2]⟩
        · exact ⟨_, _, h1⟩
      have hk1 : ¬ (k : Int) < (k : Int) := by omega
      go_wp2_with fail
      have hZ := Lib.hid (((((HO.out.drop.set 0 (.float .f64 cI)).set 1 (.float .f64 cO)).set 2 (.float .f64 cX)).set 3 (.float .f64 cT)).set 4 (.slice A' k c')).below
      have OW1 : Hid (World.ownsRow (((((wr.setCell ⟨w.heap.size + 1, 0, none⟩ (.float .f64 cI)).setCell ⟨w.heap.size + 1, 1, none⟩ (.float .f64 cO)).setCell ⟨w.heap.size + 1, 2, none⟩ (.float .f64 cX)).setCell ⟨w.heap.size + 1, 3, none⟩ (.float .f64 cT)).setCell ⟨w.heap.size + 1, 4, none⟩ (.slice A' k c')) (w.heap.size + 3) 96 3 (.slice A' k c') k (flat p k)) :=
        Lib.hid (ownsRow_setCell_below (ownsRow_setCell_below (ownsRow_setCell_below (ownsRow_setCell_below (ownsRow_setCell_below OW.out (by simp) _) (by simp) _) (by simp) _) (by simp) _) (by simp) _)
      refine bodyPost_ret (v := .agg #[.float .f64 cI, .float .f64 cO, .float .f64 cX, .float .f64 cT, .slice A' k c']) (by simp [results, Try.results18, go_sem, c1]) rfl ⟨A', c', rfl, pairs_of_own OW1.out, hZ.out⟩

end Go.Proofs.Ytkhdemaanakbeaa

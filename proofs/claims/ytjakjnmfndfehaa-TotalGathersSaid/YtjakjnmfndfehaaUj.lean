/- total: Sums: what is added, asked, counted: walks. Condition: fewer than 65536 numbers. -/
import Derived.Test.YtjakjnmfndfehaaDe
namespace Go.Proofs.Ytjakjnmfndfehaa
open Go.RowKit Go.Pst
set_option maxRecDepth 20000
set_option linter.unusedSimpArgs false
set_option linter.unusedVariables false

/-- From w to w' nothing that was there turns but block X and the row. -/
structure Frm (w w' : World) (X : Nat) (row : Option Nat) : Prop where
  os : w'.os = w.os
  tape : w'.tape = w.tape
  output : w'.output = w.output
  size : w.heap.size ≤ w'.heap.size
  block : ∀ k, k < w.heap.size → k ≠ X → some k ≠ row → w'.heap[k]? = w.heap[k]?

theorem Frm.below {w0 w w' : World} {X : Nat} {row : Option Nat} (h : Frm w w' X row) (hb : Below w0.heap.size w0 w) (hX : w0.heap.size ≤ X) (hr : ∀ k, row = some k → w0.heap.size ≤ k) : Below w0.heap.size w0 w' :=
  hb.trans ⟨h.os, h.tape, h.output, h.size, fun k hk => h.block k (Nat.lt_of_lt_of_le hk hb.size) (by omega) (fun e => by have := hr k e.symm; omega)⟩

theorem own_same {w w' : World} {base : Nat} {e : TypeId} {size n : Nat} {v : Value} {xs : List Value} (h : w.ownsRow base e size v n xs) (hs : ∀ g, v.ownBlock = some g → w'.heap[g]? = w.heap[g]?) : w'.ownsRow base e size v n xs := by
  refine ⟨h.1, ?_⟩
  rcases h.2 with h2 | ⟨g, cap, cur, h1, h2, h3, h4⟩
  · exact .inl h2
  · exact .inr ⟨g, cap, cur, h1, h2, (hs g (by rw [h1]; rfl)).trans h3, h4⟩

/-- A Sums at block X that holds the slice v of these numbers. -/
structure SumsAt (w : World) (base X : Nat) (v : Value) (n : Nat) (xs : List Value) : Prop where
  blk : Reg.Blk w X #[v] 96
  hX : base ≤ X
  own : w.ownsRow base 24 1 v n xs
  ne : v.ownBlock ≠ some X

theorem SumsAt.other {w w' : World} {base X X' n : Nat} {v : Value} {row : Option Nat} {xs : List Value} (h : SumsAt w base X v n xs) (hf : Frm w w' X' row) (hne : X ≠ X') (hr : some X ≠ row) (hg : ∀ g, v.ownBlock = some g → g ≠ X' ∧ some g ≠ row) : SumsAt w' base X v n xs :=
  ⟨(hf.block X h.blk.lt hne hr).trans h.blk, h.hX, own_same h.own fun g e => hf.block g (h.own.lt g e).2 (hg g e).1 (hg g e).2, h.ne⟩
theorem SumsAt.below {w w' : World} {base X n : Nat} {v : Value} {xs : List Value} (h : SumsAt w base X v n xs) (hb : Below w.heap.size w w') : SumsAt w' base X v n xs :=
  ⟨h.blk.keep hb, h.hX, own_below h.own hb, h.ne⟩

theorem newsums_any (w : World) : Calls Try.prog 33 #[] w fun en w' => en = .returned (.pointer (some ⟨w.heap.size, 0, none⟩)) ∧ SumsAt w' w.heap.size w.heap.size (.slice none 0 0) 0 [] ∧ Below w.heap.size w w' ∧ w'.heap.size = w.heap.size + 1 := by
  go_enter Try.func33, Try.ntmps33
  go_wp2_with fail
  go_ret
  exact ⟨rfl, ⟨Reg.Blk.new _ _ _, Nat.le_refl _, World.ownsRow_nil _ _ _ _, by simp [Value.ownBlock]⟩, (Below.refl _ _).alloc (Nat.le_refl _) _, by simp⟩

theorem sadd_nil (b : Nat) (w : World) : Calls Try.prog 34 #[.pointer none, .float .f64 b] w fun en w' => en = .returned (.int .i64 50) ∧ w = w' := by
  go_enter Try.func34, Try.ntmps34
  go_wp2_with fail
  go_ret
  exact ⟨rfl, rfl⟩
theorem stotal_nil (w : World) : Calls Try.prog 35 #[.pointer none] w fun en w' => en = .returned (.float .f64 0) ∧ w = w' := by
  go_enter Try.func35, Try.ntmps35
  go_wp2_with fail
  go_ret
  exact ⟨rfl, rfl⟩
theorem scount_nil (w : World) : Calls Try.prog 36 #[.pointer none] w fun en w' => en = .returned (.int .i64 0) ∧ w = w' := by
  go_enter Try.func36, Try.ntmps36
  go_wp2_with fail
  go_ret
  exact ⟨rfl, rfl⟩

set_option maxHeartbeats 1000000 in
theorem scount_any (base X n : Nat) (y : Nat → Nat) (v : Value) (w : World) (h : SumsAt w base X v n (nums y n)) : Calls Try.prog 36 #[.pointer (some ⟨X, 0, none⟩)] w fun en w' => en = .returned (.int .i64 n) ∧ w = w' := by
  obtain ⟨B, c, rfl, hc, hf⟩ := flat_cap h.own
  have q : w.cell? ⟨X, 0, none⟩ = some (.slice B n c) := h.blk.cell 0
  clear h hf
  go_enter Try.func36, Try.ntmps36
  go_wp2_with fail
  go_ret
  exact ⟨rfl, rfl⟩
set_option maxHeartbeats 1000000 in
theorem stotal_any (base X n : Nat) (y : Nat → Nat) (v : Value) (w : World) (h : SumsAt w base X v n (nums y n)) (hn : n ≤ 65536) (hy : ∀ j, j < n → y j < 2 ^ 64) : Calls Try.prog 35 #[.pointer (some ⟨X, 0, none⟩)] w fun en w' => en = .returned (.float .f64 (exactV y n)) ∧ Below w.heap.size w w' := by
  obtain ⟨B, c, rfl, hc, hf⟩ := flat_cap h.own
  have q : w.cell? ⟨X, 0, none⟩ = some (.slice B n c) := h.blk.cell 0
  have HE := Lib.hid (exact_any n c B y w hf hn hy)
  generalize exactV y n = V at *
  clear h hf hy
  go_enter Try.func35, Try.ntmps35
  go_wp2_with fail
  refine HE.out.mono ?_
  rintro en w2 ⟨rfl, hb⟩
  have HB := Lib.hid hb
  clear hb
  go_wp2_with fail
  go_ret
  exact ⟨rfl, HB.out⟩
set_option maxHeartbeats 1000000 in
theorem sadd_any (base X n b : Nat) (xs : List Value) (v : Value) (w : World) (h : SumsAt w base X v n xs) (hn : n < 65536) (hb : base ≤ w.heap.size) :
    Calls Try.prog 34 #[.pointer (some ⟨X, 0, none⟩), .float .f64 b] w fun en w' => en = .returned (.int .i64 0) ∧ ∃ v', SumsAt w' base X v' (n + 1) (xs ++ [.float .f64 b]) ∧ (v'.ownBlock = v.ownBlock ∨ ∃ g, v'.ownBlock = some g ∧ w.heap.size ≤ g) ∧ Frm w w' X v.ownBlock := by
  obtain ⟨j0, hj0, hy0, hy1, hy2⟩ := info_parts infoNum
  have J0 := Lib.hid hj0; have J1 := Lib.hid hy0; have J2 := Lib.hid hy1; have J3 := Lib.hid hy2
  clear hj0 hy0 hy1 hy2
  obtain ⟨B, c, rfl⟩ : ∃ B c, v = .slice B n c := by
    rcases h.own.2 with ⟨h1, h2⟩ | ⟨g, cap, cur, h1, _⟩
    · subst h2; exact ⟨none, 0, h1⟩
    · exact ⟨_, _, h1⟩
  have q : w.cell? ⟨X, 0, none⟩ = some (.slice B n c) := h.blk.cell 0
  have hXl := h.blk.lt
  have H := Lib.hid h
  have hn1 : ¬ (n : Int) ≥ 65536 := by omega
  have hn2 : ¬ 65536 ≤ (n : Int) := by omega
  clear h
  go_enter Try.func34, Try.ntmps34
  go_wp2_with (at_builtin
               refine wpList_append_lies _ rfl _ _ _ rfl base 24 j0 _ 1 8 Try.underlying22 J0.out J1.out J2.out J3.out rfl (by omega) (.slice B n c) n xs rfl (H.out.own.alloc _) ⟨w.heap.size, 0, none⟩ 1 1 [.float .f64 b] rfl rfl (World.news_of_block (heap_alloc_new _ _)) (by simp [Value.oneCell']) (by omega) (by unfold maxLen; omega) (by omega) (by simp; omega) (w.heap.size + 1) (by simp) ?_
               intro g' c' w1 hown1 hgrow hat hlt
               have hx1 : Reg.Blk w1 X #[.slice B n c] 96 := (hgrow.block X (by simp; omega) (Ne.symm H.out.ne)).trans (H.out.blk.old _)
               have q1 : w1.cell? ⟨X, 0, none⟩ = some (.slice B n c) := hx1.cell 0
               have q2 : w1.frozen? ⟨X, 0, none⟩ = false := hx1.free 0
               have ORN := Lib.hid hown1
               have HGR := Lib.hid hgrow
               have HAT := Lib.hid hat
               have HX1 := Lib.hid hx1
               clear hown1 hgrow hat hx1)
  go_ret
  have hne : g' ≠ X := by
    rcases HAT.out with e | e
    · exact fun e2 => H.out.ne (by rw [e, e2])
    · omega
  have hse : ∀ k, k ≠ X → (w1.setCell ⟨X, 0, none⟩ (.slice (some ⟨g', 0, none⟩) (n + 1) c')).heap[k]? = w1.heap[k]? := fun k hk => Below.heap_setCell _ _ _ _ hk
  refine ⟨rfl, _, ⟨HX1.out.set 0 _, H.out.hX, own_same ORN.out fun g e => hse g ?_, ?_⟩, ?_, ?_⟩
  · have : g' = g := by simpa [Value.ownBlock] using e
    omega
  · intro e; exact hne (by simpa [Value.ownBlock] using e)
  · rcases HAT.out with e | e
    · exact .inl (by rw [e]; rfl)
    · exact .inr ⟨g', rfl, by omega⟩
  · refine ⟨HGR.out.os, HGR.out.tape, HGR.out.output, ?_, fun k hk hkx hkr => ?_⟩
    · have := HGR.out.size
      have e2 : (w.alloc (.cells #[.float .f64 b] 24)).heap.size = w.heap.size + 1 := by simp
      rw [e2] at this
      simp [World.setCell]; omega
    · rw [hse k hkx, HGR.out.block k (by simp; omega) hkr]
      exact Below.heap_alloc _ _ _ hk
end Go.Proofs.Ytjakjnmfndfehaa

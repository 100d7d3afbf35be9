/- Rows of places made by append; a region that draws its order, where two new rows are made. No condition. -/
import Derived.Test.YtjakjnmfndfehaaZc
import Derived.Test.YtjakjnmfndfehaaRq
namespace Go.Reg
open Go Go.RowKit
set_option linter.unusedVariables false
section
variable {P : Program} {ops : Array Oper} {Q : Exit → Act → World → Prop} {md : Region.Mode}
/-- An operation that gives a value, and what stands behind it. -/
def Ends (P : Program) (o : Oper) (a : Act) (w : World) (K : Act → World → Prop) : Prop := o.guard = none ∧ ∃ u w1, (execOp a.eval o).run P w = .ok (.value u) w1 ∧ K (a.put o.dst u) w1
theorem Ends.wpOp {i : Nat} {o : Oper} {a : Act} {w : World} {K : Act → World → Prop} (hi : ops[i]? = some o) (h : Ends P o a w K) : wpOp P ops Q i K a w := by
  obtain ⟨hg, u, w1, h1, h2⟩ := h
  unfold Go.wpOp
  simp only [hi]
  rw [if_pos (by unfold Region.wanted; rw [hg])]
  refine .inl ?_
  unfold Oper.wp
  rw [h1]
  exact h2
theorem held_mono {S : World → Prop} {L L' : Act → Prop} (h : ∀ a, L a → L' a) : ∀ (l : List Oper) (a : Act), held P ops S L l a → held P ops S L' l a
  | [], a, h1 => h a h1
  | o :: r, a, ⟨v, h1, h2⟩ => ⟨v, h1, held_mono h r _ h2⟩
/-- The operations ps taken first. -/
def psB (md : Region.Mode) (ops : Array Oper) : List Nat → Array Bool → Bool
  | [], _ => true
  | i :: r, listed => (Region.ready md ops listed).contains i && Region.free md ops listed i && psB md ops r (listed.setIfInBounds i true)
def psL : List Nat → Array Bool → Array Bool
  | [], listed => listed
  | i :: r, listed => psL r (listed.setIfInBounds i true)
theorem any_ps {l : List Oper} {k : Nat} (ho : ops = l.toArray) (hs : Region.noSelect ops = true) (hQ : ∀ c a d v w, Q (.panic c) (a.put d v) w → Q (.panic c) a w) (w : World) :
    ∀ (ps : List Nat), (∀ i ∈ ps, i < ops.size) → ∀ (listed : Array Bool) (a : Act), psB md ops ps listed = true →
      held P ops (fun _ => True) (fun a' => wpAnyH P md ops Q (fun _ => True) k (psL ps listed) a' w) (pick l ps) a → wpAnyH P md ops Q (fun _ => True) (ps.length + k) listed a w
  | [], _, listed, a, _, h => by rw [show ([] : List Nat).length + k = k by simp]; exact h
  | i :: ps, h1, listed, a, hB, h => by
    simp only [psB, Bool.and_eq_true] at hB
    have hi := h1 i List.mem_cons_self
    have e : pick l (i :: ps) = ops[i] :: pick l ps := by subst ho; exact pick_cons hi
    rw [e] at h
    obtain ⟨v, hy, hk⟩ := h
    rw [show (i :: ps).length + k = ps.length + k + 1 by simp; omega]
    exact wpAnyH_take (Array.getElem?_eq_getElem hi) hs hB.1.2 hB.1.1 (fun c a w => hQ c a _ _ w) hy trivial
      (any_ps ho hs hQ w ps (fun k hk => h1 k (List.mem_cons_of_mem _ hk)) _ _ hB.2 hk)
def hdB (md : Region.Mode) (ops : Array Oper) (hd : List Nat) (listed : Array Bool) : Bool := permB md ops (hd.map (fun i => (i, false))) listed
/-- x ahead of y, z wherever. -/
def threeB (md : Region.Mode) (ops : Array Oper) (x y z : Nat) (hd : List Nat) (L : Array Bool) : Bool :=
  decide (Region.ready md ops L = [x, z]) && decide (Region.ready md ops (L.setIfInBounds x true) = [y, z]) && decide (Region.ready md ops ((L.setIfInBounds x true).setIfInBounds y true) = [z]) &&
  decide (Region.ready md ops ((L.setIfInBounds x true).setIfInBounds z true) = [y]) && decide (Region.ready md ops (L.setIfInBounds z true) = [x]) && decide (Region.ready md ops ((L.setIfInBounds z true).setIfInBounds x true) = [y]) &&
  hdB md ops hd (((L.setIfInBounds x true).setIfInBounds y true).setIfInBounds z true) && hdB md ops hd (((L.setIfInBounds x true).setIfInBounds z true).setIfInBounds y true) && hdB md ops hd (((L.setIfInBounds z true).setIfInBounds x true).setIfInBounds y true)
def Three (P : Program) (ops : Array Oper) (Q : Exit → Act → World → Prop) (l : List Oper) (hd : List Nat) (ox oy oz : Oper) (a : Act) (w : World) : Prop :=
  (Ends P ox a w fun a1 w1 => (Ends P oy a1 w1 fun a2 w2 => Ends P oz a2 w2 fun a3 w3 => wpList P ops Q (pick l hd) a3 w3) ∧ (Ends P oz a1 w1 fun a2 w2 => Ends P oy a2 w2 fun a3 w3 => wpList P ops Q (pick l hd) a3 w3)) ∧
  (Ends P oz a w fun a1 w1 => Ends P ox a1 w1 fun a2 w2 => Ends P oy a2 w2 fun a3 w3 => wpList P ops Q (pick l hd) a3 w3)
theorem Ends.mono {o : Oper} {a : Act} {w : World} {K K' : Act → World → Prop} (h : Ends P o a w K) (hk : ∀ a w, K a w → K' a w) : Ends P o a w K' := by
  obtain ⟨hg, u, w1, h1, h2⟩ := h
  exact ⟨hg, u, w1, h1, hk _ _ h2⟩
theorem any_three {l : List Oper} (ho : ops = l.toArray) (hs : Region.noSelect ops = true) (hQ : ∀ c a d v w, Q (.panic c) (a.put d v) w → Q (.panic c) a w) {x y z : Nat} {hd : List Nat} (hlt : ∀ i ∈ hd, i < ops.size)
    {ox oy oz : Oper} (hx : ops[x]? = some ox) (hy : ops[y]? = some oy) (hz : ops[z]? = some oz) (L : Array Bool) (a : Act) (w : World) (hB : threeB md ops x y z hd L = true) (h : Three P ops Q l hd ox oy oz a w) :
    wpAnyH P md ops Q (fun _ => True) (hd.length + 1 + 1 + 1) L a w := by
  simp only [threeB, Bool.and_eq_true, decide_eq_true_eq] at hB
  obtain ⟨⟨⟨⟨⟨⟨⟨⟨b1, b2⟩, b3⟩, b4⟩, b5⟩, b6⟩, b7⟩, b8⟩, b9⟩ := hB
  have T : ∀ (L' : Array Bool) (a' : Act) (w' : World), hdB md ops hd L' = true → wpList P ops Q (pick l hd) a' w' → wpAnyH P md ops Q (fun _ => True) hd.length L' a' w' := fun L' a' w' hL hT => by
    have := any_of_perm (P := P) (Q := Q) (md := md) ho hs hQ [] hd (by simp) hlt L' a' w' (by simpa [hdB] using hL) (show held P ops (fun _ => True) (fun a'' => wpList P ops Q (pick l hd) a'' w') (pick l []) a' from hT)
    simpa using this
  refine wpAnyH_all b1 (by simp) fun j hj => ?_
  simp only [List.mem_cons, List.not_mem_nil, or_false] at hj
  rcases hj with rfl | rfl
  · refine Ends.wpOp hx (h.1.mono fun a1 w1 h1 => ⟨trivial, ?_⟩)
    refine wpAnyH_all b2 (by simp) fun j2 hj => ?_
    simp only [List.mem_cons, List.not_mem_nil, or_false] at hj
    rcases hj with rfl | rfl
    · refine Ends.wpOp hy (h1.1.mono fun a2 w2 h2 => ⟨trivial, ?_⟩)
      refine wpAnyH_all b3 (by simp) fun j3 hj => ?_
      obtain rfl : j3 = z := by simpa using hj
      exact Ends.wpOp hz (h2.mono fun a3 w3 h3 => ⟨trivial, T _ _ _ b7 h3⟩)
    · refine Ends.wpOp hz (h1.2.mono fun a2 w2 h2 => ⟨trivial, ?_⟩)
      refine wpAnyH_all b4 (by simp) fun j3 hj => ?_
      obtain rfl : j3 = y := by simpa using hj
      exact Ends.wpOp hy (h2.mono fun a3 w3 h3 => ⟨trivial, T _ _ _ b8 h3⟩)
  · refine Ends.wpOp hz (h.2.mono fun a1 w1 h1 => ⟨trivial, ?_⟩)
    refine wpAnyH_all b5 (by simp) fun j2 hj => ?_
    obtain rfl : j2 = x := by simpa using hj
    refine Ends.wpOp hx (h1.mono fun a2 w2 h2 => ⟨trivial, ?_⟩)
    refine wpAnyH_all b6 (by simp) fun j3 hj => ?_
    obtain rfl : j3 = y := by simpa using hj
    exact Ends.wpOp hy (h2.mono fun a3 w3 h3 => ⟨trivial, T _ _ _ b9 h3⟩)
def allB (ops : Array Oper) (ps hd : List Nat) (x y z : Nat) : Bool :=
  Region.noSelect ops && ps.all (fun i => decide (i < ops.size)) && hd.all (fun i => decide (i < ops.size)) && decide (ps.length + (hd.length + 1 + 1 + 1) = ops.size) && psB .any ops ps (Array.replicate ops.size false) && threeB .any ops x y z hd (psL ps (Array.replicate ops.size false))
/-- ps: the operations that are taken first; x ahead of y, z wherever; hd: the rest, in their order. -/
theorem wp_region_three {id : Nat} {a : Act} {w : World} {l : List Oper} (ps hd : List Nat) (x y z : Nat) (ox oy oz : Oper) (hm : P.follows .mixedOrders = true) (hB : allB l.toArray ps hd x y z = true)
    (hx : l[x]? = some ox) (hy : l[y]? = some oy) (hz : l[z]? = some oz)
    (hQ : ∀ c a d v w, Q (.panic c) (a.put d v) w → Q (.panic c) a w)
    (h : Held P l.toArray (fun _ => True) (fun a' => Three P l.toArray Q l hd ox oy oz a' w.drew) (pick l ps) a) : (Code.region id l.toArray true).wp P Q a w := by
  simp only [allB, Bool.and_eq_true, decide_eq_true_eq, List.all_eq_true] at hB
  obtain ⟨⟨⟨⟨⟨h1, h2⟩, h3⟩, h4⟩, h5⟩, h6⟩ := hB
  refine wp_region_any hm ?_
  have H := wpAny_of_held _ _ _ _ (any_ps (P := P) (Q := Q) (md := .any) (k := hd.length + 1 + 1 + 1) rfl h1 hQ w.drew ps h2 _ a h5 (held_mono (fun a' h' => any_three rfl h1 hQ h3 (by simpa using hx) (by simpa using hy) (by simpa using hz) _ a' w.drew h6 h') _ _ h.out))
  rwa [h4] at H
end
end Go.Reg
namespace Go.Proofs.Ytjakjnmfndfehaa
open Go.RowKit Go.Pst
set_option maxRecDepth 20000
set_option linter.unusedSimpArgs false
set_option linter.unusedVariables false
/-- A row of places. -/
def ints (f : Nat → Nat) (j : Nat) : List Value := (List.range j).map fun k => .int .i64 (f k : Nat)
theorem ints_get (f : Nat → Nat) {j i : Nat} (h : i < j) : (ints f j)[i]? = some (.int .i64 (f i : Nat)) := by
  unfold ints; rw [List.getElem?_map, List.getElem?_range h]; rfl
theorem ints_len (y : Nat → Nat) (n : Nat) : (ints y n).length = n := by unfold ints; simp
theorem ints_one (y : Nat → Nat) (n : Nat) : ∀ u ∈ ints y n, u.oneCell' = true := by
  intro u hu
  unfold ints at hu
  obtain ⟨k, _, rfl⟩ := List.mem_map.1 hu
  rfl
theorem ints_add (f : Nat → Nat) (a : Nat) : ∀ b, ints f a ++ ints (fun i => f (a + i)) b = ints f (a + b)
  | 0 => by simp [ints]
  | b + 1 => by
    have h1 : ∀ (g : Nat → Nat) (k : Nat), ints g (k + 1) = ints g k ++ [.int .i64 (g k : Nat)] := fun g k => by unfold ints; rw [List.range_succ, List.map_append]; rfl
    rw [show a + (b + 1) = a + b + 1 by omega, h1, h1, ← List.append_assoc, ints_add f a b]
theorem ints_congr {f g : Nat → Nat} (n : Nat) (h : ∀ i, i < n → f i = g i) : ints f n = ints g n := by
  unfold ints
  exact List.map_congr_left fun i hi => by rw [h i (List.mem_range.1 hi)]
theorem ints_join (y h : Nat → Nat) (n m : Nat) : ints y n ++ ints h m = ints (joinR y n h) (n + m) := by
  rw [← ints_add (joinR y n h) n m]
  congr 1
  · exact ints_congr n fun i hi => by unfold joinR; rw [if_pos hi]
  · exact ints_congr m fun i hi => by unfold joinR; rw [if_neg (by omega), Nat.add_sub_cancel_left]
theorem infoInt : (Try.prog.info? 3).map (fun i => (i.zero, i.size, i.bytes)) = some (some (.int .i64 0), 1, 8) := by kernel_rfl
/-- A list of places as the memory has it. -/
def IntAt (w : World) (B : Nat) (A : Option Addr) (n : Nat) (f : Nat → Nat) : Prop :=
  0 < n → ∃ b off, A = some ⟨b, off, none⟩ ∧ b < B ∧ ∀ i, i < n → w.cell? ⟨b, off + i, none⟩ = some (.int .i64 (f i : Nat))
theorem IntAt.below {w w' : World} {B B' : Nat} {A : Option Addr} {n : Nat} {f : Nat → Nat} (h : IntAt w B A n f) (hb : Below B' w w') (hB : B ≤ B') : IntAt w' B A n f := fun hn => by
  obtain ⟨b, off, h1, h2, h3⟩ := h hn
  exact ⟨b, off, h1, h2, fun i hi => by rw [hb.cell (show b < B' by omega)]; exact h3 i hi⟩
theorem IntAt.grown {w w' : World} {B : Nat} {A : Option Addr} {n : Nat} {f : Nat → Nat} {k : Option Nat} (h : IntAt w B A n f) (hg : w.grownBy w' k) (hB : B ≤ w.heap.size) (hne : ∀ b off, A = some ⟨b, off, none⟩ → some b ≠ k) : IntAt w' B A n f := fun hn => by
  obtain ⟨b, off, h1, h2, h3⟩ := h hn
  exact ⟨b, off, h1, h2, fun i hi => by
    rw [World.cell?_of_block (w := w) (hg.block b (by omega) (hne b off h1))]
    exact h3 i hi⟩
theorem run_append_ints (w : World) (base : Nat) (v : Value) (n : Nat) (y : Nat → Nat) (hown : w.ownsRow base 3 1 v n (ints y n)) (A : Option Addr) (m c B : Nat) (h : Nat → Nat) (hA : IntAt w B A m h)
    (hsz : n + m ≤ 17592186044416) (hbase : base ≤ w.heap.size) :
    ∃ v' w', (Builtin.append_ #[78, 78] 78 #[v, .slice A m c]).run Try.prog w = .ok v' w' ∧ w'.ownsRow base 3 1 v' (n + m) (ints (joinR y n h) (n + m)) ∧ w.grownBy w' v.ownBlock := by
  obtain ⟨j0, hj0, hy0, hy1, hy2⟩ := info_parts infoInt
  rcases A with _ | ⟨b, off, sp⟩
  · have hm : m = 0 := by
      rcases Nat.eq_zero_or_pos m with e | e
      · exact e
      · obtain ⟨_, _, e, _⟩ := hA e; cases e
    subst hm
    rcases hown.2 with ⟨rfl, rfl⟩ | ⟨g, cap, cur, rfl, hb, hg, hnc, hcm, hcs, htake⟩
    · refine ⟨.slice none 0 0, w, ?_, World.ownsRow_nil w base _ 1, ⟨rfl, rfl, rfl, Nat.le_refl _, fun _ _ _ => rfl⟩⟩
      simp [Builtin.append_, run_underlying (P := Try.prog) Try.underlying78, run_underlying (P := Try.prog) Try.underlying3, sizeOf, typeInfo, hj0, hy1, Builtin.lenOf, Builtin.firstCells, loadCells, loadCellsFrom]
    · refine ⟨.slice (some ⟨g, 0, none⟩) n cap, w, ?_, ?_, ⟨rfl, rfl, rfl, Nat.le_refl _, fun _ _ _ => rfl⟩⟩
      · simp [Builtin.append_, run_underlying (P := Try.prog) Try.underlying78, run_underlying (P := Try.prog) Try.underlying3, sizeOf, typeInfo, hj0, hy1, Builtin.lenOf, Builtin.firstCells, loadCells, loadCellsFrom, hnc, storeCells]
      · have e : ints (joinR y n h) (n + 0) = ints y n := by rw [← ints_join]; simp [ints]
        rw [e]; exact hown
  · have hcl : ∀ j u, (ints h m)[j]? = some u → w.cell? ((⟨b, off, sp⟩ : Addr).add j) = some u := fun j u hu => by
      have hj : j < m := by
        have := (List.getElem?_eq_some_iff.1 hu).1
        rwa [ints_len] at this
      obtain ⟨b', off', e, _, hc⟩ := hA (by omega)
      cases e
      rw [ints_get h hj] at hu
      have ha : ((⟨b, off, none⟩ : Addr).add j) = ⟨b, off + j, none⟩ := by unfold Addr.add; split <;> simp_all
      rw [ha, hc j hj]; exact hu
    obtain ⟨v', w', h1, h2, h3, _⟩ := run_append_own_at (P := Try.prog) w base 78 78 3 j0 _ 1 8 Try.underlying78 hj0 hy0 hy1 hy2 rfl (by omega) v n _ hown ⟨b, off, sp⟩ m c (ints h m) (by rw [ints_len]; omega) hcl (ints_one h m) (by unfold maxLen; omega) (by omega) hbase
    exact ⟨v', w', h1, by rw [← ints_join]; exact h2, h3⟩
/-- An append to a row of one's own. -/
theorem ends_append {o : Oper} {a : Act} {w : World} {K : Act → World → Prop} (w0 : World) (hgd : o.guard = none) (s x : Operand)
    (ho : o.op = .call { callee := .builtin .append, args := #[s, x], argTypes := #[78, 78] }) (hty : o.type = 78)
    (hbw : Below w0.heap.size w0 w) (v : Value) (n : Nat) (y : Nat → Nat) (hs : a.eval s = v) (hown : w.ownsRow w0.heap.size 3 1 v n (ints y n))
    (A : Option Addr) (m c B : Nat) (h : Nat → Nat) (hx : a.eval x = .slice A m c) (hA : IntAt w B A m h) (hsz : n + m ≤ 17592186044416)
    (hk : ∀ v' w', w'.ownsRow w0.heap.size 3 1 v' (n + m) (ints (joinR y n h) (n + m)) → Below w0.heap.size w0 w' → w.grownBy w' v.ownBlock → K (a.put o.dst v') w') :
    Reg.Ends Try.prog o a w K := by
  obtain ⟨v', w', hr, h2, h3⟩ := run_append_ints w w0.heap.size v n y hown A m c B h hA hsz hbw.size
  refine ⟨hgd, v', w', ?_, hk v' w' h2 (hbw.grown h3 hbw.size (fun q e => (hown.lt q e).1)) h3⟩
  unfold execOp
  simp only [ho, resolve, invoke, builtin, Sem.run_bind, Sem.run_pure, Result.andThen_ok, List.map_toArray, List.map_cons, List.map_nil, hs, hx, hty, hr]
theorem ends_build0 {o : Oper} {a : Act} {w : World} {K : Act → World → Prop} (hgd : o.guard = none) (ho : o.op = .buildSlice 78 0 #[])
    (hk : K (a.put o.dst (.slice (some ⟨w.heap.size, 0, none⟩) 0 0)) (w.alloc (.cells #[] 3))) : Reg.Ends Try.prog o a w K := by
  refine ⟨hgd, _, _, ?_, hk⟩
  unfold execOp
  rw [ho]
  go_simp
theorem ends_build1 {o : Oper} {a : Act} {w : World} {K : Act → World → Prop} (x : Operand) (k : Int) (hgd : o.guard = none) (ho : o.op = .buildSlice 78 1 #[(0, x)]) (hx : a.eval x = .int .i64 k)
    (hk : K (a.put o.dst (.slice (some ⟨w.heap.size, 0, none⟩) 1 1)) (w.alloc (.cells #[.int .i64 k] 3))) : Reg.Ends Try.prog o a w K := by
  refine ⟨hgd, _, _, ?_, hk⟩
  unfold execOp
  rw [ho]
  simp only [List.map_toArray, List.map_cons, List.map_nil, hx]
  go_simp
/-- The same as a list's next operation. -/
theorem ends_list {ops : Array Oper} {Q : Exit → Act → World → Prop} {o : Oper} {rest : List Oper} {a : Act} {w : World} (h : Reg.Ends Try.prog o a w (wpList Try.prog ops Q rest)) : wpList Try.prog ops Q (o :: rest) a w := by
  obtain ⟨hg, u, w1, h1, h2⟩ := h
  refine wpList_plain hg fun K hK => ?_
  unfold Oper.wp
  rw [h1]
  exact hK _ _ h2
theorem int_new (w : World) (b : Nat) : IntAt (w.alloc (.cells #[.int .i64 (b : Int)] 3)) (w.heap.size + 1) (some ⟨w.heap.size, 0, none⟩) 1 (fun _ => b) := fun _ =>
  ⟨w.heap.size, 0, rfl, by omega, fun i hi => by
    obtain rfl : i = 0 := by omega
    exact (Reg.Blk.new w #[.int .i64 (b : Int)] 3).cell 0⟩
theorem int_of {w : World} {base n : Nat} {v : Value} {y : Nat → Nat} (h : w.ownsRow base 3 1 v n (ints y n)) : ∃ B cb, v = .slice B n cb ∧ n ≤ cb ∧ IntAt w w.heap.size B n y := by
  rcases h.2 with ⟨h1, h2⟩ | ⟨g, cap, cur, h1, h2, h3, h4, h5⟩
  · subst h2; exact ⟨none, 0, h1, Nat.le_refl _, fun h => by omega⟩
  · subst h1
    exact ⟨_, _, rfl, h4, fun _ => ⟨g, 0, rfl, (Array.getElem?_eq_some_iff.1 h3).1, fun i hi => by rw [Nat.zero_add]; exact own_cell h (ints_get y hi)⟩⟩
theorem own_mono {w : World} {base base' : Nat} {e : TypeId} {size : Nat} {v : Value} {n : Nat} {xs : List Value} (h : w.ownsRow base e size v n xs) (hb : base' ≤ base) : w.ownsRow base' e size v n xs := by
  refine ⟨h.1, ?_⟩
  rcases h.2 with h2 | ⟨g, cap, cur, h1, h2, h3⟩
  · exact .inl h2
  · exact .inr ⟨g, cap, cur, h1, by omega, h3⟩
end Go.Proofs.Ytjakjnmfndfehaa

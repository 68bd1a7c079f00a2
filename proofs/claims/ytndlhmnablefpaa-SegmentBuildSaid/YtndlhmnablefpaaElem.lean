/- Elements of a row of one's own: read, stored. No program in sight. -/
import Derived.Test.YtndlhmnablefpaaWalk
import Derived.OwnWalk
namespace Go.Proofs.Ytndlhmnablefpaa
open Go.RowKit
theorem splice {β : Type} (A B C D : List β) : (A ++ (B ++ C)).take A.length ++ D ++ (A ++ (B ++ C)).drop (A.length + B.length) = A ++ (D ++ C) := by
  rw [List.take_left, ← List.append_assoc A B C, ← List.length_append, List.drop_left, List.append_assoc]
theorem take_three {β : Type} (X Y Z : List β) (T : Nat) (hT : X.length + Y.length ≤ T) : (X ++ (Y ++ Z)).take T = X ++ (Y ++ Z.take (T - X.length - Y.length)) := by
  rw [List.take_append, List.take_append, List.take_of_length_le (by omega), List.take_of_length_le (by omega)]
theorem splice_take {β : Type} (L V : List β) (o T : Nat) (hT : o + V.length ≤ T) (hL : o + V.length ≤ L.length) :
    (L.take o ++ V ++ L.drop (o + V.length)).take T = (L.take T).take o ++ V ++ (L.take T).drop (o + V.length) := by
  have hx : (L.take o).length = o := by rw [List.length_take]; omega
  have hy : ((L.drop o).take V.length).length = V.length := by rw [List.length_take, List.length_drop]; omega
  have h1 : L = L.take o ++ ((L.drop o).take V.length ++ L.drop (o + V.length)) := by
    rw [← List.drop_drop, List.take_append_drop, List.take_append_drop]
  have h2 := take_three (L.take o) ((L.drop o).take V.length) (L.drop (o + V.length)) T (by omega)
  rw [← h1] at h2
  rw [h2, List.append_assoc, take_three _ V _ T (by omega)]
  have h3 := splice (L.take o) ((L.drop o).take V.length) ((L.drop (o + V.length)).take (T - (L.take o).length - ((L.drop o).take V.length).length)) V
  rw [hx, hy] at h3
  rw [hx, hy, h3]
section
variable {α : Type} {d : Kd α} {e : TypeId} {W : World} {base g c : Nat} {xs : List α}
/-- A row of one's own in block g. -/
def Row (d : Kd α) (e : TypeId) (W : World) (base g c : Nat) (xs : List α) : Prop := Own d e W base (.slice (some ⟨g, 0, none⟩) xs.length c) xs
theorem Row.own (h : Row d e W base g c xs) : Own d e W base (.slice (some ⟨g, 0, none⟩) xs.length c) xs := h
theorem Row.heap (h : Row d e W base g c xs) : ∃ cur, W.heap[g]? = some (.cells cur e (0, 0)) ∧ cur.size = c * d.sz ∧ xs.length ≤ c ∧ cur.toList.take (xs.length * d.sz) = xs.flatMap d.cells := by
  rcases h.row.2 with ⟨h1, _⟩ | ⟨g', cap, cur, hv, _, hh, hle, _, hcs, htake⟩
  · simp at h1
  · simp only [Value.slice.injEq, Option.some.injEq, Addr.mk.injEq, and_true, true_and] at hv
    obtain ⟨rfl, rfl⟩ := hv
    exact ⟨cur, hh, hcs, hle, htake⟩
theorem Row.lt (h : Row d e W base g c xs) : base ≤ g ∧ g < W.heap.size := h.own.base_le g rfl
theorem Row.below {W' : World} (h : Row d e W base g c xs) (hb : Below W.heap.size W W') : Row d e W' base g c xs := h.own.below hb
/-- Element i's cells. -/
theorem Row.cell (h : Row d e W base g c xs) (i : Nat) (hi : i < xs.length) (j : Nat) (u : Value) (hu : (d.cells xs[i])[j]? = some u) : W.cell? ⟨g, i * d.sz + j, none⟩ = some u := by
  have := h.own.row.cells (g := g) rfl (i * d.sz + j) u (getElem_cells d xs i j _ u (List.getElem?_eq_getElem hi) hu)
  rwa [Addr.add_lit, Nat.zero_add] at this
/-- The cells of a list in which one element is another. -/
theorem cells_set (i : Nat) (y : α) (hi : i < xs.length) : (xs.set i y).flatMap d.cells = (xs.flatMap d.cells).take (i * d.sz) ++ d.cells y ++ (xs.flatMap d.cells).drop ((i + 1) * d.sz) := by
  have h1 : xs = xs.take i ++ xs[i] :: xs.drop (i + 1) := by rw [List.getElem_cons_drop, List.take_append_drop]
  have hl : ((xs.take i).flatMap d.cells).length = i * d.sz := by rw [length_cells, List.length_take, Nat.min_eq_left (by omega)]
  rw [List.set_eq_take_append_cons_drop, if_pos hi, List.flatMap_append, List.flatMap_cons]
  have h2 : xs.flatMap d.cells = (xs.take i).flatMap d.cells ++ (d.cells xs[i] ++ (xs.drop (i + 1)).flatMap d.cells) := by
    conv => lhs; rw [h1]
    rw [List.flatMap_append, List.flatMap_cons]
  have h3 := splice ((xs.take i).flatMap d.cells) (d.cells xs[i]) ((xs.drop (i + 1)).flatMap d.cells) (d.cells y)
  rw [hl, d.hsz] at h3
  rw [h2, ← h3, show (i + 1) * d.sz = i * d.sz + d.sz by rw [Nat.add_mul, Nat.one_mul]]
/-- An element is written. -/
theorem Row.set (h : Row d e W base g c xs) (i : Nat) (hi : i < xs.length) (z : α) (hz : d.inv W z) (hza : ∀ k, k ∈ d.foot z → k ≠ g) (cur : Array Value) (hc : W.heap[g]? = some (.cells cur e (0, 0))) :
    Row d e (W.setRow g (cur.toList.take (i * d.sz) ++ d.cells z ++ cur.toList.drop (i * d.sz + (d.cells z).length)).toArray) base g c (xs.set i z) ∧
    Gr W (W.setRow g (cur.toList.take (i * d.sz) ++ d.cells z ++ cur.toList.drop (i * d.sz + (d.cells z).length)).toArray) (some g) (some g) := by
  obtain ⟨cur', hh, hcs, hle, htake⟩ := h.heap
  obtain rfl : cur' = cur := by rw [hh] at hc; injection hc with hc; injection hc
  have hgr : W.grownBy (W.setRow g (cur'.toList.take (i * d.sz) ++ d.cells z ++ cur'.toList.drop (i * d.sz + (d.cells z).length)).toArray) (some g) := ⟨rfl, rfl, rfl, by simp, fun k _ hk => setRow_other W g k _ (fun e => hk (by simp [e]))⟩
  have hmul : (i + 1) * d.sz ≤ c * d.sz := Nat.mul_le_mul_right _ (by omega)
  have hmul2 : (i + 1) * d.sz ≤ xs.length * d.sz := Nat.mul_le_mul_right _ (by omega)
  have hmx : c ≤ maxLen := by
    rcases h.row.2 with ⟨h1, _⟩ | ⟨g', cap, cur, hv, _, _, _, hm, _⟩
    · simp at h1
    · simp only [Value.slice.injEq, Option.some.injEq, Addr.mk.injEq, and_true, true_and] at hv
      rw [hv.2]; exact hm
  rw [Nat.add_mul, Nat.one_mul] at hmul hmul2
  refine ⟨⟨⟨length_cells d _, .inr ⟨g, c, _, rfl, h.lt.1, setRow_heap W g cur' _ e _ hh, by rw [List.length_set]; exact hle, hmx, ?_, ?_⟩⟩, fun y hy => ?_, fun y hy k hk => ?_⟩, ⟨hgr, .inl rfl⟩⟩
  · simp only [List.size_toArray, List.length_append, List.length_take, List.length_drop, Array.length_toList, d.hsz]
    omega
  · rw [cells_set i z hi, ← htake, List.length_set, show (i + 1) * d.sz = i * d.sz + (d.cells z).length by rw [Nat.add_mul, Nat.one_mul, d.hsz]]
    exact splice_take _ _ _ _ (by rw [d.hsz]; omega) (by rw [d.hsz, Array.length_toList]; omega)
  · rcases List.mem_or_eq_of_mem_set hy with hy | rfl
    · exact d.grown (h.own.inv y hy) hgr fun k hk he => h.own.apart y hy k hk (by simp [Value.ownBlock]; exact (Option.some.inj he).symm)
    · exact d.grown hz hgr fun k hk he => hza k hk (Option.some.inj he)
  · rcases List.mem_or_eq_of_mem_set hy with hy | rfl
    · exact h.own.apart y hy k hk
    · simp only [Value.ownBlock]; intro he; exact hza k hk (Option.some.inj he).symm
end
section
variable {P : Program} {ops : Array Oper} {rest : List Oper} {o : Oper} {a : Act} {Q : Exit → Act → World → Prop} {K : Act → World → Prop} {α : Type}
theorem wp_store_elem (d : Kd α) {e ty : TypeId} {W : World} {base g c : Nat} {xs : List α} (h : Row d e W base g c xs) (x y : Operand) (ho : o.op = .store ty x y) (i : Nat) (hx : a.eval x = .pointer (some ⟨g, i * d.sz, none⟩)) (z : α) (hy : a.eval y = .agg (d.cells z).toArray)
    (hi : (P.info? ty).map (·.size) = some d.sz) (hil : i < xs.length) (hz : d.inv W z) (hza : ∀ k, k ∈ d.foot z → k ≠ g)
    (hK : ∀ w1, Row d e w1 base g c (xs.set i z) → Gr W w1 (some g) (some g) → K (a.put o.dst undef) w1) : o.wp P a W K Q := by
  obtain ⟨cur, hh, hcs, hle, _⟩ := h.heap
  have hmul : (i + 1) * d.sz ≤ c * d.sz := Nat.mul_le_mul_right _ (by omega)
  rw [Nat.add_mul, Nat.one_mul] at hmul
  have hst := run_storeCells_at P g (i * d.sz) e (d.cells z) 0 cur W hh (by rw [d.hsz]; omega) (fun v hv => d.one z v hv)
  simp only [Nat.add_zero] at hst
  obtain ⟨h1, h2⟩ := h.set i hil z hz hza cur hh
  have hrun : (storeVar ty ⟨g, i * d.sz, none⟩ (.agg (d.cells z).toArray)).run P W = .ok () (W.setRow g (cur.toList.take (i * d.sz) ++ d.cells z ++ cur.toList.drop (i * d.sz + (d.cells z).length)).toArray) := by
    cases hq : P.info? ty with
    | none => simp [hq] at hi
    | some t =>
      have hs : (d.cells z).length = t.size := by simp [hq] at hi; rw [d.hsz]; exact hi.symm
      simp [storeVar, sizeOf, typeInfo, hq, Value.cells, hs, hst]
  unfold Oper.wp execOp
  simp only [ho, hx, hy, Instr.storeAt, Instr.sureAddr, Sem.run_bind, Sem.run_pure, Result.andThen_ok, hrun]
  exact hK _ h1 h2
end
end Go.Proofs.Ytndlhmnablefpaa
/-! One cell of an element of a row of one's own is stored. No program in sight. -/
namespace Go.Proofs.Ytndlhmnablefpaa
open Go.RowKit
theorem splice_cell {β : Type} (A B C : List β) (j : Nat) (u : β) (hj : j < B.length) : (A ++ (B ++ C)).take (A.length + j) ++ [u] ++ (A ++ (B ++ C)).drop (A.length + j + 1) = A ++ (B.set j u ++ C) := by
  have h1 : (A ++ (B ++ C)).take (A.length + j) = A ++ B.take j := by
    rw [List.take_append, List.take_of_length_le (by omega), Nat.add_sub_cancel_left, List.take_append_of_le_length (by omega)]
  have h2 : (A ++ (B ++ C)).drop (A.length + j + 1) = B.drop (j + 1) ++ C := by
    rw [Nat.add_assoc, ← List.drop_drop, List.drop_left, List.drop_append_of_le_length (by omega)]
  rw [h1, h2, List.set_eq_take_append_cons_drop, if_pos hj]
  simp
section
variable {α : Type} {d : Kd α} {e : TypeId} {W : World} {base g c : Nat} {xs : List α}
theorem Row.cells_cut (h : Row d e W base g c xs) {cur : Array Value} (hh : W.heap[g]? = some (.cells cur e (0, 0))) (i j : Nat) (hil : i < xs.length) (hj : j < d.sz) (u : Value) (z : α) (hcz : d.cells z = (d.cells xs[i]).set j u) :
    cur.toList.take (i * d.sz + j) ++ [u] ++ cur.toList.drop (i * d.sz + j + 1) = cur.toList.take (i * d.sz) ++ d.cells z ++ cur.toList.drop (i * d.sz + (d.cells z).length) := by
  obtain ⟨cur', hc', hcs, hle, htake⟩ := h.heap
  obtain rfl : cur' = cur := by rw [hc'] at hh; injection hh with hh; injection hh
  have h1 : xs = xs.take i ++ xs[i] :: xs.drop (i + 1) := by rw [List.getElem_cons_drop, List.take_append_drop]
  have hl : ((xs.take i).flatMap d.cells).length = i * d.sz := by rw [length_cells, List.length_take, Nat.min_eq_left (by omega)]
  have h2 : cur'.toList = (xs.take i).flatMap d.cells ++ (d.cells xs[i] ++ ((xs.drop (i + 1)).flatMap d.cells ++ cur'.toList.drop (xs.length * d.sz))) := by
    conv => lhs; rw [← List.take_append_drop (xs.length * d.sz) cur'.toList, htake]
    conv => lhs; arg 1; rw [h1]
    rw [List.flatMap_append, List.flatMap_cons]
    simp
  rw [h2, ← hl]
  have h3 := splice_cell ((xs.take i).flatMap d.cells) (d.cells xs[i]) ((xs.drop (i + 1)).flatMap d.cells ++ cur'.toList.drop (xs.length * d.sz)) j u (by rw [d.hsz]; exact hj)
  have h4 := splice ((xs.take i).flatMap d.cells) (d.cells xs[i]) ((xs.drop (i + 1)).flatMap d.cells ++ cur'.toList.drop (xs.length * d.sz)) (d.cells z)
  rw [h3, ← hcz]
  rw [d.hsz] at h4 ⊢
  exact h4.symm
/-- One cell of an element is written. -/
theorem Row.field (h : Row d e W base g c xs) (i j : Nat) (hil : i < xs.length) (hj : j < d.sz) (u : Value) (z : α) (hcz : d.cells z = (d.cells xs[i]).set j u) (hz : d.inv W z) (hza : ∀ k, k ∈ d.foot z → k ≠ g) :
    Row d e (W.setCell ⟨g, i * d.sz + j, none⟩ u) base g c (xs.set i z) ∧ Gr W (W.setCell ⟨g, i * d.sz + j, none⟩ u) (some g) (some g) := by
  obtain ⟨cur, hh, hcs, hle, htake⟩ := h.heap
  have hmul : (i + 1) * d.sz ≤ c * d.sz := Nat.mul_le_mul_right _ (by omega)
  rw [Nat.add_mul, Nat.one_mul] at hmul
  have heq := h.cells_cut hh i j hil hj u z hcz
  have hw : W.setCell ⟨g, i * d.sz + j, none⟩ u = W.setRow g (cur.toList.take (i * d.sz) ++ d.cells z ++ cur.toList.drop (i * d.sz + (d.cells z).length)).toArray := by
    rw [← heq]
    have hr := setRow_heap W g cur (cur.toList.take (i * d.sz + j) ++ [u] ++ cur.toList.drop (i * d.sz + j + 1)).toArray e _ hh
    have hs : (W.setCell ⟨g, i * d.sz + j, none⟩ u).heap = (W.setRow g (cur.toList.take (i * d.sz + j) ++ [u] ++ cur.toList.drop (i * d.sz + j + 1)).toArray).heap := by
      refine Array.ext_getElem? fun k => ?_
      by_cases hk : k = g
      · subst hk
        rw [hr]
        simp only [World.setCell, Array.getElem?_modify, hh, if_true, Option.map_some, Option.isSome_none, Bool.false_eq_true, if_false]
        congr 2
        apply Array.ext'
        rw [Array.toList_setIfInBounds, List.set_eq_take_append_cons_drop, if_pos (by rw [Array.length_toList]; omega)]
        simp
      · rw [setRow_other W g k _ hk]
        simp [World.setCell, Array.getElem?_modify, Ne.symm hk]
    unfold World.setCell World.setRow at *
    simp only at hs
    rw [hs]
  rw [hw]
  exact h.set i hil z hz hza cur hh
/-- Nothing of a row of one's own is frozen. -/
theorem Row.frozen (h : Row d e W base g c xs) (k : Nat) : W.frozen? ⟨g, k, none⟩ = false := by
  obtain ⟨cur, hh, _⟩ := h.heap
  simp [World.frozen?, hh]
end
end Go.Proofs.Ytndlhmnablefpaa
/-! make, of a kind's elements. No program in sight. -/
namespace Go.Proofs.Ytndlhmnablefpaa
open Go.RowKit
set_option linter.unusedSimpArgs false
set_option linter.unusedVariables false
/-- What is known of an element type: its zero as a datum, its cells, its bytes. -/
def InfoZ {α : Type} (P : Program) (e : TypeId) (d : Kd α) (zr : α) (bytes : Nat) : Prop := ∃ z : Value, (P.info? e).map (fun i => (i.zero, i.size, i.bytes)) = some (some z, d.sz, bytes) ∧ z.cells = (d.cells zr).toArray
theorem madeCells_rep {α : Type} (d : Kd α) (zr : α) (n : Nat) : madeCells (d.cells zr).toArray (n * d.sz) = ((List.replicate n zr).flatMap d.cells).toArray := by
  have hl : ((List.replicate n zr).flatMap d.cells).length = n * d.sz := by rw [length_cells, List.length_replicate]
  apply Array.ext
  · rw [size_madeCells, List.size_toArray, hl]
  intro i h1 h2
  rw [size_madeCells] at h1
  have hp := d.pos
  have hm : i % d.sz < d.sz := Nat.mod_lt _ hp
  have hq : i / d.sz < n := by rw [Nat.div_lt_iff_lt_mul hp]; exact h1
  have hz : (d.cells zr).length = d.sz := d.hsz zr
  have h3 := getElem_cells d (List.replicate n zr) (i / d.sz) (i % d.sz) zr ((d.cells zr)[i % d.sz]'(by omega)) (by rw [List.getElem?_replicate, if_pos hq]) (List.getElem?_eq_getElem _)
  rw [show i / d.sz * d.sz + i % d.sz = i by rw [Nat.mul_comm]; exact Nat.div_add_mod i d.sz] at h3
  have h4 : ((List.replicate n zr).flatMap d.cells).toArray[i] = (d.cells zr)[i % d.sz]'(by omega) := by
    have h5 := List.getElem?_eq_getElem (l := (List.replicate n zr).flatMap d.cells) (i := i) (by rw [hl]; exact h1)
    rw [h5] at h3
    simpa using Option.some.inj h3
  rw [h4]
  simp only [madeCells, Array.getElem_map, Array.getElem_range, List.size_toArray, hz]
  rw [getElem!_pos _ _ (by simp [hz]; exact hm)]
  simp
section
variable {P : Program} {ops : Array Oper} {rest : List Oper} {o : Oper} {a : Act} {Q : Exit → Act → World → Prop} {α : Type}
theorem list_make (d : Kd α) (zr : α) {W : World} (hgd : o.guard = none) (l c : Operand) (t e : TypeId) (bytes : Nat) (ho : o.op = .makeSlice t l c) (ht : P.underlying t = some (.slice e)) (hinfo : InfoZ P e d zr bytes)
    (n : Nat) (L C : Int) (hl : a.eval l = .int .i64 L) (hc : a.eval c = .int .i64 C) (hL : L = (n : Int)) (hC : C = (n : Int)) (hb : bytes * n ≤ 281474976710656) (hn : n ≤ 9223372036854775807)
    (hK : wpList P ops Q rest (a.put o.dst (.slice (some ⟨W.heap.size, 0, none⟩) n n)) (W.alloc (.cells ((List.replicate n zr).flatMap d.cells).toArray e))) : wpList P ops Q (o :: rest) a W := by
  subst hL hC
  obtain ⟨z, hz, hzc⟩ := hinfo
  obtain ⟨i, hi, hzz⟩ := Option.map_eq_some_iff.1 hz
  simp only [Prod.mk.injEq] at hzz
  obtain ⟨hz0, hz1, hz2⟩ := hzz
  have hb' : (i.bytes : Int) * (n : Int) ≤ 281474976710656 := by
    rw [hz2]
    have h : ((bytes * n : Nat) : Int) ≤ 281474976710656 := by omega
    rwa [Int.natCast_mul] at h
  have hrun := run_make (P := P) W t e i z ht hi hz0 .i64 .i64 n n (by omega) (Int.le_refl _) hb' (by omega)
  simp only [Int.toNat_natCast] at hrun
  rw [hz1, hzc, madeCells_rep] at hrun
  refine wpList_plain hgd fun K hK' => ?_
  unfold Oper.wp
  simp [execOp, ho, hl, hc, hrun, Result.andThen]
  exact hK' _ _ hK
end
/-- A row that was just made is one's own. -/
theorem made_row {α : Type} (d : Kd α) (e : TypeId) {W : World} {base g n : Nat} (xs : List α) (hn : n = xs.length) (hg : W.heap[g]? = some (.cells (xs.flatMap d.cells).toArray e (0, 0))) (hb : base ≤ g) (hm : n ≤ 9223372036854775807) (hi : ∀ x, x ∈ xs → d.inv W x) (ha : ∀ x, x ∈ xs → ∀ k, k ∈ d.foot x → k ≠ g) : Row d e W base g n xs := by
  subst hn
  refine ⟨⟨length_cells d _, .inr ⟨g, xs.length, _, rfl, hb, hg, Nat.le_refl _, by simp only [maxLen]; omega, by rw [List.size_toArray, length_cells], ?_⟩⟩, hi, fun x hx k hk he => ?_⟩
  · show (xs.flatMap d.cells).take _ = _
    exact List.take_of_length_le (by rw [length_cells]; exact Nat.le_refl _)
  · simp only [Value.ownBlock, Option.some.injEq] at he
    exact ha x hx k hk he.symm
end Go.Proofs.Ytndlhmnablefpaa

/- What record's writer does: its buffer, a version, a list of versions; EncodeVersions. -/
import Derived.Test.YtndlhmnablefpaaEnc2
import Derived.Deep.RegionLaw
namespace Go.Proofs.Ytndlhmnablefpaa
open Go.RowKit
/-- The writer in block g has collected xs; its row lies from B on. -/
structure WB (w : World) (g B : Nat) (xs : List UInt8) : Prop where
  out : ∃ v, w.heap[g]? = some (.cells #[v] 107 (0, 0)) ∧ Own kByte 5 w B v xs
/-- What a writer's method leaves: everything but the writer in block g and its row; below B, and where a block is no row of bytes. -/
structure WK (w w' : World) (g B : Nat) : Prop where
  os : w'.os = w.os
  tape : w'.tape = w.tape
  output : w'.output = w.output
  size : w.heap.size ≤ w'.heap.size
  old : ∀ k, k < B → k ≠ g → w'.heap[k]? = w.heap[k]?
  typed : ∀ k cs t fr, w.heap[k]? = some (.cells cs t fr) → t ≠ 5 → k ≠ g → w'.heap[k]? = w.heap[k]?
theorem WK.refl (w : World) (g B : Nat) : WK w w g B := ⟨rfl, rfl, rfl, Nat.le_refl _, fun _ _ _ => rfl, fun _ _ _ _ _ _ _ => rfl⟩
theorem WK.trans {w w1 w2 : World} {g B : Nat} (h : WK w w1 g B) (k : WK w1 w2 g B) : WK w w2 g B :=
  ⟨k.os.trans h.os, k.tape.trans h.tape, k.output.trans h.output, Nat.le_trans h.size k.size, fun i hi hne => (k.old i hi hne).trans (h.old i hi hne),
    fun i cs t fr hc ht hne => (k.typed i cs t fr ((h.typed i cs t fr hc ht hne).trans hc) ht hne).trans (h.typed i cs t fr hc ht hne)⟩
theorem WK.of_below {w w' : World} {g B : Nat} (hB : B ≤ w.heap.size) (h : Below w.heap.size w w') : WK w w' g B :=
  ⟨h.os, h.tape, h.output, h.size, fun i hi _ => h.block i (by omega), fun i cs t fr hc _ _ => h.block i (Array.getElem?_eq_some_iff.1 hc).1⟩
theorem WB.below {w w' : World} {g B : Nat} {xs : List UInt8} (h : WB w g B xs) (hb : Below w.heap.size w w') : WB w' g B xs := by
  obtain ⟨v, hg, ho⟩ := h.out
  exact ⟨v, (hb.block g (Array.getElem?_eq_some_iff.1 hg).1).trans hg, ho.below hb⟩
theorem own_type {α : Type} {d : Kd α} {e t : TypeId} {w : World} {B g : Nat} {v : Value} {xs : List α} {cs : Array Value} {fr : Nat × Nat} (ho : Own d e w B v xs) (hg : w.heap[g]? = some (.cells cs t fr)) (hne : t ≠ e) : some g ≠ v.ownBlock := by
  intro he
  rcases ho.row.2 with ⟨rfl, _⟩ | ⟨g', cap, cur, rfl, _, hh, _⟩
  · simp [Value.ownBlock] at he
  · simp [Value.ownBlock] at he
    subst he
    rw [hh] at hg
    injection hg with hg
    injection hg with _ h2 _
    exact hne h2.symm
/-- The writer's block, behind an append to its row. -/
theorem wb_after {w W : World} {g B : Nat} {v : Value} {r : Option Nat} {xs : List UInt8} (hg : w.heap[g]? = some (.cells #[v] 107 (0, 0))) (ho : Own kByte 5 w B v xs) (hgr : Gr w W v.ownBlock r) : W.heap[g]? = some (.cells #[v] 107 (0, 0)) :=
  (hgr.by'.block g (Array.getElem?_eq_some_iff.1 hg).1 (own_type ho hg (by decide))).trans hg
theorem cell_of_wb {W : World} {g : Nat} {v : Value} (h : W.heap[g]? = some (.cells #[v] 107 (0, 0))) : W.cell? ⟨g, 0, none⟩ = some v ∧ W.frozen? ⟨g, 0, none⟩ = false :=
  ⟨by rw [cell_of_row W g 0 _ _ _ h]; rfl, by simp [World.frozen?, h]⟩
/-- Behind the append and the store. -/
theorem wb_store {w W : World} {g B : Nat} {v v' : Value} {xs ys : List UInt8} (hg : w.heap[g]? = some (.cells #[v] 107 (0, 0))) (ho : Own kByte 5 w B v xs) (hB : B ≤ w.heap.size)
    (hgr : Gr w W v.ownBlock v'.ownBlock) (ho' : Own kByte 5 W B v' ys) :
    WB (W.setCell ⟨g, 0, none⟩ v') g B ys ∧ WK w (W.setCell ⟨g, 0, none⟩ v') g B := by
  have hW := wb_after hg ho hgr
  have hgo := own_type ho' hW (by decide)
  have hk : ∀ k, k ≠ g → (W.setCell ⟨g, 0, none⟩ v').heap[k]? = W.heap[k]? := fun k hk => Below.heap_setCell _ _ _ _ hk
  have hsz : (W.setCell ⟨g, 0, none⟩ v').heap.size = W.heap.size := by simp
  have hset : W.grownBy (W.setCell ⟨g, 0, none⟩ v') (some g) := ⟨rfl, rfl, rfl, by rw [hsz]; exact Nat.le_refl _, fun k _ hne => hk k (fun e => hne (by rw [e]))⟩
  refine ⟨⟨v', ?_, ho'.grown hset (by cases h : v'.ownBlock with | none => exact .inl rfl | some b => exact .inr (by rw [← h]; exact hgo.symm)) (fun x _ k hk => absurd hk (by simp [kByte, Kd.flat]))⟩, ⟨hgr.by'.os, hgr.by'.tape, hgr.by'.output, by rw [hsz]; exact hgr.by'.size, fun k hkB hne => ?_, fun k cs t fr hc ht hne => ?_⟩⟩
  · simp [World.setCell, Array.getElem?_modify, hW]
  · rw [hk k hne]
    exact hgr.by'.block k (by omega) (fun e => by have := (ho.base_le k e.symm).1; omega)
  · rw [hk k hne]
    exact hgr.by'.block k (Array.getElem?_eq_some_iff.1 hc).1 (own_type ho hc ht)
set_option maxRecDepth 100000 in
set_option maxHeartbeats 600000 in
theorem bufInt_any (g B : Nat) (n : Int) (xs : List UInt8) (w : World) (h : WB w g B xs) (hB : B ≤ w.heap.size) (hl : xs.length ≤ 140737488353000) (hn : I64 n) :
    Calls Try.prog 103 #[.pointer (some ⟨g, 0, none⟩), .int .i64 n] w fun e w' => e = .returned (.tuple #[]) ∧ WB w' g B (xs ++ encInt n) ∧ WK w w' g B := by
  obtain ⟨v, hg, ho⟩ := h.out
  obtain ⟨A, c, rfl⟩ := ho.form
  have HO := Lib.hid ho
  have HG := Lib.hid hg
  have hc : w.cell? ⟨g, 0, none⟩ = some (.slice A xs.length c) := by rw [cell_of_row w g 0 _ _ _ hg]; rfl
  have hf : w.frozen? ⟨g, 0, none⟩ = false := by simp [World.frozen?, hg]
  have hgl : g < w.heap.size := (Array.getElem?_eq_some_iff.1 hg).1
  clear h ho hg
  go_enter Try.func103, Try.ntmps103
  go_wp2_with fail
  have hnil : Bytes w ⟨none, 0, []⟩ 140737488355000 := ⟨⟨Nat.le_refl _, by decide, fun _ => rfl, fun h => absurd rfl h, fun _ _ => trivial⟩, by decide⟩
  have hln : (encInt n).length ≤ 10 := encInt_len hn
  go_region_law (first
    | (go_simp; go_at_call 72; refine Calls.mono (putInt_any ⟨none, 0, []⟩ n _ ⟨hnil.inv.below (by exact BW.fin), hnil.len⟩ hn) ?_; rintro e w1 ⟨v1, rfl, ho1, hg1⟩; obtain ⟨A1, c1, rfl, hi1, hb1⟩ := ho1.sl; have HI1 := Lib.hid hi1; have HG1 := Lib.hid hg1; clear hi1 hb1 ho1 hg1; have hc1 := (bcell ((Gr.fin (w := w)).trans HG1.out).belowN g 0 hgl).trans hc)
    | (refine step_of_wp rfl (wp_append kByte B (.tmp 8) (.tmp 10) 35 35 5 1 rfl Try.underlying35 info_u8 (.slice A xs.length c) _ xs (encInt n) rfl _ rfl (HI1.out.src Try.underlying35) (Apd.own (HO.out.below (BW.mk (((Gr.fin (w := w)).trans HG1.out).belowN)).out)) (fun _ _ => trivial) nofoots ?_ ?_ ?_); (have := ((Gr.fin (w := w)).trans HG1.out).size; omega); omega; intro v2 w2 r2 ha2 hg2 hn2; obtain ⟨ho2, rfl⟩ := hn2 (.inr ⟨HO.out.below (BW.mk (((Gr.fin (w := w)).trans HG1.out).belowN)).out, rfl⟩); clear ha2 hn2; have HO2 := Lib.hid ho2; have HG2 := Lib.hid ((Gr.of_below (w := w) _ (BW.mk (((Gr.fin (w := w)).trans HG1.out).belowN)).out).trans hg2); clear hg2; have hh2 := cell_of_wb (wb_after HG.out HO.out HG2.out); obtain ⟨A2, c2, rfl⟩ := ho2.form; clear ho2; obtain ⟨hc2, hf2⟩ := hh2))
  all_goals
    go_end0
    obtain ⟨r1, r2⟩ := wb_store HG.out HO.out hB HG2.out HO2.out
    simp only [List.length_append] at r1 r2
    exact ⟨rfl, r1, r2⟩
set_option maxRecDepth 100000 in
set_option maxHeartbeats 600000 in
theorem bufRow_any (g B : Nat) (r : Sl Vl) (xs : List UInt8) (w : World) (h : WB w g B xs) (hB : B ≤ w.heap.size) (hl : xs.length ≤ 140737488350000) (hr : kVl.Inv w r) (hok : okRow r.xs = true) :
    Calls Try.prog 104 #[.pointer (some ⟨g, 0, none⟩), .slice r.A r.xs.length r.cap] w fun e w' => e = .returned (.tuple #[]) ∧ WB w' g B (xs ++ encRow r.xs) ∧ WK w w' g B := by
  obtain ⟨v, hg, ho⟩ := h.out
  obtain ⟨A, c, rfl⟩ := ho.form
  have HO := Lib.hid ho
  have HG := Lib.hid hg
  have hc : w.cell? ⟨g, 0, none⟩ = some (.slice A xs.length c) := by rw [cell_of_row w g 0 _ _ _ hg]; rfl
  have hf : w.frozen? ⟨g, 0, none⟩ = false := by simp [World.frozen?, hg]
  have hgl : g < w.heap.size := (Array.getElem?_eq_some_iff.1 hg).1
  clear h ho hg
  go_enter Try.func104, Try.ntmps104
  go_wp2_with fail
  have hnil : Bytes w ⟨none, 0, []⟩ 140737488355000 := ⟨⟨Nat.le_refl _, by decide, fun _ => rfl, fun h => absurd rfl h, fun _ _ => trivial⟩, by decide⟩
  have hln : (encRow r.xs).length ≤ 2542 := encRow_len hok
  have HR := Lib.hid hr
  clear hr
  go_region_law (first
    | (go_simp; go_at_call 116; refine Calls.mono (putRow_any ⟨none, 0, []⟩ r _ ⟨hnil.inv.below (by exact BW.fin), by decide⟩ (HR.out.below (by exact BW.fin)) hok) ?_; rintro e w1 ⟨v1, rfl, ho1, hg1⟩; obtain ⟨A1, c1, rfl, hi1, hb1⟩ := ho1.sl; have HI1 := Lib.hid hi1; have HG1 := Lib.hid hg1; clear hi1 hb1 ho1 hg1; have hc1 := (bcell ((Gr.fin (w := w)).trans HG1.out).belowN g 0 hgl).trans hc)
    | (refine step_of_wp rfl (wp_append kByte B (.tmp 8) (.tmp 10) 35 35 5 1 rfl Try.underlying35 info_u8 (.slice A xs.length c) _ xs (encRow r.xs) rfl _ rfl (HI1.out.src Try.underlying35) (Apd.own (HO.out.below (BW.mk (((Gr.fin (w := w)).trans HG1.out).belowN)).out)) (fun _ _ => trivial) nofoots ?_ ?_ ?_); (have := ((Gr.fin (w := w)).trans HG1.out).size; omega); omega; intro v2 w2 r2 ha2 hg2 hn2; obtain ⟨ho2, rfl⟩ := hn2 (.inr ⟨HO.out.below (BW.mk (((Gr.fin (w := w)).trans HG1.out).belowN)).out, rfl⟩); clear ha2 hn2; have HO2 := Lib.hid ho2; have HG2 := Lib.hid ((Gr.of_below (w := w) _ (BW.mk (((Gr.fin (w := w)).trans HG1.out).belowN)).out).trans hg2); clear hg2; have hh2 := cell_of_wb (wb_after HG.out HO.out HG2.out); obtain ⟨A2, c2, rfl⟩ := ho2.form; clear ho2; obtain ⟨hc2, hf2⟩ := hh2))
  all_goals
    go_end0
    obtain ⟨r1, r2⟩ := wb_store HG.out HO.out hB HG2.out HO2.out
    simp only [List.length_append] at r1 r2
    exact ⟨rfl, r1, r2⟩
set_option maxRecDepth 100000 in
set_option maxHeartbeats 600000 in
theorem bufPer_any (g B : Nat) (p q : Int) (xs : List UInt8) (w : World) (h : WB w g B xs) (hB : B ≤ w.heap.size) (hl : xs.length ≤ 140737488353000) (hp : I64 p) (hq : I64 q) :
    Calls Try.prog 105 #[.pointer (some ⟨g, 0, none⟩), .agg #[.int .i64 p, .int .i64 q]] w fun e w' => e = .returned (.tuple #[]) ∧ WB w' g B (xs ++ encPer p q) ∧ WK w w' g B := by
  obtain ⟨v, hg, ho⟩ := h.out
  obtain ⟨A, c, rfl⟩ := ho.form
  have HO := Lib.hid ho
  have HG := Lib.hid hg
  have hc : w.cell? ⟨g, 0, none⟩ = some (.slice A xs.length c) := by rw [cell_of_row w g 0 _ _ _ hg]; rfl
  have hf : w.frozen? ⟨g, 0, none⟩ = false := by simp [World.frozen?, hg]
  have hgl : g < w.heap.size := (Array.getElem?_eq_some_iff.1 hg).1
  clear h ho hg
  go_enter Try.func105, Try.ntmps105
  go_wp2_with fail
  have hnil : Bytes w ⟨none, 0, []⟩ 140737488355000 := ⟨⟨Nat.le_refl _, by decide, fun _ => rfl, fun h => absurd rfl h, fun _ _ => trivial⟩, by decide⟩
  have hln : (encPer p q).length ≤ 20 := by have := encInt_len hp; have := encInt_len hq; simp [encPer]; omega
  go_region_law (first
    | (go_simp; go_at_call 73; refine Calls.mono (putPeriod_any ⟨none, 0, []⟩ p q _ ⟨hnil.inv.below (by exact BW.fin), by decide⟩ hp hq) ?_; rintro e w1 ⟨v1, rfl, ho1, hg1⟩; obtain ⟨A1, c1, rfl, hi1, hb1⟩ := ho1.sl; have HI1 := Lib.hid hi1; have HG1 := Lib.hid hg1; clear hi1 hb1 ho1 hg1; have hc1 := (bcell ((Gr.fin (w := w)).trans HG1.out).belowN g 0 hgl).trans hc)
    | (refine step_of_wp rfl (wp_append kByte B (.tmp 8) (.tmp 10) 35 35 5 1 rfl Try.underlying35 info_u8 (.slice A xs.length c) _ xs (encPer p q) rfl _ rfl (HI1.out.src Try.underlying35) (Apd.own (HO.out.below (BW.mk (((Gr.fin (w := w)).trans HG1.out).belowN)).out)) (fun _ _ => trivial) nofoots ?_ ?_ ?_); (have := ((Gr.fin (w := w)).trans HG1.out).size; omega); omega; intro v2 w2 r2 ha2 hg2 hn2; obtain ⟨ho2, rfl⟩ := hn2 (.inr ⟨HO.out.below (BW.mk (((Gr.fin (w := w)).trans HG1.out).belowN)).out, rfl⟩); clear ha2 hn2; have HO2 := Lib.hid ho2; have HG2 := Lib.hid ((Gr.of_below (w := w) _ (BW.mk (((Gr.fin (w := w)).trans HG1.out).belowN)).out).trans hg2); clear hg2; have hh2 := cell_of_wb (wb_after HG.out HO.out HG2.out); obtain ⟨A2, c2, rfl⟩ := ho2.form; clear ho2; obtain ⟨hc2, hf2⟩ := hh2))
  all_goals
    go_end0
    obtain ⟨r1, r2⟩ := wb_store HG.out HO.out hB HG2.out HO2.out
    simp only [List.length_append] at r1 r2
    exact ⟨rfl, r1, r2⟩
end Go.Proofs.Ytndlhmnablefpaa

/- What record's writer does: its buffer, a version, a list of versions; EncodeVersions. -/
import Derived.Test.YtndlhmnablefpaaEnc1
import Derived.Deep.RegionLaw
namespace Go.Proofs.Ytndlhmnablefpaa
open Go.RowKit
/-- The writer in block g has collected xs; its row lies from B on. -/
structure WB (w : World) (g B : Nat) (xs : List UInt8) : Prop where
  out : ∃ v, w.heap[g]? = some (.cells #[v] 107 (0, 0)) ∧ Own kByte 5 w B v xs
/-- What a writer's method leaves: everything but the writer in block g and its row; below B, and where a block is no row of bytes. -/
structure WK (w w' : World) (g B : Nat) : Prop where
  os : w'.os = w.os
  tape : w'.tape = w.tape
  output : w'.output = w.output
  size : w.heap.size ≤ w'.heap.size
  old : ∀ k, k < B → k ≠ g → w'.heap[k]? = w.heap[k]?
  typed : ∀ k cs t fr, w.heap[k]? = some (.cells cs t fr) → t ≠ 5 → k ≠ g → w'.heap[k]? = w.heap[k]?
theorem WK.refl (w : World) (g B : Nat) : WK w w g B := ⟨rfl, rfl, rfl, Nat.le_refl _, fun _ _ _ => rfl, fun _ _ _ _ _ _ _ => rfl⟩
theorem WK.trans {w w1 w2 : World} {g B : Nat} (h : WK w w1 g B) (k : WK w1 w2 g B) : WK w w2 g B :=
  ⟨k.os.trans h.os, k.tape.trans h.tape, k.output.trans h.output, Nat.le_trans h.size k.size, fun i hi hne => (k.old i hi hne).trans (h.old i hi hne),
    fun i cs t fr hc ht hne => (k.typed i cs t fr ((h.typed i cs t fr hc ht hne).trans hc) ht hne).trans (h.typed i cs t fr hc ht hne)⟩
theorem WK.of_below {w w' : World} {g B : Nat} (hB : B ≤ w.heap.size) (h : Below w.heap.size w w') : WK w w' g B :=
  ⟨h.os, h.tape, h.output, h.size, fun i hi _ => h.block i (by omega), fun i cs t fr hc _ _ => h.block i (Array.getElem?_eq_some_iff.1 hc).1⟩
theorem WB.below {w w' : World} {g B : Nat} {xs : List UInt8} (h : WB w g B xs) (hb : Below w.heap.size w w') : WB w' g B xs := by
  obtain ⟨v, hg, ho⟩ := h.out
  exact ⟨v, (hb.block g (Array.getElem?_eq_some_iff.1 hg).1).trans hg, ho.below hb⟩
theorem own_type {α : Type} {d : Kd α} {e t : TypeId} {w : World} {B g : Nat} {v : Value} {xs : List α} {cs : Array Value} {fr : Nat × Nat} (ho : Own d e w B v xs) (hg : w.heap[g]? = some (.cells cs t fr)) (hne : t ≠ e) : some g ≠ v.ownBlock := by
  intro he
  rcases ho.row.2 with ⟨rfl, _⟩ | ⟨g', cap, cur, rfl, _, hh, _⟩
  · simp [Value.ownBlock] at he
  · simp [Value.ownBlock] at he
    subst he
    rw [hh] at hg
    injection hg with hg
    injection hg with _ h2 _
    exact hne h2.symm
/-- The writer's block, behind an append to its row. -/
theorem wb_after {w W : World} {g B : Nat} {v : Value} {r : Option Nat} {xs : List UInt8} (hg : w.heap[g]? = some (.cells #[v] 107 (0, 0))) (ho : Own kByte 5 w B v xs) (hgr : Gr w W v.ownBlock r) : W.heap[g]? = some (.cells #[v] 107 (0, 0)) :=
  (hgr.by'.block g (Array.getElem?_eq_some_iff.1 hg).1 (own_type ho hg (by decide))).trans hg
theorem cell_of_wb {W : World} {g : Nat} {v : Value} (h : W.heap[g]? = some (.cells #[v] 107 (0, 0))) : W.cell? ⟨g, 0, none⟩ = some v ∧ W.frozen? ⟨g, 0, none⟩ = false :=
  ⟨by rw [cell_of_row W g 0 _ _ _ h]; rfl, by simp [World.frozen?, h]⟩
/-- Behind the append and the store. -/
theorem wb_store {w W : World} {g B : Nat} {v v' : Value} {xs ys : List UInt8} (hg : w.heap[g]? = some (.cells #[v] 107 (0, 0))) (ho : Own kByte 5 w B v xs) (hB : B ≤ w.heap.size)
    (hgr : Gr w W v.ownBlock v'.ownBlock) (ho' : Own kByte 5 W B v' ys) :
    WB (W.setCell ⟨g, 0, none⟩ v') g B ys ∧ WK w (W.setCell ⟨g, 0, none⟩ v') g B := by
  have hW := wb_after hg ho hgr
  have hgo := own_type ho' hW (by decide)
  have hk : ∀ k, k ≠ g → (W.setCell ⟨g, 0, none⟩ v').heap[k]? = W.heap[k]? := fun k hk => Below.heap_setCell _ _ _ _ hk
  have hsz : (W.setCell ⟨g, 0, none⟩ v').heap.size = W.heap.size := by simp
  have hset : W.grownBy (W.setCell ⟨g, 0, none⟩ v') (some g) := ⟨rfl, rfl, rfl, by rw [hsz]; exact Nat.le_refl _, fun k _ hne => hk k (fun e => hne (by rw [e]))⟩
  refine ⟨⟨v', ?_, ho'.grown hset (by cases h : v'.ownBlock with | none => exact .inl rfl | some b => exact .inr (by rw [← h]; exact hgo.symm)) (fun x _ k hk => absurd hk (by simp [kByte, Kd.flat]))⟩, ⟨hgr.by'.os, hgr.by'.tape, hgr.by'.output, by rw [hsz]; exact hgr.by'.size, fun k hkB hne => ?_, fun k cs t fr hc ht hne => ?_⟩⟩
  · simp [World.setCell, Array.getElem?_modify, hW]
  · rw [hk k hne]
    exact hgr.by'.block k (by omega) (fun e => by have := (ho.base_le k e.symm).1; omega)
  · rw [hk k hne]
    exact hgr.by'.block k (Array.getElem?_eq_some_iff.1 hc).1 (own_type ho hc ht)
set_option maxRecDepth 100000 in
set_option maxHeartbeats 600000 in
theorem bufInt_any (g B : Nat) (n : Int) (xs : List UInt8) (w : World) (h : WB w g B xs) (hB : B ≤ w.heap.size) (hl : xs.length ≤ 140737488353000) (hn : I64 n) :
    Calls Try.prog 103 #[.pointer (some ⟨g, 0, none⟩), .int .i64 n] w fun e w' => e = .returned (.tuple #[]) ∧ WB w' g B (xs ++ encInt n) ∧ WK w w' g B := by
  obtain ⟨v, hg, ho⟩ := h.out
  obtain ⟨A, c, rfl⟩ := ho.form
  have HO := Lib.hid ho
  have HG := Lib.hid hg
  have hc : w.cell? ⟨g, 0, none⟩ = some (.slice A xs.length c) := by rw [cell_of_row w g 0 _ _ _ hg]; rfl
  have hf : w.frozen? ⟨g, 0, none⟩ = false := by simp [World.frozen?, hg]
  have hgl : g < w.heap.size := (Array.getElem?_eq_some_iff.1 hg).1
  clear h ho hg
  go_enter Try.func103, Try.ntmps103
  go_wp2_with fail
  have hnil : Bytes w ⟨none, 0, []⟩ 140737488355000 := ⟨⟨Nat.le_refl _, by decide, fun _ => rfl, fun h => absurd rfl h, fun _ _ => trivial⟩, by decide⟩
  have hln : (encInt n).length ≤ 10 := encInt_len hn
  go_region_law (first
    | (go_simp; go_at_call 72; refine Calls.mono (putInt_any ⟨none, 0, []⟩ n _ ⟨hnil.inv.below (by exact BW.fin), hnil.len⟩ hn) ?_; rintro e w1 ⟨v1, rfl, ho1, hg1⟩; obtain ⟨A1, c1, rfl, hi1, hb1⟩ := ho1.sl; have HI1 := Lib.hid hi1; have HG1 := Lib.hid hg1; clear hi1 hb1 ho1 hg1; have hc1 := (bcell ((Gr.fin (w := w)).trans HG1.out).belowN g 0 hgl).trans hc)
    | (refine step_of_wp rfl (wp_append kByte B (.tmp 8) (.tmp 10) 35 35 5 1 rfl Try.underlying35 info_u8 (.slice A xs.length c) _ xs (encInt n) rfl _ rfl (HI1.out.src Try.underlying35) (Apd.own (HO.out.below (BW.mk (((Gr.fin (w := w)).trans HG1.out).belowN)).out)) (fun _ _ => trivial) nofoots ?_ ?_ ?_); (have := ((Gr.fin (w := w)).trans HG1.out).size; omega); omega; intro v2 w2 r2 ha2 hg2 hn2; obtain ⟨ho2, rfl⟩ := hn2 (.inr ⟨HO.out.below (BW.mk (((Gr.fin (w := w)).trans HG1.out).belowN)).out, rfl⟩); clear ha2 hn2; have HO2 := Lib.hid ho2; have HG2 := Lib.hid ((Gr.of_below (w := w) _ (BW.mk (((Gr.fin (w := w)).trans HG1.out).belowN)).out).trans hg2); clear hg2; have hh2 := cell_of_wb (wb_after HG.out HO.out HG2.out); obtain ⟨A2, c2, rfl⟩ := ho2.form; clear ho2; obtain ⟨hc2, hf2⟩ := hh2))
  all_goals
    go_end0
    obtain ⟨r1, r2⟩ := wb_store HG.out HO.out hB HG2.out HO2.out
    simp only [List.length_append] at r1 r2
    exact ⟨rfl, r1, r2⟩
set_option maxRecDepth 100000 in
set_option maxHeartbeats 600000 in
theorem bufRow_any (g B : Nat) (r : Sl Vl) (xs : List UInt8) (w : World) (h : WB w g B xs) (hB : B ≤ w.heap.size) (hl : xs.length ≤ 140737488350000) (hr : kVl.Inv w r) (hok : okRow r.xs = true) :
    Calls Try.prog 104 #[.pointer (some ⟨g, 0, none⟩), .slice r.A r.xs.length r.cap] w fun e w' => e = .returned (.tuple #[]) ∧ WB w' g B (xs ++ encRow r.xs) ∧ WK w w' g B := by
  obtain ⟨v, hg, ho⟩ := h.out
  obtain ⟨A, c, rfl⟩ := ho.form
  have HO := Lib.hid ho
  have HG := Lib.hid hg
  have hc : w.cell? ⟨g, 0, none⟩ = some (.slice A xs.length c) := by rw [cell_of_row w g 0 _ _ _ hg]; rfl
  have hf : w.frozen? ⟨g, 0, none⟩ = false := by simp [World.frozen?, hg]
  have hgl : g < w.heap.size := (Array.getElem?_eq_some_iff.1 hg).1
  clear h ho hg
  go_enter Try.func104, Try.ntmps104
  go_wp2_with fail
  have hnil : Bytes w ⟨none, 0, []⟩ 140737488355000 := ⟨⟨Nat.le_refl _, by decide, fun _ => rfl, fun h => absurd rfl h, fun _ _ => trivial⟩, by decide⟩
  have hln : (encRow r.xs).length ≤ 2542 := encRow_len hok
  have HR := Lib.hid hr
  clear hr
  go_region_law (first
    | (go_simp; go_at_call 116; refine Calls.mono (putRow_any ⟨none, 0, []⟩ r _ ⟨hnil.inv.below (by exact BW.fin), by decide⟩ (HR.out.below (by exact BW.fin)) hok) ?_; rintro e w1 ⟨v1, rfl, ho1, hg1⟩; obtain ⟨A1, c1, rfl, hi1, hb1⟩ := ho1.sl; have HI1 := Lib.hid hi1; have HG1 := Lib.hid hg1; clear hi1 hb1 ho1 hg1; have hc1 := (bcell ((Gr.fin (w := w)).trans HG1.out).belowN g 0 hgl).trans hc)
    | (refine step_of_wp rfl (wp_append kByte B (.tmp 8) (.tmp 10) 35 35 5 1 rfl Try.underlying35 info_u8 (.slice A xs.length c) _ xs (encRow r.xs) rfl _ rfl (HI1.out.src Try.underlying35) (Apd.own (HO.out.below (BW.mk (((Gr.fin (w := w)).trans HG1.out).belowN)).out)) (fun _ _ => trivial) nofoots ?_ ?_ ?_); (have := ((Gr.fin (w := w)).trans HG1.out).size; omega); omega; intro v2 w2 r2 ha2 hg2 hn2; obtain ⟨ho2, rfl⟩ := hn2 (.inr ⟨HO.out.below (BW.mk (((Gr.fin (w := w)).trans HG1.out).belowN)).out, rfl⟩); clear ha2 hn2; have HO2 := Lib.hid ho2; have HG2 := Lib.hid ((Gr.of_below (w := w) _ (BW.mk (((Gr.fin (w := w)).trans HG1.out).belowN)).out).trans hg2); clear hg2; have hh2 := cell_of_wb (wb_after HG.out HO.out HG2.out); obtain ⟨A2, c2, rfl⟩ := ho2.form; clear ho2; obtain ⟨hc2, hf2⟩ := hh2))
  all_goals
    go_end0
    obtain ⟨r1, r2⟩ := wb_store HG.out HO.out hB HG2.out HO2.out
    simp only [List.length_append] at r1 r2
    exact ⟨rfl, r1, r2⟩
set_option maxRecDepth 100000 in
set_option maxHeartbeats 600000 in
theorem bufPer_any (g B : Nat) (p q : Int) (xs : List UInt8) (w : World) (h : WB w g B xs) (hB : B ≤ w.heap.size) (hl : xs.length ≤ 140737488353000) (hp : I64 p) (hq : I64 q) :
    Calls Try.prog 105 #[.pointer (some ⟨g, 0, none⟩), .agg #[.int .i64 p, .int .i64 q]] w fun e w' => e = .returned (.tuple #[]) ∧ WB w' g B (xs ++ encPer p q) ∧ WK w w' g B := by
  obtain ⟨v, hg, ho⟩ := h.out
  obtain ⟨A, c, rfl⟩ := ho.form
  have HO := Lib.hid ho
  have HG := Lib.hid hg
  have hc : w.cell? ⟨g, 0, none⟩ = some (.slice A xs.length c) := by rw [cell_of_row w g 0 _ _ _ hg]; rfl
  have hf : w.frozen? ⟨g, 0, none⟩ = false := by simp [World.frozen?, hg]
  have hgl : g < w.heap.size := (Array.getElem?_eq_some_iff.1 hg).1
  clear h ho hg
  go_enter Try.func105, Try.ntmps105
  go_wp2_with fail
  have hnil : Bytes w ⟨none, 0, []⟩ 140737488355000 := ⟨⟨Nat.le_refl _, by decide, fun _ => rfl, fun h => absurd rfl h, fun _ _ => trivial⟩, by decide⟩
  have hln : (encPer p q).length ≤ 20 := by have := encInt_len hp; have := encInt_len hq; simp [encPer]; omega
  go_region_law (first
    | (go_simp; go_at_call 73; refine Calls.mono (putPeriod_any ⟨none, 0, []⟩ p q _ ⟨hnil.inv.below (by exact BW.fin), by decide⟩ hp hq) ?_; rintro e w1 ⟨v1, rfl, ho1, hg1⟩; obtain ⟨A1, c1, rfl, hi1, hb1⟩ := ho1.sl; have HI1 := Lib.hid hi1; have HG1 := Lib.hid hg1; clear hi1 hb1 ho1 hg1; have hc1 := (bcell ((Gr.fin (w := w)).trans HG1.out).belowN g 0 hgl).trans hc)
    | (refine step_of_wp rfl (wp_append kByte B (.tmp 8) (.tmp 10) 35 35 5 1 rfl Try.underlying35 info_u8 (.slice A xs.length c) _ xs (encPer p q) rfl _ rfl (HI1.out.src Try.underlying35) (Apd.own (HO.out.below (BW.mk (((Gr.fin (w := w)).trans HG1.out).belowN)).out)) (fun _ _ => trivial) nofoots ?_ ?_ ?_); (have := ((Gr.fin (w := w)).trans HG1.out).size; omega); omega; intro v2 w2 r2 ha2 hg2 hn2; obtain ⟨ho2, rfl⟩ := hn2 (.inr ⟨HO.out.below (BW.mk (((Gr.fin (w := w)).trans HG1.out).belowN)).out, rfl⟩); clear ha2 hn2; have HO2 := Lib.hid ho2; have HG2 := Lib.hid ((Gr.of_below (w := w) _ (BW.mk (((Gr.fin (w := w)).trans HG1.out).belowN)).out).trans hg2); clear hg2; have hh2 := cell_of_wb (wb_after HG.out HO.out HG2.out); obtain ⟨A2, c2, rfl⟩ := ho2.form; clear ho2; obtain ⟨hc2, hf2⟩ := hh2))
  all_goals
    go_end0
    obtain ⟨r1, r2⟩ := wb_store HG.out HO.out hB HG2.out HO2.out
    simp only [List.length_append] at r1 r2
    exact ⟨rfl, r1, r2⟩
end Go.Proofs.Ytndlhmnablefpaa
/-! What record's writer does with a version and with a list of versions; EncodeVersions. -/
namespace Go.Proofs.Ytndlhmnablefpaa
open Go.RowKit
/-- A version lies in block b, whole. -/
def BoxV (w : World) (b : Nat) (x : Ver) : Prop := w.heap[b]? = some (.cells x.cells.toArray 59 (0, 0))
theorem box9 {w : World} {b : Nat} {x : Ver} (h : BoxV w b x) : w.cell? ⟨b, 0, none⟩ = some (.int .i64 x.p.id) ∧ w.cell? ⟨b, 1, none⟩ = some (.int .i64 x.p.sch) ∧ w.cell? ⟨b, 2, none⟩ = some (.slice x.A x.p.row.length x.c) ∧ w.cell? ⟨b, 3, none⟩ = some (.int .i64 x.p.vf) ∧ w.cell? ⟨b, 4, none⟩ = some (.int .i64 x.p.vt) ∧ w.cell? ⟨b, 5, none⟩ = some (.int .i64 x.p.sf) ∧ w.cell? ⟨b, 6, none⟩ = some (.int .i64 x.p.st) ∧ w.cell? ⟨b, 7, none⟩ = some (.int .i64 x.p.by') ∧ w.cell? ⟨b, 8, none⟩ = some (.int .i64 x.p.un) := by
  refine ⟨?_, ?_, ?_, ?_, ?_, ?_, ?_, ?_, ?_⟩ <;> (rw [cell_of_row w b _ _ _ _ h]; rfl)
theorem BoxV.keep {w w' : World} {b g B : Nat} {x : Ver} (h : BoxV w b x) (hk : WK w w' g B) (hne : b ≠ g) : BoxV w' b x := (hk.typed b _ _ _ h (by decide) hne).trans h
theorem inv_keep {w w' : World} {g B : Nat} {r : Sl Vl} (h : kVl.Inv w r) (hk : WK w w' g B) (hB : ∀ k, k ∈ r.foot kVl → k < B) (hg : B ≤ g) : kVl.Inv w' r :=
  h.move fun k hkf => hk.old k (hB k hkf) (by have := hB k hkf; omega)
set_option maxRecDepth 100000 in
set_option maxHeartbeats 1600000 in
theorem wVersion_any (g B : Nat) (v : Ver) (xs : List UInt8) (w : World) (h : WB w g B xs) (hB : B ≤ w.heap.size) (hgB : B ≤ g) (hl : xs.length ≤ 140737488340000) (hv : okVer v.p = true) (hr : kVl.Inv w v.rowS) (hrB : ∀ k, k ∈ v.rowS.foot kVl → k < B) :
    Calls Try.prog 76 #[.pointer (some ⟨g, 0, none⟩), .agg v.cells.toArray] w fun e w' => e = .returned (.tuple #[]) ∧ WB w' g B (xs ++ encVer v.p) ∧ WK w w' g B := by
  have H := Lib.hid h
  have HR := Lib.hid hr
  have HRB := Lib.hid hrB
  have hgl : g < w.heap.size := by obtain ⟨_, hg, _⟩ := h.out; exact (Array.getElem?_eq_some_iff.1 hg).1
  have HV := Lib.hid (okVer_parts hv)
  clear h hr hrB
  have hb0 : BoxV (w.alloc (.cells v.cells.toArray 59)) w.heap.size v := heap_alloc_new w _
  have HB0 := Lib.hid hb0
  clear hb0
  simp only [Ver.cells]
  go_enter Try.func76, Try.ntmps76
  go_wp2_with fail
  generalize hW : w.alloc _ = W0
  have HW0 : Hid (BoxV W0 w.heap.size v ∧ BW w W0) := by subst hW; exact ⟨HB0.out, (BW.refl w).alloc _⟩
  clear hW HB0
  have HX := Lib.hid HW0.out.1
  replace H := Lib.hid (H.out.below HW0.out.2.out)
  replace HR := Lib.hid (HR.out.below HW0.out.2.out)
  have hbs := Nat.le_trans hB HW0.out.2.out.size
  have HK : Hid (WK w W0 g B) := WK.of_below hB HW0.out.2.out
  clear HW0
  have l1 := encInt_len HV.out.id
  have l2 := encInt_len HV.out.sch
  have l3 := encRow_len HV.out.row
  have l4 := encPer_len HV.out.vf HV.out.vt
  have l5 := encPer_len HV.out.sf HV.out.st
  have l6 := encInt_len HV.out.by'
  obtain ⟨d0, d1, d2, d3, d4, d5, d6, d7, d8⟩ := box9 HX.out
  go_still_tail 5, (by kernel_rfl)
  change wpList _ _ _ _ _ W0.drew
  have hdr : BW W0 W0.drew := (BW.refl _).drew
  replace H := Lib.hid (H.out.below hdr.out)
  replace HR := Lib.hid (HR.out.below hdr.out)
  replace HX := Lib.hid (HX.out.keep (WK.of_below (g := g) hbs hdr.out) (by omega))
  replace HK := Lib.hid (HK.out.trans (WK.of_below hbs hdr.out))
  clear d0 d1 d2 d3 d4 d5 d6 d7 d8
  have hbs' := Nat.le_trans hbs hdr.out.size
  clear hdr
  go_wp2_with (go_at_call 103; refine (bufInt_any g B _ _ _ H.out hbs' (by omega) HV.out.id).mono ?_; rintro e W1 ⟨rfl, hwb, hwk⟩)
  replace H := Lib.hid hwb
  replace HX := Lib.hid (HX.out.keep hwk (by omega))
  replace HR := Lib.hid (inv_keep HR.out hwk HRB.out hgB)
  replace HK := Lib.hid (HK.out.trans hwk)
  replace hbs := Nat.le_trans hbs' hwk.size
  clear hwb hwk hbs'
  obtain ⟨d0, d1, d2, d3, d4, d5, d6, d7, d8⟩ := box9 HX.out
  go_still_tail 5, (by kernel_rfl)
  change wpList _ _ _ _ _ W1.drew
  have hdr : BW W1 W1.drew := (BW.refl _).drew
  replace H := Lib.hid (H.out.below hdr.out)
  replace HR := Lib.hid (HR.out.below hdr.out)
  replace HX := Lib.hid (HX.out.keep (WK.of_below (g := g) hbs hdr.out) (by omega))
  replace HK := Lib.hid (HK.out.trans (WK.of_below hbs hdr.out))
  clear d0 d1 d2 d3 d4 d5 d6 d7 d8
  have hbs' := Nat.le_trans hbs hdr.out.size
  clear hdr
  go_wp2_with (go_at_call 103; refine (bufInt_any g B _ _ _ H.out hbs' (by simp only [List.length_append]; omega) HV.out.sch).mono ?_; rintro e W2 ⟨rfl, hwb, hwk⟩)
  replace H := Lib.hid hwb
  replace HX := Lib.hid (HX.out.keep hwk (by omega))
  replace HR := Lib.hid (inv_keep HR.out hwk HRB.out hgB)
  replace HK := Lib.hid (HK.out.trans hwk)
  replace hbs := Nat.le_trans hbs' hwk.size
  clear hwb hwk hbs'
  obtain ⟨d0, d1, d2, d3, d4, d5, d6, d7, d8⟩ := box9 HX.out
  go_still_tail 5, (by kernel_rfl)
  change wpList _ _ _ _ _ W2.drew
  have hdr : BW W2 W2.drew := (BW.refl _).drew
  replace H := Lib.hid (H.out.below hdr.out)
  replace HR := Lib.hid (HR.out.below hdr.out)
  replace HX := Lib.hid (HX.out.keep (WK.of_below (g := g) hbs hdr.out) (by omega))
  replace HK := Lib.hid (HK.out.trans (WK.of_below hbs hdr.out))
  clear d0 d1 d2 d3 d4 d5 d6 d7 d8
  have hbs' := Nat.le_trans hbs hdr.out.size
  clear hdr
  go_wp2_with (go_at_call 104; refine (bufRow_any g B v.rowS _ _ H.out hbs' (by simp only [List.length_append]; omega) HR.out HV.out.row).mono ?_; rintro e W3 ⟨rfl, hwb, hwk⟩)
  replace hwb : WB W3 g B (_ ++ encRow v.p.row) := hwb
  replace H := Lib.hid hwb
  replace HX := Lib.hid (HX.out.keep hwk (by omega))
  replace HR := Lib.hid (inv_keep HR.out hwk HRB.out hgB)
  replace HK := Lib.hid (HK.out.trans hwk)
  replace hbs := Nat.le_trans hbs' hwk.size
  clear hwb hwk hbs'
  obtain ⟨d0, d1, d2, d3, d4, d5, d6, d7, d8⟩ := box9 HX.out
  go_still_tail 5, (by kernel_rfl)
  change wpList _ _ _ _ _ W3.drew
  have hdr : BW W3 W3.drew := (BW.refl _).drew
  replace H := Lib.hid (H.out.below hdr.out)
  replace HR := Lib.hid (HR.out.below hdr.out)
  replace HX := Lib.hid (HX.out.keep (WK.of_below (g := g) hbs hdr.out) (by omega))
  replace HK := Lib.hid (HK.out.trans (WK.of_below hbs hdr.out))
  clear d0 d1 d2 d3 d4 d5 d6 d7 d8
  have hbs' := Nat.le_trans hbs hdr.out.size
  clear hdr
  go_wp2_with (go_at_call 105; refine (bufPer_any g B _ _ _ _ H.out hbs' (by simp only [List.length_append]; omega) HV.out.vf HV.out.vt).mono ?_; rintro e W4 ⟨rfl, hwb, hwk⟩)
  replace H := Lib.hid hwb
  replace HX := Lib.hid (HX.out.keep hwk (by omega))
  replace HR := Lib.hid (inv_keep HR.out hwk HRB.out hgB)
  replace HK := Lib.hid (HK.out.trans hwk)
  replace hbs := Nat.le_trans hbs' hwk.size
  clear hwb hwk hbs'
  obtain ⟨d0, d1, d2, d3, d4, d5, d6, d7, d8⟩ := box9 HX.out
  go_still_tail 5, (by kernel_rfl)
  change wpList _ _ _ _ _ W4.drew
  have hdr : BW W4 W4.drew := (BW.refl _).drew
  replace H := Lib.hid (H.out.below hdr.out)
  replace HR := Lib.hid (HR.out.below hdr.out)
  replace HX := Lib.hid (HX.out.keep (WK.of_below (g := g) hbs hdr.out) (by omega))
  replace HK := Lib.hid (HK.out.trans (WK.of_below hbs hdr.out))
  clear d0 d1 d2 d3 d4 d5 d6 d7 d8
  have hbs' := Nat.le_trans hbs hdr.out.size
  clear hdr
  go_wp2_with (go_at_call 105; refine (bufPer_any g B _ _ _ _ H.out hbs' (by simp only [List.length_append]; omega) HV.out.sf HV.out.st).mono ?_; rintro e W5 ⟨rfl, hwb, hwk⟩)
  replace H := Lib.hid hwb
  replace HX := Lib.hid (HX.out.keep hwk (by omega))
  replace HR := Lib.hid (inv_keep HR.out hwk HRB.out hgB)
  replace HK := Lib.hid (HK.out.trans hwk)
  replace hbs := Nat.le_trans hbs' hwk.size
  clear hwb hwk hbs'
  obtain ⟨d0, d1, d2, d3, d4, d5, d6, d7, d8⟩ := box9 HX.out
  go_still_tail 5, (by kernel_rfl)
  change wpList _ _ _ _ _ W5.drew
  have hdr : BW W5 W5.drew := (BW.refl _).drew
  replace H := Lib.hid (H.out.below hdr.out)
  replace HR := Lib.hid (HR.out.below hdr.out)
  replace HX := Lib.hid (HX.out.keep (WK.of_below (g := g) hbs hdr.out) (by omega))
  replace HK := Lib.hid (HK.out.trans (WK.of_below hbs hdr.out))
  clear d0 d1 d2 d3 d4 d5 d6 d7 d8
  have hbs' := Nat.le_trans hbs hdr.out.size
  clear hdr
  go_wp2_with (go_at_call 103; refine (bufInt_any g B _ _ _ H.out hbs' (by simp only [List.length_append]; omega) HV.out.by').mono ?_; rintro e W6 ⟨rfl, hwb, hwk⟩)
  replace H := Lib.hid hwb
  replace HX := Lib.hid (HX.out.keep hwk (by omega))
  replace HR := Lib.hid (inv_keep HR.out hwk HRB.out hgB)
  replace HK := Lib.hid (HK.out.trans hwk)
  replace hbs := Nat.le_trans hbs' hwk.size
  clear hwb hwk hbs'
  obtain ⟨d0, d1, d2, d3, d4, d5, d6, d7, d8⟩ := box9 HX.out
  go_still_tail 5, (by kernel_rfl)
  change wpList _ _ _ _ _ W6.drew
  have hdr : BW W6 W6.drew := (BW.refl _).drew
  replace H := Lib.hid (H.out.below hdr.out)
  replace HR := Lib.hid (HR.out.below hdr.out)
  replace HX := Lib.hid (HX.out.keep (WK.of_below (g := g) hbs hdr.out) (by omega))
  replace HK := Lib.hid (HK.out.trans (WK.of_below hbs hdr.out))
  clear d0 d1 d2 d3 d4 d5 d6 d7 d8
  have hbs' := Nat.le_trans hbs hdr.out.size
  clear hdr
  go_wp2_with (go_at_call 103; refine (bufInt_any g B _ _ _ H.out hbs' (by simp only [List.length_append]; omega) HV.out.un).mono ?_; rintro e W7 ⟨rfl, hwb, hwk⟩)
  go_end0
  exact ⟨rfl, by simpa only [encVer, List.append_assoc] using hwb, HK.out.trans hwk⟩
end Go.Proofs.Ytndlhmnablefpaa
/-! What record's put does with a list of versions; EncodeVersions. -/
namespace Go.Proofs.Ytndlhmnablefpaa
open Go.RowKit
theorem WB.lt {w : World} {g B : Nat} {xs : List UInt8} (h : WB w g B xs) : g < w.heap.size := by obtain ⟨_, hg, _⟩ := h.out; exact (Array.getElem?_eq_some_iff.1 hg).1
theorem invs_keep {w w' : World} {g B : Nat} {s : Sl Ver} (h : kVer.Inv w s) (hk : WK w w' g B) (hB : ∀ k, k ∈ s.foot kVer → k < B) (hg : B ≤ g) : kVer.Inv w' s :=
  h.move fun k hkf => hk.old k (hB k hkf) (by have := hB k hkf; omega)
theorem foot_row {s : Sl Ver} {k : Nat} (hk : k < s.xs.length) {P : Nat → Prop} (h : ∀ b, b ∈ s.foot kVer → P b) : ∀ b, b ∈ s.xs[k].rowS.foot kVl → P b :=
  fun b hb => h b (List.mem_append_right _ (List.mem_flatMap.2 ⟨s.xs[k], List.getElem_mem hk, hb⟩))
theorem pv_take (l : List Ver) (k : Nat) : pv (l.take k) = (pv l).take k := by simp [pv]
theorem take_pv_len {l : List Ver} (h : ∀ v, v ∈ l → okVer v.p = true) (k : Nat) : (((pv l).take k).flatMap encVer).length ≤ l.length * 2622 := by
  refine Nat.le_trans (flatMap_len encVer 2622 _ fun x hx => ?_) (Nat.mul_le_mul_right _ ?_)
  · obtain ⟨v, hv, rfl⟩ := List.mem_map.1 (List.mem_of_mem_take hx)
    exact encVer_len (h v hv)
  · simp [pv]; omega
set_option maxRecDepth 100000 in
set_option maxHeartbeats 1000000 in
theorem putVersions_any (g B : Nat) (s : Sl Ver) (w : World) (h : WB w g B []) (hB : B ≤ w.heap.size) (hgB : B ≤ g) (hi : kVer.Inv w s) (hsB : ∀ k, k ∈ s.foot kVer → k < B) (hv : ∀ v, v ∈ s.xs → okVer v.p = true) (hl : s.xs.length ≤ 4096) :
    Calls Try.prog 75 #[.pointer (some ⟨g, 0, none⟩), .slice s.A s.xs.length s.cap, .func (.func 76) #[] #[]] w fun e w' => e = .returned (.tuple #[]) ∧ WB w' g B (encVers (pv s.xs)) ∧ WK w w' g B := by
  have H := Lib.hid h
  have HI := Lib.hid hi
  have HSB := Lib.hid hsB
  have HV := Lib.hid hv
  have HL := Lib.hid (take_pv_len hv)
  have hmx : s.xs.length ≤ 9223372036854775807 := by omega
  have hx2 : I64 (s.xs.length : Int) := I64.nat (by omega)
  have hla : (encInt (s.xs.length : Int)).length ≤ 10 := encInt_len hx2
  clear h hi hsB hv
  go_enter Try.func75, Try.ntmps75
  go_wp2_with (go_at_call 103; refine (bufInt_any g B _ [] _ H.out hB (by decide) hx2).mono ?_; rintro e w1 ⟨rfl, hwb, hwk⟩)
  have H1 := Lib.hid hwb
  have HK1 := Lib.hid hwk
  have hB1 := Nat.le_trans hB hwk.size
  clear hwb hwk
  go_loopw [7, 16] (fun _ i wr => ∃ k : Nat, k ≤ s.xs.length ∧ i = .int .i64 k ∧ Hid (WB wr g B (encInt (s.xs.length : Int) ++ ((pv s.xs).take k).flatMap encVer)) ∧ Hid (WK w wr g B)) (fun _ i _ => s.xs.length - (intOf i).toNat)
  case atStart => exact ⟨0, Nat.zero_le _, rfl, (by show WB _ _ _ _; simpa using H1.out), HK1⟩
  case round =>
    clear H1 HK1 hB1
    obtain ⟨k, hk, rfl, H1, HK1⟩ := hrel
    have hB1 := Nat.le_trans hB HK1.out.size
    have HI1 := Lib.hid (invs_keep HI.out HK1.out HSB.out hgB)
    by_cases hlt : k < s.xs.length
    · obtain ⟨b, o, hA, hb, c0, c1, c2, c3, c4, c5, c6, c7, c8, hr⟩ := ver_at HI1.out k hlt
      have HA := Lib.hid hA
      have HR := Lib.hid hr
      clear hr
      rw [hA]
      clear hA
      go_wp2_with (go_at_call 76; refine (wVersion_any g B s.xs[k] _ _ (H1.out.below (by exact BW.fin)) ?_ hgB ?_ (HV.out _ (List.getElem_mem hlt)) (HR.out.below (by exact BW.fin)) (foot_row hlt HSB.out)).mono ?_; (simp; omega); (simp only [List.length_append]; have := HL.out k; omega); rintro e w2 ⟨rfl, hwb, hwk⟩)
      have HK2 := Lib.hid (HK1.out.trans ((WK.of_below hB1 (BW.fin (w := wr))).trans hwk))
      have H2 := Lib.hid hwb
      clear hwb hwk
      go_roundw
      case rel => exact ⟨k + 1, by omega, by go_num, (by show WB _ _ _ _; rw [take_flat _ _ _ (by simpa [pv] using hlt), ← List.append_assoc]; simpa [pv] using H2.out), HK2⟩
      case measure => simp [intOf]; omega
    · go_wp2
      go_end0
      exact ⟨rfl, by have := H1.out; rw [List.take_of_length_le (by simp [pv]; omega)] at this; simpa [encVers, pv] using this, HK1.out⟩

/-- Bytes made by a call, and an error. -/
def BytesE (w : World) (r : List UInt8 × Int) (v : Value) (w' : World) : Prop :=
  ∃ s : Sl UInt8, v = .tuple #[.slice s.A s.xs.length s.cap, .int .i64 r.2] ∧ kByte.Inv w' s ∧ s.xs = r.1 ∧ ∀ k, k ∈ s.foot kByte → w.heap.size ≤ k
theorem BytesE.none (w w' : World) (e : Int) : BytesE w ([], e) (.tuple #[.slice none 0 0, .int .i64 e]) w' :=
  ⟨⟨Option.none, 0, []⟩, rfl, ⟨Nat.le_refl _, by decide, fun _ => rfl, fun h => absurd rfl h, fun _ _ => trivial⟩, rfl, fun k hk => by simp [Sl.foot, Sl.blk] at hk⟩
theorem encodeVers_long {l : List PVer} (h : 4096 < l.length) : encodeVers l = ([], 5) := by rw [encodeVers, if_pos h]
theorem encodeVers_bad {l : List PVer} (h : ¬ 4096 < l.length) (hc : chk okVer none l ≠ 0) : encodeVers l = ([], chk okVer none l) := by rw [encodeVers, if_neg h, if_pos hc]
theorem encodeVers_big {l : List PVer} (h : ¬ 4096 < l.length) (hc : chk okVer none l = 0) (hb : 1048576 < (encVers l).length) : encodeVers l = ([], 5) := by rw [encodeVers, if_neg h, if_neg (by simp [hc]), if_pos hb]
theorem encodeVers_ok {l : List PVer} (h : ¬ 4096 < l.length) (hc : chk okVer none l = 0) (hb : ¬ 1048576 < (encVers l).length) : encodeVers l = (encVers l, 0) := by rw [encodeVers, if_neg h, if_neg (by simp [hc]), if_neg hb]
theorem WK.below {w w' : World} {g B : Nat} (h : WK w w' g B) {C : Nat} (hB : C ≤ B) (hg : C ≤ g) : Below C w w' := ⟨h.os, h.tape, h.output, h.size, fun k hk => h.old k (by omega) (by omega)⟩
theorem pv_ok {l : List Ver} (h : chk okVer none (pv l) = 0) : ∀ v, v ∈ l → okVer v.p = true := fun v hv => chk_all _ _ h v.p (List.mem_map.2 ⟨v, hv, rfl⟩)
set_option maxRecDepth 100000 in
set_option maxHeartbeats 1000000 in
theorem encodeVersions_any (s : Sl Ver) (w : World) (hi : kVer.Inv w s) (hf : VFits s.xs) :
    AnsR Try.prog 44 #[.slice s.A s.xs.length s.cap] w (BytesE w (encodeVers (pv s.xs))) := by
  refine AnsR.of ?_
  have HI := Lib.hid hi
  have HC := Lib.hid (checkVersions_any s w hi hf)
  have hmx : s.xs.length ≤ 9223372036854775807 := Nat.le_trans hi.le hi.mx
  have hpl : (pv s.xs).length = s.xs.length := by simp [pv]
  have HPL := Lib.hid hpl
  clear hi hf hpl
  go_enter Try.func44, Try.ntmps44
  by_cases hlong : 4096 < s.xs.length
  · go_wp2_with fail
    go_ret2
    rw [encodeVers_long (by rw [HPL.out]; exact hlong)]
    exact AnsPost.mk (BytesE.none _ _ _) (Below.refl _ _)
  by_cases hc : chk okVer none (pv s.xs) = 0
  · have hcb : (chk okVer none (pv s.xs) != 0) = false := by simp [hc]
    have HV := Lib.hid (pv_ok hc)
    have HCZ := Lib.hid hc
    clear hc
    go_wp2_with (go_at_call 74; refine HC.out.mono ?_; rintro e w1 ⟨rfl, hb1⟩)
    have HB1 := Lib.hid hb1
    clear hb1
    go_wp2_with (go_at_call 75; refine (putVersions_any w1.heap.size w1.heap.size s _ ⟨_, heap_alloc_new w1 _, Own.nil _ _ _ _⟩ (by simp) (Nat.le_refl _) ((HI.out.below HB1.out).below (by exact BW.fin)) ((HI.out.below HB1.out).lt) HV.out (by omega)).mono ?_; rintro e w2 ⟨rfl, hwb, hwk⟩; obtain ⟨v2, hg2, ho2⟩ := hwb.out; obtain ⟨A2, c2, rfl, hi2, hk2⟩ := ho2.sl; have hcell := (cell_of_wb hg2).1; have HW2 := Lib.hid hwk; have HI2 := Lib.hid hi2; have HK2 := Lib.hid hk2; clear hwb hg2 ho2 hi2 hk2 hwk)
    all_goals
      have hbb : Below w.heap.size w w2 := HB1.out.trans ((((Below.refl w1.heap.size w1).alloc (Nat.le_refl _) _).trans (HW2.out.below (Nat.le_refl _) (Nat.le_refl _))).mono HB1.out.size)
      go_ret2
    · rw [encodeVers_big (by rw [HPL.out]; exact hlong) HCZ.out (by omega)]
      exact AnsPost.mk (BytesE.none _ _ _) hbb
    · rw [encodeVers_ok (by rw [HPL.out]; exact hlong) HCZ.out (by omega)]
      refine AnsPost.mk ⟨⟨A2, c2, encVers (pv s.xs)⟩, rfl, HI2.out, rfl, fun k hk => ?_⟩ hbb
      have h0 : List.flatMap kByte.foot (encVers (pv s.xs)) = [] := by simp [kByte, Kd.flat]
      rcases List.mem_append.1 hk with hk | hk
      · obtain ⟨a, ha, rfl, _⟩ := mem_blk hk
        exact Nat.le_trans HB1.out.size (HK2.out a ha).2
      · rw [h0] at hk; simp at hk
  · have hcb : (chk okVer none (pv s.xs) != 0) = true := by simpa using hc
    have HCN := Lib.hid hc
    clear hc
    go_wp2_with (go_at_call 74; refine HC.out.mono ?_; rintro e w1 ⟨rfl, hb1⟩)
    go_ret2
    rw [encodeVers_bad (by rw [HPL.out]; exact hlong) HCN.out]
    exact AnsPost.mk (BytesE.none _ _ _) hb1
end Go.Proofs.Ytndlhmnablefpaa

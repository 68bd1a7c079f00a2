/- What record's writer does with a version and with a list of versions; EncodeVersions. -/
import Derived.Test.YtndlhmnablefpaaRec3
namespace Go.Proofs.Ytndlhmnablefpaa
open Go.RowKit
/-- A version lies in block b, whole. -/
def BoxV (w : World) (b : Nat) (x : Ver) : Prop := w.heap[b]? = some (.cells x.cells.toArray 59 (0, 0))
theorem box9 {w : World} {b : Nat} {x : Ver} (h : BoxV w b x) : w.cell? ⟨b, 0, none⟩ = some (.int .i64 x.p.id) ∧ w.cell? ⟨b, 1, none⟩ = some (.int .i64 x.p.sch) ∧ w.cell? ⟨b, 2, none⟩ = some (.slice x.A x.p.row.length x.c) ∧ w.cell? ⟨b, 3, none⟩ = some (.int .i64 x.p.vf) ∧ w.cell? ⟨b, 4, none⟩ = some (.int .i64 x.p.vt) ∧ w.cell? ⟨b, 5, none⟩ = some (.int .i64 x.p.sf) ∧ w.cell? ⟨b, 6, none⟩ = some (.int .i64 x.p.st) ∧ w.cell? ⟨b, 7, none⟩ = some (.int .i64 x.p.by') ∧ w.cell? ⟨b, 8, none⟩ = some (.int .i64 x.p.un) := by
  refine ⟨?_, ?_, ?_, ?_, ?_, ?_, ?_, ?_, ?_⟩ <;> (rw [cell_of_row w b _ _ _ _ h]; rfl)
theorem BoxV.keep {w w' : World} {b g B : Nat} {x : Ver} (h : BoxV w b x) (hk : WK w w' g B) (hne : b ≠ g) : BoxV w' b x := (hk.typed b _ _ _ h (by decide) hne).trans h
theorem inv_keep {w w' : World} {g B : Nat} {r : Sl Vl} (h : kVl.Inv w r) (hk : WK w w' g B) (hB : ∀ k, k ∈ r.foot kVl → k < B) (hg : B ≤ g) : kVl.Inv w' r :=
  h.move fun k hkf => hk.old k (hB k hkf) (by have := hB k hkf; omega)
set_option maxRecDepth 100000 in
set_option maxHeartbeats 1600000 in
theorem wVersion_any (g B : Nat) (v : Ver) (xs : List UInt8) (w : World) (h : WB w g B xs) (hB : B ≤ w.heap.size) (hgB : B ≤ g) (hl : xs.length ≤ 140737488340000) (hv : okVer v.p = true) (hr : kVl.Inv w v.rowS) (hrB : ∀ k, k ∈ v.rowS.foot kVl → k < B) :
    Calls Try.prog 76 #[.pointer (some ⟨g, 0, none⟩), .agg v.cells.toArray] w fun e w' => e = .returned (.tuple #[]) ∧ WB w' g B (xs ++ encVer v.p) ∧ WK w w' g B := by
  have H := Lib.hid h
  have HR := Lib.hid hr
  have HRB := Lib.hid hrB
  have hgl : g < w.heap.size := by obtain ⟨_, hg, _⟩ := h.out; exact (Array.getElem?_eq_some_iff.1 hg).1
  have HV := Lib.hid (okVer_parts hv)
  clear h hr hrB
  have hb0 : BoxV (w.alloc (.cells v.cells.toArray 59)) w.heap.size v := heap_alloc_new w _
  have HB0 := Lib.hid hb0
  clear hb0
  simp only [Ver.cells]
  go_enter Try.func76, Try.ntmps76
  go_wp2_with fail
  generalize hW : w.alloc _ = W0
  have HW0 : Hid (BoxV W0 w.heap.size v ∧ BW w W0) := by subst hW; exact ⟨HB0.out, (BW.refl w).alloc _⟩
  clear hW HB0
  have HX := Lib.hid HW0.out.1
  replace H := Lib.hid (H.out.below HW0.out.2.out)
  replace HR := Lib.hid (HR.out.below HW0.out.2.out)
  have hbs := Nat.le_trans hB HW0.out.2.out.size
  have HK : Hid (WK w W0 g B) := WK.of_below hB HW0.out.2.out
  clear HW0
  have l1 := encInt_len HV.out.id
  have l2 := encInt_len HV.out.sch
  have l3 := encRow_len HV.out.row
  have l4 := encPer_len HV.out.vf HV.out.vt
  have l5 := encPer_len HV.out.sf HV.out.st
  have l6 := encInt_len HV.out.by'
  obtain ⟨d0, d1, d2, d3, d4, d5, d6, d7, d8⟩ := box9 HX.out
  go_still_tail 5, (by kernel_rfl)
  change wpList _ _ _ _ _ W0.drew
  have hdr : BW W0 W0.drew := (BW.refl _).drew
  replace H := Lib.hid (H.out.below hdr.out)
  replace HR := Lib.hid (HR.out.below hdr.out)
  replace HX := Lib.hid (HX.out.keep (WK.of_below (g := g) hbs hdr.out) (by omega))
  replace HK := Lib.hid (HK.out.trans (WK.of_below hbs hdr.out))
  clear d0 d1 d2 d3 d4 d5 d6 d7 d8
  have hbs' := Nat.le_trans hbs hdr.out.size
  clear hdr
  go_wp2_with (go_at_call 103; refine (bufInt_any g B _ _ _ H.out hbs' (by omega) HV.out.id).mono ?_; rintro e W1 ⟨rfl, hwb, hwk⟩)
  replace H := Lib.hid hwb
  replace HX := Lib.hid (HX.out.keep hwk (by omega))
  replace HR := Lib.hid (inv_keep HR.out hwk HRB.out hgB)
  replace HK := Lib.hid (HK.out.trans hwk)
  replace hbs := Nat.le_trans hbs' hwk.size
  clear hwb hwk hbs'
  obtain ⟨d0, d1, d2, d3, d4, d5, d6, d7, d8⟩ := box9 HX.out
  go_still_tail 5, (by kernel_rfl)
  change wpList _ _ _ _ _ W1.drew
  have hdr : BW W1 W1.drew := (BW.refl _).drew
  replace H := Lib.hid (H.out.below hdr.out)
  replace HR := Lib.hid (HR.out.below hdr.out)
  replace HX := Lib.hid (HX.out.keep (WK.of_below (g := g) hbs hdr.out) (by omega))
  replace HK := Lib.hid (HK.out.trans (WK.of_below hbs hdr.out))
  clear d0 d1 d2 d3 d4 d5 d6 d7 d8
  have hbs' := Nat.le_trans hbs hdr.out.size
  clear hdr
  go_wp2_with (go_at_call 103; refine (bufInt_any g B _ _ _ H.out hbs' (by simp only [List.length_append]; omega) HV.out.sch).mono ?_; rintro e W2 ⟨rfl, hwb, hwk⟩)
  replace H := Lib.hid hwb
  replace HX := Lib.hid (HX.out.keep hwk (by omega))
  replace HR := Lib.hid (inv_keep HR.out hwk HRB.out hgB)
  replace HK := Lib.hid (HK.out.trans hwk)
  replace hbs := Nat.le_trans hbs' hwk.size
  clear hwb hwk hbs'
  obtain ⟨d0, d1, d2, d3, d4, d5, d6, d7, d8⟩ := box9 HX.out
  go_still_tail 5, (by kernel_rfl)
  change wpList _ _ _ _ _ W2.drew
  have hdr : BW W2 W2.drew := (BW.refl _).drew
  replace H := Lib.hid (H.out.below hdr.out)
  replace HR := Lib.hid (HR.out.below hdr.out)
  replace HX := Lib.hid (HX.out.keep (WK.of_below (g := g) hbs hdr.out) (by omega))
  replace HK := Lib.hid (HK.out.trans (WK.of_below hbs hdr.out))
  clear d0 d1 d2 d3 d4 d5 d6 d7 d8
  have hbs' := Nat.le_trans hbs hdr.out.size
  clear hdr
  go_wp2_with (go_at_call 104; refine (bufRow_any g B v.rowS _ _ H.out hbs' (by simp only [List.length_append]; omega) HR.out HV.out.row).mono ?_; rintro e W3 ⟨rfl, hwb, hwk⟩)
  replace hwb : WB W3 g B (_ ++ encRow v.p.row) := hwb
  replace H := Lib.hid hwb
  replace HX := Lib.hid (HX.out.keep hwk (by omega))
  replace HR := Lib.hid (inv_keep HR.out hwk HRB.out hgB)
  replace HK := Lib.hid (HK.out.trans hwk)
  replace hbs := Nat.le_trans hbs' hwk.size
  clear hwb hwk hbs'
  obtain ⟨d0, d1, d2, d3, d4, d5, d6, d7, d8⟩ := box9 HX.out
  go_still_tail 5, (by kernel_rfl)
  change wpList _ _ _ _ _ W3.drew
  have hdr : BW W3 W3.drew := (BW.refl _).drew
  replace H := Lib.hid (H.out.below hdr.out)
  replace HR := Lib.hid (HR.out.below hdr.out)
  replace HX := Lib.hid (HX.out.keep (WK.of_below (g := g) hbs hdr.out) (by omega))
  replace HK := Lib.hid (HK.out.trans (WK.of_below hbs hdr.out))
  clear d0 d1 d2 d3 d4 d5 d6 d7 d8
  have hbs' := Nat.le_trans hbs hdr.out.size
  clear hdr
  go_wp2_with (go_at_call 105; refine (bufPer_any g B _ _ _ _ H.out hbs' (by simp only [List.length_append]; omega) HV.out.vf HV.out.vt).mono ?_; rintro e W4 ⟨rfl, hwb, hwk⟩)
  replace H := Lib.hid hwb
  replace HX := Lib.hid (HX.out.keep hwk (by omega))
  replace HR := Lib.hid (inv_keep HR.out hwk HRB.out hgB)
  replace HK := Lib.hid (HK.out.trans hwk)
  replace hbs := Nat.le_trans hbs' hwk.size
  clear hwb hwk hbs'
  obtain ⟨d0, d1, d2, d3, d4, d5, d6, d7, d8⟩ := box9 HX.out
  go_still_tail 5, (by kernel_rfl)
  change wpList _ _ _ _ _ W4.drew
  have hdr : BW W4 W4.drew := (BW.refl _).drew
  replace H := Lib.hid (H.out.below hdr.out)
  replace HR := Lib.hid (HR.out.below hdr.out)
  replace HX := Lib.hid (HX.out.keep (WK.of_below (g := g) hbs hdr.out) (by omega))
  replace HK := Lib.hid (HK.out.trans (WK.of_below hbs hdr.out))
  clear d0 d1 d2 d3 d4 d5 d6 d7 d8
  have hbs' := Nat.le_trans hbs hdr.out.size
  clear hdr
  go_wp2_with (go_at_call 105; refine (bufPer_any g B _ _ _ _ H.out hbs' (by simp only [List.length_append]; omega) HV.out.sf HV.out.st).mono ?_; rintro e W5 ⟨rfl, hwb, hwk⟩)
  replace H := Lib.hid hwb
  replace HX := Lib.hid (HX.out.keep hwk (by omega))
  replace HR := Lib.hid (inv_keep HR.out hwk HRB.out hgB)
  replace HK := Lib.hid (HK.out.trans hwk)
  replace hbs := Nat.le_trans hbs' hwk.size
  clear hwb hwk hbs'
  obtain ⟨d0, d1, d2, d3, d4, d5, d6, d7, d8⟩ := box9 HX.out
  go_still_tail 5, (by kernel_rfl)
  change wpList _ _ _ _ _ W5.drew
  have hdr : BW W5 W5.drew := (BW.refl _).drew
  replace H := Lib.hid (H.out.below hdr.out)
  replace HR := Lib.hid (HR.out.below hdr.out)
  replace HX := Lib.hid (HX.out.keep (WK.of_below (g := g) hbs hdr.out) (by omega))
  replace HK := Lib.hid (HK.out.trans (WK.of_below hbs hdr.out))
  clear d0 d1 d2 d3 d4 d5 d6 d7 d8
  have hbs' := Nat.le_trans hbs hdr.out.size
  clear hdr
  go_wp2_with (go_at_call 103; refine (bufInt_any g B _ _ _ H.out hbs' (by simp only [List.length_append]; omega) HV.out.by').mono ?_; rintro e W6 ⟨rfl, hwb, hwk⟩)
  replace H := Lib.hid hwb
  replace HX := Lib.hid (HX.out.keep hwk (by omega))
  replace HR := Lib.hid (inv_keep HR.out hwk HRB.out hgB)
  replace HK := Lib.hid (HK.out.trans hwk)
  replace hbs := Nat.le_trans hbs' hwk.size
  clear hwb hwk hbs'
  obtain ⟨d0, d1, d2, d3, d4, d5, d6, d7, d8⟩ := box9 HX.out
  go_still_tail 5, (by kernel_rfl)
  change wpList _ _ _ _ _ W6.drew
  have hdr : BW W6 W6.drew := (BW.refl _).drew
  replace H := Lib.hid (H.out.below hdr.out)
  replace HR := Lib.hid (HR.out.below hdr.out)
  replace HX := Lib.hid (HX.out.keep (WK.of_below (g := g) hbs hdr.out) (by omega))
  replace HK := Lib.hid (HK.out.trans (WK.of_below hbs hdr.out))
  clear d0 d1 d2 d3 d4 d5 d6 d7 d8
  have hbs' := Nat.le_trans hbs hdr.out.size
  clear hdr
  go_wp2_with (go_at_call 103; refine (bufInt_any g B _ _ _ H.out hbs' (by simp only [List.length_append]; omega) HV.out.un).mono ?_; rintro e W7 ⟨rfl, hwb, hwk⟩)
  go_end0
  exact ⟨rfl, by simpa only [encVer, List.append_assoc] using hwb, HK.out.trans hwk⟩
end Go.Proofs.Ytndlhmnablefpaa

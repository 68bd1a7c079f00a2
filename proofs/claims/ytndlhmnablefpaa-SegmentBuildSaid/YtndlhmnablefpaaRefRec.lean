/- What the references' checks of rows and versions answer: Printable, ValidValue, ValidRow, number, Period, Version, Before. -/
import Derived.Test.YtndlhmnablefpaaRec2
namespace Go.Proofs.Ytndlhmnablefpaa
open Go.RowKit
set_option linter.unusedSimpArgs false
set_option linter.unusedVariables false
set_option maxHeartbeats 400000 in
theorem rPrintable_any (s : ByteArray) (w : World) (hs : s.size ≤ 9223372036854775807) : Ans Try.prog 113 #[.string s] w (.bool (printable s.data.toList)) := by
  unfold Ans
  go_enter Try.func113, Try.ntmps113
  go_wp2_with fail
  go_loop [3] (fun i => ∃ k : Nat, k ≤ s.size ∧ i = .int .i64 k ∧ printable (s.data.toList.take k) = true) (fun i => s.size - (intOf i).toNat)
  case atStart => exact ⟨0, Nat.zero_le _, rfl, rfl⟩
  case round =>
    obtain ⟨k, hk, rfl, hp⟩ := hrel
    have HP := Lib.hid hp
    clear hp
    by_cases hlt : k < s.size
    · have hd : k < s.data.toList.length := by simpa using hlt
      have HS := Lib.hid (all_succ s.data.toList (fun c => decide (32 ≤ c.toNat) && decide (c.toNat ≤ 126)) k hd)
      have HN := Lib.hid (all_no s.data.toList (fun c => decide (32 ≤ c.toNat) && decide (c.toNat ≤ 126)) k hd)
      have HE := Lib.hid (show s.data.toList[k] = s[k] from rfl)
      go_wp2
      case _ => go_ret; exact ⟨ret_bool (by have h := HN.out; rw [HE.out] at h; exact (h (by simp; omega)).symm), below_refl w⟩
      case _ =>
        go_round
        case rel => exact ⟨k + 1, by omega, by go_num, by unfold printable at *; rw [HS.out, HE.out, HP.out]; simp; omega⟩
        case measure => simp [intOf]; omega
      case _ => go_ret; exact ⟨ret_bool (by have h := HN.out; rw [HE.out] at h; exact (h (by simp; omega)).symm), below_refl w⟩
    · go_wp2
      go_ret
      exact ⟨ret_bool (by rw [← HP.out, List.take_of_length_le (by simp; omega)]), below_refl w⟩
set_option maxHeartbeats 800000 in
theorem rValidValue_any (v : Vl) (w : World) (hs : v.t.size ≤ 9223372036854775807) : Ans Try.prog 96 #[.agg v.cells.toArray] w (.bool (okVal v)) := by
  obtain ⟨k, n, t⟩ := v
  unfold Ans
  simp only [Vl.cells] at hs ⊢
  go_enter Try.func96, Try.ntmps96
  go_wp2_with (go_at_call 113; refine (rPrintable_any t _ hs).mono ?_; rintro e w1 ⟨rfl, hb⟩)
  all_goals
    go_ret
    refine ⟨ret_bool (by first | (simp [okVal, *]; done) | (simp [okVal, *]; omega) | ((obtain rfl : k = 3 := by simpa using ‹(k == 3) = true›); simp [okVal, *]; try omega)), ?_⟩
    first | exact below_a (below_refl w) (Nat.le_refl _) _ | exact (below_a (below_refl w) (Nat.le_refl _) _).trans (hb.mono (by simp))
set_option maxHeartbeats 800000 in
theorem rValidRow_any (s : Sl Vl) (w : World) (h : kVl.Inv w s) (hf : Fits s.xs) :
    Ans Try.prog 66 #[.slice s.A s.xs.length s.cap] w (.bool (okRow s.xs)) := by
  unfold Ans
  have HF := Lib.hid hf
  have HI := Lib.hid h
  have hmx : s.xs.length ≤ 9223372036854775807 := Nat.le_trans h.le h.mx
  clear hf h
  go_enter Try.func66, Try.ntmps66
  go_wp2_with fail
  go_loopw [4, 7] (fun _ i wr => ∃ k : Nat, k ≤ s.xs.length ∧ i = .int .i64 k ∧ Hid ((s.xs.take k).all okVal = true) ∧ BW w wr) (fun _ i _ => s.xs.length - (intOf i).toNat)
  case atStart => exact ⟨0, Nat.zero_le _, rfl, rfl, BW.refl w⟩
  case round =>
    obtain ⟨k, hk, rfl, HP, HB⟩ := hrel
    by_cases hlt : k < s.xs.length
    · obtain ⟨b, o, hA, hb, c0, c1, c2⟩ := vl_at (HI.out.below HB.out) k hlt
      have HA := Lib.hid hA
      rw [hA]
      clear hA
      go_wp2_with (go_at_call 96; refine (rValidValue_any s.xs[k] _ (HF.out _ (List.getElem_mem hlt))).mono ?_; rintro e w1 ⟨rfl, hb1⟩; replace HB := BW.next hb1)
      case _ =>
        go_ret
        exact ⟨ret_bool (by unfold okRow; rw [all_no s.xs okVal k hlt (no_of ‹(!okVal s.xs[k]) = true›)]; simp), HB.out⟩
      case _ =>
        go_roundw
        case rel => exact ⟨k + 1, by omega, by go_num, all_step hlt HP (yes_of ‹(!okVal s.xs[k]) = false›), HB⟩
        case measure => simp [intOf]; omega
    · have HA := Lib.hid (all_end HP.out (by omega))
      go_wp2_with fail
      go_ret
      exact ⟨ret_bool (by rw [okRow, HA.out]; simp; omega), HB.out⟩
theorem number_any (n : Int) (w : World) : Calls Try.prog 65 #[.int .i64 n] w fun e w' => e = .returned (.bool (within n 0 1125899906842624)) ∧ w = w' := by
  go_enter Try.func65, Try.ntmps65
  go_wp2
  all_goals
    go_ret
    exact ⟨ret_bool (by simp [within, *]; try omega), rfl⟩
theorem rPeriod_any (a b : Int) (w : World) : Ans Try.prog 67 #[.agg #[.int .i64 a, .int .i64 b]] w (.bool (okPer a b)) := by
  unfold Ans
  go_enter Try.func67, Try.ntmps67
  go_wp2
  all_goals
    go_ret
    exact ⟨ret_bool (by simp [okPer, *]; try omega), below_a (below_refl w) (Nat.le_refl _) _⟩
theorem okVer_ref (v : PVer) : okVer v = (decide (1 ≤ v.id) && (within v.id 0 1125899906842624 && (decide (1 ≤ v.by') && (within v.by' 0 1125899906842624 && (within v.un 0 1125899906842624 && (decide (0 ≤ v.sch) && (decide (v.sch ≤ 64) && (okRow v.row && (okPer v.vf v.vt && okPer v.sf v.st))))))))) := by
  unfold okVer within
  rw [Bool.eq_iff_iff]
  simp only [Bool.and_eq_true, decide_eq_true_eq]
  refine ⟨fun h => ?_, fun h => ?_⟩
  · obtain ⟨h1, h2, h3, h4, h5, h6, h7⟩ := h
    exact ⟨h1.1, ⟨by omega, h1.2⟩, h2.1, ⟨by omega, h2.2⟩, h7, h3.1, h3.2, h4, h5, h6⟩
  · obtain ⟨h1, h2, h3, h4, h5, h6, h7, h8, h9, h10⟩ := h
    exact ⟨⟨h1, h2.2⟩, ⟨h3, h4.2⟩, ⟨h6, h7⟩, h8, h9, h10, h5⟩
set_option maxHeartbeats 1000000 in
theorem rVersion_any (v : Ver) (w : World) (h : kVl.Inv w v.rowS) (hf : Fits v.p.row) :
    Ans Try.prog 35 #[.agg v.cells.toArray] w (.bool (okVer v.p)) := by
  obtain ⟨⟨id, sch, row, vf, vt, sf, st, by', un⟩, A, c⟩ := v
  unfold Ans
  simp only [Ver.cells]
  have HI := Lib.hid h
  have HF := Lib.hid hf
  clear h hf
  go_enter Try.func35, Try.ntmps35
  have HB := BW.refl w
  go_wp2_with (first | (go_at_call 65; refine (number_any _ _).mono ?_; rintro e w1 ⟨rfl, rfl⟩) | (go_at_call 66; refine (rValidRow_any ⟨A, c, row⟩ _ (HI.out.below (below_a (below_refl w) (Nat.le_refl _) _)) HF.out).mono ?_; rintro e w2 ⟨rfl, hb2⟩; have hc2 := bcell hb2; have hz2 : w.heap.size < w2.heap.size := ltn hb2; replace HB := BW.next hb2) | (go_at_call 67; refine (rPeriod_any _ _ _).mono ?_; rintro e w3 ⟨rfl, hb3⟩; have hc3 := bcell hb3; have hz3 : w.heap.size < w3.heap.size := ltn hb3; replace HB := BW.next hb3))
  all_goals
    go_ret
    exact ⟨ret_bool (by rw [okVer_ref]; first | (simp [*]; done) | (simp [*]; omega)), BW.fin⟩
set_option maxHeartbeats 400000 in
theorem rBefore_any (a b : Ver) (w : World) : Ans Try.prog 36 #[.agg a.cells.toArray, .agg b.cells.toArray] w (.bool (before a.p b.p)) := by
  obtain ⟨⟨i1, s1, r1, vf1, vt1, sf1, st1, b1, u1⟩, A1, c1⟩ := a
  obtain ⟨⟨i2, s2, r2, vf2, vt2, sf2, st2, b2, u2⟩, A2, c2⟩ := b
  unfold Ans
  simp only [Ver.cells, before]
  go_enter Try.func36, Try.ntmps36
  go_wp2
  all_goals
    go_ret
    exact ⟨ret_bool (by simp [*]), BW.fin⟩
end Go.Proofs.Ytndlhmnablefpaa

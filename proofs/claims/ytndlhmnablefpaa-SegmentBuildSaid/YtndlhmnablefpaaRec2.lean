/- What record's checks of rows and versions answer. -/
import Derived.Test.YtndlhmnablefpaaRec1
namespace Go.Proofs.Ytndlhmnablefpaa
open Go.RowKit

/-- A row element's cells. -/
theorem vl_at {w : World} {s : Sl Vl} (h : kVl.Inv w s) (i : Nat) (hi : i < s.xs.length) : ∃ b o, s.A = some ⟨b, o, none⟩ ∧ b < w.heap.size ∧ w.cell? ⟨b, o + i * 3, none⟩ = some (.int .i64 s.xs[i].k) ∧ w.cell? ⟨b, o + i * 3 + 1, none⟩ = some (.int .i64 s.xs[i].n) ∧ w.cell? ⟨b, o + i * 3 + 2, none⟩ = some (.string s.xs[i].t) := by
  obtain ⟨b, o, hA, hb, hc, _⟩ := h.get i hi
  exact ⟨b, o, hA, hb, hc 0 _ rfl, hc 1 _ rfl, hc 2 _ rfl⟩
theorem ver_at {w : World} {s : Sl Ver} (h : kVer.Inv w s) (i : Nat) (hi : i < s.xs.length) : ∃ b o, s.A = some ⟨b, o, none⟩ ∧ b < w.heap.size ∧ w.cell? ⟨b, o + i * 9, none⟩ = some (.int .i64 s.xs[i].p.id) ∧ w.cell? ⟨b, o + i * 9 + 1, none⟩ = some (.int .i64 s.xs[i].p.sch) ∧ w.cell? ⟨b, o + i * 9 + 2, none⟩ = some (.slice s.xs[i].A s.xs[i].p.row.length s.xs[i].c) ∧ w.cell? ⟨b, o + i * 9 + 3, none⟩ = some (.int .i64 s.xs[i].p.vf) ∧ w.cell? ⟨b, o + i * 9 + 4, none⟩ = some (.int .i64 s.xs[i].p.vt) ∧ w.cell? ⟨b, o + i * 9 + 5, none⟩ = some (.int .i64 s.xs[i].p.sf) ∧ w.cell? ⟨b, o + i * 9 + 6, none⟩ = some (.int .i64 s.xs[i].p.st) ∧ w.cell? ⟨b, o + i * 9 + 7, none⟩ = some (.int .i64 s.xs[i].p.by') ∧ w.cell? ⟨b, o + i * 9 + 8, none⟩ = some (.int .i64 s.xs[i].p.un) ∧ kVl.Inv w s.xs[i].rowS := by
  obtain ⟨b, o, hA, hb, hc, hr⟩ := h.get i hi
  exact ⟨b, o, hA, hb, hc 0 _ rfl, hc 1 _ rfl, hc 2 _ rfl, hc 3 _ rfl, hc 4 _ rfl, hc 5 _ rfl, hc 6 _ rfl, hc 7 _ rfl, hc 8 _ rfl, hr⟩
/-- The texts of a row are no longer than a string may be. -/
def Fits (l : List Vl) : Prop := ∀ v, v ∈ l → v.t.size ≤ 9223372036854775807

theorem invalid_any (v : Vl) (w : World) (hs : v.t.size ≤ 9223372036854775807) : Ans Try.prog 122 #[.agg v.cells.toArray] w (.bool (!okVal v)) := by
  obtain ⟨k, n, t⟩ := v
  unfold Ans
  simp only [Vl.cells] at hs ⊢
  have hval := Lib.hid (fun w => valValid_any ⟨k, n, t⟩ w hs)
  go_enter Try.func122, Try.ntmps122
  go_wp2_with (go_at_call 123; refine (hval.out _).mono ?_; rintro e w1 ⟨rfl, hb⟩)
  go_ret
  exact ⟨rfl, (below_a (below_refl w) (Nat.le_refl _) _).trans (hb.mono (by simp))⟩
set_option maxHeartbeats 800000 in
theorem indexBad_any (s : Sl Vl) (w : World) (h : kVl.Inv w s) (hf : Fits s.xs) :
    AnsR Try.prog 126 #[.slice s.A s.xs.length s.cap, .func (.func 122) #[] #[]] w (fun v _ => ∃ n : Int, v = .int .i64 n ∧ decide (0 ≤ n) = !(s.xs.all okVal)) := by
  refine AnsR.of ?_
  have HF := Lib.hid hf
  have HI := Lib.hid h
  have hmx : s.xs.length ≤ 9223372036854775807 := Nat.le_trans h.le h.mx
  clear hf h
  go_enter Try.func126, Try.ntmps126
  go_wp2_with fail
  go_loopw [5, 8] (fun _ i wr => ∃ k : Nat, k ≤ s.xs.length ∧ i = .int .i64 k ∧ Hid ((s.xs.take k).all okVal = true) ∧ Below w.heap.size w wr) (fun _ i _ => s.xs.length - (intOf i).toNat)
  case atStart => exact ⟨0, Nat.zero_le _, rfl, rfl, below_refl w⟩
  case round =>
    obtain ⟨k, hk, rfl, HP, HB⟩ := hrel
    by_cases hlt : k < s.xs.length
    · obtain ⟨b, o, hA, hb, c0, c1, c2⟩ := vl_at (HI.out.below HB) k hlt
      have HA := Lib.hid hA
      rw [hA]
      clear hA
      go_wp2_with (go_at_call 122; refine (invalid_any s.xs[k] _ (HF.out _ (List.getElem_mem hlt))).mono ?_; rintro e w1 ⟨rfl, hb⟩)
      case _ =>
        go_ret
        exact AnsPost.mk ⟨k, rfl, by rw [all_no s.xs okVal k hlt (no_of ‹(!okVal s.xs[k]) = true›)]; simp⟩ (HB.trans (hb.mono HB.size))
      case _ =>
        go_roundw
        case rel => exact ⟨k + 1, by omega, by go_num, all_step hlt HP (yes_of ‹(!okVal s.xs[k]) = false›), HB.trans (hb.mono HB.size)⟩
        case measure => simp [intOf]; omega
    · go_wp2
      go_ret
      exact AnsPost.mk ⟨-1, rfl, by rw [all_end HP.out (by omega)]; rfl⟩ HB

theorem containsBad_any (s : Sl Vl) (w : World) (h : kVl.Inv w s) (hf : Fits s.xs) :
    Ans Try.prog 121 #[.slice s.A s.xs.length s.cap, .func (.func 122) #[] #[]] w (.bool (!s.xs.all okVal)) := by
  unfold Ans
  have HC := Lib.hid (indexBad_any s w h hf)
  clear hf h
  go_enter Try.func121, Try.ntmps121
  go_wp2_with (go_at_call 126; refine HC.out.mono ?_; rintro e w1 ⟨v, rfl, ⟨n, rfl, hn⟩, hb⟩; have HN := Lib.hid hn; clear hn)
  go_ret
  exact ⟨ret_bool HN.out, hb⟩
set_option maxHeartbeats 400000 in
theorem validRow_any (s : Sl Vl) (w : World) (h : kVl.Inv w s) (hf : Fits s.xs) :
    Ans Try.prog 115 #[.slice s.A s.xs.length s.cap] w (.bool (okRow s.xs)) := by
  unfold Ans
  have HC := Lib.hid (containsBad_any s w h hf)
  have hmx : s.xs.length ≤ 9223372036854775807 := Nat.le_trans h.le h.mx
  clear hf h
  go_enter Try.func115, Try.ntmps115
  go_wp2_with (go_at_call 121; refine HC.out.mono ?_; rintro e w1 ⟨rfl, hb⟩)
  all_goals
    go_ret
    exact ⟨ret_bool (by simp [okRow, *]; try omega), by first | exact hb | exact below_refl w⟩
set_option maxHeartbeats 1000000 in
theorem validVersion_any (v : Ver) (w : World) (h : kVl.Inv w v.rowS) (hf : Fits v.p.row) :
    Ans Try.prog 101 #[.agg v.cells.toArray] w (.bool (okVer v.p)) := by
  obtain ⟨⟨id, sch, row, vf, vt, sf, st, by', un⟩, A, c⟩ := v
  unfold Ans
  simp only [Ver.cells]
  have HI := Lib.hid h
  have HF := Lib.hid hf
  clear h hf
  simp only [okVer]
  go_enter Try.func101, Try.ntmps101
  have HB := BW.refl w
  go_wp2_with (first | (go_at_call 114; refine (within_any _ _ _ _).mono ?_; rintro e w1 ⟨rfl, rfl⟩) | (go_at_call 115; refine (validRow_any ⟨A, c, row⟩ _ (HI.out.below (below_a (below_refl w) (Nat.le_refl _) _)) HF.out).mono ?_; rintro e w2 ⟨rfl, hb2⟩; have hc2 := bcell hb2; have hz2 : w.heap.size < w2.heap.size := ltn hb2; replace HB := BW.next hb2) | (go_at_call 58; refine (perValid_any _ _ _).mono ?_; rintro e w3 ⟨rfl, hb3⟩; have hc3 := bcell hb3; have hz3 : w.heap.size < w3.heap.size := ltn hb3; replace HB := BW.next hb3))
  all_goals
    go_ret
    exact ⟨ret_bool (by simp [*]), BW.fin⟩

set_option maxHeartbeats 400000 in
theorem follows_any (a b : Ver) (w : World) : Ans Try.prog 102 #[.agg a.cells.toArray, .agg b.cells.toArray] w (.bool (before a.p b.p)) := by
  obtain ⟨⟨i1, s1, r1, vf1, vt1, sf1, st1, b1, u1⟩, A1, c1⟩ := a
  obtain ⟨⟨i2, s2, r2, vf2, vt2, sf2, st2, b2, u2⟩, A2, c2⟩ := b
  unfold Ans
  simp only [Ver.cells, before]
  go_enter Try.func102, Try.ntmps102
  go_wp2
  all_goals
    go_ret
    exact ⟨ret_bool (by simp [*]), BW.fin⟩
def pv (l : List Ver) : List PVer := l.map (·.p)
theorem pv_len (xs : List Ver) : (pv xs).length = xs.length := by simp [pv]
def VFits (l : List Ver) : Prop := ∀ v, v ∈ l → Fits v.p.row
set_option maxHeartbeats 1000000 in
set_option maxRecDepth 100000 in
theorem checkVersions_any (s : Sl Ver) (w : World) (h : kVer.Inv w s) (hf : VFits s.xs) :
    Ans Try.prog 74 #[.slice s.A s.xs.length s.cap] w (.int .i64 (chk okVer none (pv s.xs))) := by
  unfold Ans
  have HF := Lib.hid hf
  have HI := Lib.hid h
  have hmx : s.xs.length ≤ 9223372036854775807 := Nat.le_trans h.le h.mx
  clear hf h
  go_enter Try.func74, Try.ntmps74
  go_wp2_with fail
  go_loopw [3, 4, 7] (fun _ _ i wr => ∃ k : Nat, k ≤ s.xs.length ∧ i = .int .i64 k ∧ Hid (chk okVer none (pv s.xs) = chk okVer (prevAt (pv s.xs) k) ((pv s.xs).drop k)) ∧ BW w wr) (fun _ _ i _ => s.xs.length - (intOf i).toNat)
  case atStart => exact ⟨0, Nat.zero_le _, rfl, rfl, BW.refl w⟩
  case round =>
    obtain ⟨k, hk, rfl, HP, HB⟩ := hrel
    by_cases hlt : k < s.xs.length
    · obtain ⟨b, o, hA, hb, c0, c1, c2, c3, c4, c5, c6, c7, c8, hr⟩ := ver_at (HI.out.below HB.out) k hlt
      have HA := Lib.hid hA
      have HR := Lib.hid hr
      clear hr
      rw [hA]
      clear hA
      go_wp2_with (go_at_call 101; refine (validVersion_any s.xs[k] _ (HR.out.below (by first | exact BW.fin)) (HF.out _ (List.getElem_mem hlt))).mono ?_; rintro e w1 ⟨rfl, hb1⟩; replace HB := BW.next hb1)
      case _ =>
        go_ret
        exact ⟨ret_i64 (chk_bad (l := pv s.xs) (by simpa [pv] using hlt) HP.out (by simpa [pv] using no_of ‹_›)).symm, HB.out⟩
      case _ =>
        by_cases h0 : 0 < k
        · obtain ⟨b', o', hA', hb', d0, d1, d2, d3, d4, d5, d6, d7, d8, hr'⟩ := ver_at (HI.out.below HB.out) (k - 1) (by omega)
          have hA2 := hA'.symm.trans HA.out
          simp only [Option.some.injEq, Addr.mk.injEq, and_true] at hA2
          obtain ⟨rfl, rfl⟩ := hA2
          have hcc := bcell hb1
          obtain ⟨q1, q2, q3, q4, q5⟩ := idx_pred h0 hlt hmx
          go_still_tail 9, (by kernel_rfl)
          change wpList _ _ _ _ _ w1.drew
          go_wp2_with (go_at_call 102; refine (follows_any s.xs[k - 1] s.xs[k] _).mono ?_; rintro e w2 ⟨rfl, hb2⟩; replace HB := BW.next hb2)
          case _ =>
            go_ret
            exact ⟨ret_i64 (chk_order (l := pv s.xs) (k := k) (by simpa [pv] using hlt) HP.out (by simpa [pv] using yes_of ‹(!okVer _) = false›) h0 (by simpa [pv] using no_of ‹(!before _ _) = true›)).symm, HB.out⟩
          case _ =>
            go_roundw
            case rel => exact ⟨k + 1, by omega, by go_num, chk_next (l := pv s.xs) (k := k) (by simpa [pv] using hlt) HP.out (by simpa [pv] using yes_of ‹(!okVer _) = false›) (fun _ => by simpa [pv] using yes_of ‹(!before _ _) = false›), HB⟩
            case measure => simp [intOf]; omega
        · obtain rfl : k = 0 := by omega
          have hd : decide ((0 : Nat) < 0) = false := rfl
          go_quiet (fail)
          go_wp2
          go_roundw
          case rel => exact ⟨1, by omega, by go_num, chk_next (l := pv s.xs) (k := 0) (by simpa [pv] using hlt) HP.out (by simpa [pv] using yes_of ‹(!okVer _) = false›) (fun h => absurd h (by omega)), HB.drewN _⟩
          case measure => simp [intOf]; omega
    · go_wp2
      go_ret
      exact ⟨ret_i64 (chk_end (by simp [pv]; omega) HP.out).symm, HB.out⟩
end Go.Proofs.Ytndlhmnablefpaa

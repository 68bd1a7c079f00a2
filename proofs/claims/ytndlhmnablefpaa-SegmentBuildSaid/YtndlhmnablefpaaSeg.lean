/- An opened segment: its table, how many versions and blocks. -/
import Derived.Test.YtndlhmnablefpaaBuild
import Derived.Test.YtndlhmnablefpaaOvl
import Derived.Test.YtndlhmnablefpaaClo
namespace Go.Proofs.Ytndlhmnablefpaa
open Go.RowKit
set_option linter.unusedSimpArgs false
set_option linter.unusedVariables false
/-- A segment lies in block g. -/
structure SegAt (w : World) (g : Nat) (t : ByteArray) (s : Sl (Sl Ver)) : Prop where
  at' : w.heap[g]? = some (.cells #[.string t, .slice s.A s.xs.length s.cap] 90 (0, 0))
  inv : kBlc.Inv w s
theorem SegAt.lt {w : World} {g : Nat} {t : ByteArray} {s : Sl (Sl Ver)} (h : SegAt w g t s) : g < w.heap.size := (Array.getElem?_eq_some_iff.1 h.at').1
theorem SegAt.bw {w w' : World} {g : Nat} {t : ByteArray} {s : Sl (Sl Ver)} (h : SegAt w g t s) (hb : BW w w') : SegAt w' g t s := ⟨(hb.out.block g h.lt).trans h.at', h.inv.below hb.out⟩
theorem SegAt.cells {w : World} {g : Nat} {t : ByteArray} {s : Sl (Sl Ver)} (h : SegAt w g t s) : w.cell? ⟨g, 0, none⟩ = some (.string t) ∧ w.cell? ⟨g, 1, none⟩ = some (.slice s.A s.xs.length s.cap) := by
  refine ⟨?_, ?_⟩ <;> (rw [cell_of_row w g _ _ _ _ h.at']; rfl)
set_option maxRecDepth 100000 in
set_option maxHeartbeats 1000000 in
theorem table_any (g : Nat) (t : ByteArray) (s : Sl (Sl Ver)) (w : World) (h : SegAt w g t s) : Ans Try.prog 23 #[.pointer (some ⟨g, 0, none⟩)] w (.string t) := by
  unfold Ans
  obtain ⟨c0, c1⟩ := h.cells
  clear h
  go_enter Try.func23, Try.ntmps23
  go_wp2_with fail
  go_ret
  exact ⟨rfl, (BW.refl w).out⟩
set_option maxRecDepth 100000 in
set_option maxHeartbeats 1000000 in
theorem blocks_any (g : Nat) (t : ByteArray) (s : Sl (Sl Ver)) (w : World) (h : SegAt w g t s) : Ans Try.prog 25 #[.pointer (some ⟨g, 0, none⟩)] w (.int .i64 (s.xs.length : Int)) := by
  unfold Ans
  obtain ⟨c0, c1⟩ := h.cells
  clear h
  go_enter Try.func25, Try.ntmps25
  go_wp2_with fail
  go_ret
  exact ⟨rfl, (BW.refl w).out⟩
theorem flat_le {s : List (Sl Ver)} {k : Nat} (hk : k < s.length) : ((s.take k).flatMap (·.xs)).length + s[k].xs.length ≤ (s.flatMap (·.xs)).length := by
  have h1 := take_flat (·.xs) s k hk
  have h2 : (s.flatMap (·.xs)).length = ((s.take (k + 1)).flatMap (·.xs)).length + ((s.drop (k + 1)).flatMap (·.xs)).length := by
    rw [← List.length_append, ← List.flatMap_append, List.take_append_drop]
  rw [h1, List.length_append] at h2
  omega
set_option maxRecDepth 100000 in
set_option maxHeartbeats 1000000 in
theorem len_any (g : Nat) (t : ByteArray) (s : Sl (Sl Ver)) (w : World) (h : SegAt w g t s) (hl : (s.xs.flatMap (·.xs)).length ≤ 1000000) : Ans Try.prog 24 #[.pointer (some ⟨g, 0, none⟩)] w (.int .i64 ((s.xs.flatMap (·.xs)).length : Int)) := by
  unfold Ans
  have HS := Lib.hid h
  obtain ⟨c0, c1⟩ := h.cells
  have hmx : s.xs.length ≤ 9223372036854775807 := Nat.le_trans h.inv.le h.inv.mx
  clear h
  go_enter Try.func24, Try.ntmps24
  go_wp2_with fail
  go_loopw [3, 5, 13] (fun n _ i wr => ∃ (k m : Nat), k ≤ s.xs.length ∧ i = .int .i64 (k : Int) ∧ n = .int .i64 (m : Int) ∧ Hid (m = ((s.xs.take k).flatMap (·.xs)).length) ∧ BW w wr) (fun _ _ i _ => s.xs.length - (intOf i).toNat)
  case atStart => exact ⟨0, 0, Nat.zero_le _, rfl, rfl, rfl, BW.refl w⟩
  case round =>
    clear c0 c1
    obtain ⟨k, m, hk, rfl, rfl, HM, HB⟩ := hrel
    by_cases hlt : k < s.xs.length
    · obtain ⟨b, o, hA, hb, c0, c1, c2, c3, c4, hr⟩ := blc_at (HS.out.inv.below HB.out) k hlt
      have HA := Lib.hid hA
      rw [hA]
      clear hA hr
      have hfl := flat_le hlt
      rw [← HM.out] at hfl
      have hsum : IntKind.i64.wrap ((m : Int) + (s.xs[k].xs.length : Int)) = ((m + s.xs[k].xs.length : Nat) : Int) := by rw [IntWalk.i64_in _ (by omega)]; omega
      have HT := Lib.hid (take_flat (·.xs) s.xs k hlt)
      go_wp2_with fail
      go_roundw
      case rel => exact ⟨k + 1, m + s.xs[k].xs.length, by omega, by go_num, by go_num, by show _ = _; rw [HT.out, List.length_append, ← HM.out], HB.alloc _⟩
      case measure => simp [intOf]; omega
    · have HE : Hid (m = (s.xs.flatMap (·.xs)).length) := by
        have := HM.out
        rwa [List.take_of_length_le (by omega)] at this
      go_wp2_with fail
      go_ret
      exact ⟨by rw [HE.out]; rfl, HB.out⟩
/-- The versions' copies: the same data, in new memory. -/
def VersPost (w : World) (l : List PVer) (e : Ending) (w' : World) : Prop := ∃ (A : Option Addr) (c : Nat) (zs : List Ver), e = .returned (.slice A zs.length c) ∧ kVer.Inv w' ⟨A, c, zs⟩ ∧ pv zs = l ∧ Below w.heap.size w w'
set_option maxRecDepth 100000 in
set_option maxHeartbeats 2000000 in
theorem versions_any (g : Nat) (t : ByteArray) (s : Sl (Sl Ver)) (w : World) (h : SegAt w g t s) (hl : (s.xs.flatMap (·.xs)).length ≤ 1000000) (hr : ∀ x, x ∈ s.xs → ∀ v, v ∈ x.xs → v.p.row.length * 32 ≤ 140737488355328) :
    Calls Try.prog 26 #[.pointer (some ⟨g, 0, none⟩)] w (VersPost w (pv (s.xs.flatMap (·.xs)))) := by
  have HS := Lib.hid h
  have HR := Lib.hid hr
  obtain ⟨c0, c1⟩ := h.cells
  have hmx : s.xs.length ≤ 9223372036854775807 := Nat.le_trans h.inv.le h.inv.mx
  clear h hr
  go_enter Try.func26, Try.ntmps26
  go_wp2_with fail
  go_loopw [3, 5, 7, 15, 22] (fun v _ _ i _ wr => ∃ (k : Nat) (zs : List Ver), k ≤ s.xs.length ∧ i = .int .i64 (k : Int) ∧ Hid (Own kVer 59 wr w.heap.size v zs) ∧ Hid (pv zs = pv ((s.xs.take k).flatMap (·.xs))) ∧ BW w wr) (fun _ _ _ i _ _ => s.xs.length - (intOf i).toNat)
  case atStart => exact ⟨0, [], Nat.zero_le _, rfl, Own.nil _ _ _ _, rfl, BW.refl w⟩
  case round =>
    clear c0 c1
    obtain ⟨k, zs, hk, rfl, HO, HZ, HB⟩ := hrel
    by_cases hlt : k < s.xs.length
    · obtain ⟨b, o, hA, hb, c0, c1, c2, c3, c4, hr⟩ := blc_at (HS.out.inv.below HB.out) k hlt
      have HA := Lib.hid hA
      have HX := Lib.hid hr
      rw [hA]
      clear hA hr
      have hfl := flat_le hlt
      have HT := Lib.hid (take_flat (·.xs) s.xs k hlt)
      obtain ⟨x, hx⟩ : ∃ x, x = s.xs[k] := ⟨_, rfl⟩
      have HRX : Hid (∀ v, v ∈ x.xs → v.p.row.length * 32 ≤ 140737488355328) := by show _; rw [hx]; exact HR.out _ (List.getElem_mem hlt)
      have HX0 : Hid (kVer.Inv w x) := by rw [hx]; exact HS.out.inv.inv _ (List.getElem_mem hlt)
      rw [← hx] at c0 c1 c2 c3 c4 HX HT hfl
      clear hx
      have hxm : x.xs.length ≤ 9223372036854775807 := Nat.le_trans HX.out.le HX.out.mx
      go_wp2_with fail
      go_loopw [3, 7, 22] (fun v _ j wq => ∃ (m : Nat) (ys : List Ver), m ≤ x.xs.length ∧ j = .int .i64 (m : Int) ∧ Hid (Own kVer 59 wq w.heap.size v ys) ∧ Hid (pv ys = pv ((s.xs.take k).flatMap (·.xs)) ++ (pv x.xs).take m) ∧ ys.length ≤ 1000000 ∧ BW w wq) (fun _ _ j _ => x.xs.length - (intOf j).toNat)
      case atStart => exact ⟨0, zs, Nat.zero_le _, rfl, HO.out.alloc _, by show _ = _; rw [HZ.out]; simp, by have := congrArg List.length HZ.out; rw [pv_len', pv_len'] at this; omega, HB.alloc _⟩
      case round =>
        clear HO HB HZ HX c0 c1 c2 c3 c4 hb
        obtain ⟨m, ys, hm, rfl, HO, HY, hyl, HB⟩ := hrel
        by_cases hltm : m < x.xs.length
        · have HXI := Lib.hid (HX0.out.below HB.out)
          obtain ⟨b1, o1, hA1, hb1, c0, c1, c2, c3, c4, c5, c6, c7, c8, hr⟩ := ver_at HXI.out m hltm
          have HA1 := Lib.hid hA1
          have HRW := Lib.hid (HXI.out.inv _ (List.getElem_mem hltm))
          have HLR := Lib.hid (HRX.out _ (List.getElem_mem hltm))
          rw [hA1]
          clear hA1 hr
          have hyl2 : ys.length + 1 ≤ 1000000 := by
            have h1 := congrArg List.length HY.out
            rw [List.length_append, List.length_take, pv_len', pv_len', pv_len'] at h1
            omega
          have HROW := Lib.hid (fun y hy => (HO.out.base_le y hy).2)
          go_wp2_with (first
            | (go_at_call 57; refine Calls.mono (clone_any x.xs[m] _ (kVer.below HRW.out (by exact BW.fin)) HLR.out) ?_; rintro e2 w2 ⟨z, rfl, hz1, hz2, hz3, b2⟩; simp only [Ver.cells]; have HB2 := BW.next b2 (h := HB.alloc _); have HO2 := Lib.hid (HO.out.below (BW.next b2 (h := (BW.refl _).alloc _)).out); have HZ1 := Lib.hid hz1; have HZ2 := Lib.hid hz2; have HZ3 := Lib.hid hz3; clear hz1 hz2 hz3 b2)
            | (at_builtin; refine append_one kVer w.heap.size rfl (.tmp 26) (.tmp 29) 29 59 88 rfl Try.underlying29 info_ver _ _ ys z _ rfl rfl _ rfl rfl (Apd.own HO2.out) HZ2.out ?ap HB2.out.size (by omega) ?_; (case ap => exact fun y hy he => by have h1 := HROW.out y he; have h2 := HZ3.out y hy; simp at h2; omega); intro v3 w3 ho hg; have HO3 := Lib.hid ho; have HB3 : BW w w3 := ⟨HB2.out.trans (hg.below HB2.out.size (fun y hy => (HO2.out.base_le y hy).1))⟩; clear ho hg))
          go_roundw
          case rel =>
            refine ⟨m + 1, ys ++ [z], by omega, by go_num, HO3, ?_, by simp; omega, HB3⟩
            have hmp : m < (pv x.xs).length := by rw [pv_len']; exact hltm
            show _ = _
            rw [List.take_succ_eq_append_getElem hmp, ← List.append_assoc, ← HY.out]
            simp [pv, HZ1.out]
          case measure => simp [intOf]; omega
        · go_wp2_with fail
          go_roundw
          case rel =>
            refine ⟨k + 1, ys, by omega, by go_num, HO, ?_, HB⟩
            have := HY.out
            rw [List.take_of_length_le (l := pv x.xs) (by rw [pv_len']; omega)] at this
            show _ = _
            rw [this, HT.out]
            simp [pv]
          case measure => simp [intOf]; omega
    · have HE : Hid (pv zs = pv (s.xs.flatMap (·.xs))) := by
        have := HZ.out
        rwa [List.take_of_length_le (by omega)] at this
      obtain ⟨A9, c9, hv9, hi9, _⟩ := HO.out.sl
      have HI9 := Lib.hid hi9
      subst hv9
      clear hi9
      go_wp2_with fail
      go_ret
      exact ⟨A9, c9, zs, rfl, HI9.out, HE.out, HB.out⟩
/-- The worlds of the region that asks whether a version is in the rectangle. -/
def SrC (W0 : World) (g : Nat) (R : Rc) (v : Nat) (x : Ver) (W : World) : Prop := BoxR W g R ∧ BoxV W v x ∧ BW W0 W
theorem SrC.bw {W0 W W' : World} {g v : Nat} {R : Rc} {x : Ver} (h : SrC W0 g R v x W) (hb : BW W W') : SrC W0 g R v x W' := ⟨h.1.bw hb, h.2.1.bw hb, h.2.2.trans hb⟩
theorem rect_lit (v : Ver) (w : World) : Ans Try.prog 60 #[.agg v.cells.toArray] w (.agg #[.int .i64 v.p.vf, .int .i64 v.p.vt, .int .i64 v.p.sf, .int .i64 v.p.st]) := rect_any v w
theorem over_rc (v : Ver) (r : Rc) (w : World) : Ans Try.prog 59 #[.agg #[.int .i64 v.p.vf, .int .i64 v.p.vt, .int .i64 v.p.sf, .int .i64 v.p.st], .agg #[.int .i64 r.vf, .int .i64 r.vt, .int .i64 r.sf, .int .i64 r.st]] w (.bool (over (rc v.p) r)) := rOver_any (rc v.p) r w
/-- What is found, and how many blocks were read. -/
def SearchPost (w : World) (r : List PVer × Nat) (e : Ending) (w' : World) : Prop := ∃ (A : Option Addr) (c : Nat) (zs : List Ver), e = .returned (.tuple #[.slice A zs.length c, .int .i64 (r.2 : Int)]) ∧ kVer.Inv w' ⟨A, c, zs⟩ ∧ pv zs = r.1 ∧ Below w.heap.size w w'
theorem SearchPost.none {w w' : World} {r : List PVer × Nat} (hr : r = ([], 0)) (hb : Below w.heap.size w w') : SearchPost w r (.returned (.tuple #[.slice Option.none 0 0, .int .i64 0])) w' := by
  subst hr; exact ⟨Option.none, 0, [], rfl, Kd.Inv.empty _ _ (by decide) (fun _ => rfl), rfl, hb⟩
end Go.Proofs.Ytndlhmnablefpaa

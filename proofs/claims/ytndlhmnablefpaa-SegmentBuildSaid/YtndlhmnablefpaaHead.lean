/- segment.head: the body of the first frame. -/
import Derived.Test.YtndlhmnablefpaaCut
import Derived.Test.YtndlhmnablefpaaEnc1
namespace Go.Proofs.Ytndlhmnablefpaa
open Go.RowKit
set_option linter.unusedSimpArgs false
set_option linter.unusedVariables false
/-- A block lies in block b, whole. -/
def BoxB (w : World) (b : Nat) (x : Sl Ver) : Prop := w.heap[b]? = some (.cells (kBlc.cells x).toArray 78 (0, 0))
theorem boxb5 {w : World} {b : Nat} {x : Sl Ver} (h : BoxB w b x) (q : Rc) (hq : q = bnd (pv x.xs)) : w.cell? ⟨b, 0, none⟩ = some (.int .i64 q.vf) ∧ w.cell? ⟨b, 1, none⟩ = some (.int .i64 q.vt) ∧ w.cell? ⟨b, 2, none⟩ = some (.int .i64 q.sf) ∧ w.cell? ⟨b, 3, none⟩ = some (.int .i64 q.st) ∧ w.cell? ⟨b, 4, none⟩ = some (.slice x.A x.xs.length x.cap) := by
  subst hq
  refine ⟨?_, ?_, ?_, ?_, ?_⟩ <;> (rw [cell_of_row w b _ _ _ _ h]; rfl)
theorem BoxB.bw {w w' : World} {b : Nat} {x : Sl Ver} (h : BoxB w b x) (hb : BW w w') : BoxB w' b x := (hb.out.block b (Array.getElem?_eq_some_iff.1 h).1).trans h
theorem BoxB.gr {w w' : World} {b : Nat} {x : Sl Ver} {r r' : Option Nat} (h : BoxB w b x) (hg : Gr w w' r r') (hne : r ≠ some b) : BoxB w' b x := (hg.by'.block b (Array.getElem?_eq_some_iff.1 h).1 (fun e => hne e.symm)).trans h
theorem encRc_len' {r : Rc} (h : RcOk r) : (encPer r.vf r.vt).length ≤ 20 ∧ (encPer r.sf r.st).length ≤ 20 := by
  have h1 := okPer_i64 h.v
  have h2 := okPer_i64 h.s
  exact ⟨encPer_len h1.1 h1.2, encPer_len h2.1 h2.2⟩
theorem encRc_at {bs : List (Sl Ver)} (h : ∀ x, x ∈ bs → RcOk (bnd (pv x.xs))) (k : Nat) : (((bl bs).take k).flatMap fun x => encRc (bnd x)).length ≤ bs.length * 40 := by
  refine Nat.le_trans (flatMap_len (fun x => encRc (bnd x)) 40 _ fun x hx => ?_) (Nat.mul_le_mul_right _ ?_)
  · obtain ⟨y, hy, rfl⟩ := List.mem_map.1 (List.mem_of_mem_take hx)
    have := encRc_len' (h y hy)
    unfold encRc
    rw [List.length_append]
    omega
  · simp [bl]; omega
theorem ownB_apd {w : World} {base : Nat} {v : Value} {xs : List UInt8} (h : Own kByte 5 w base v xs) : ∃ (A : Option Addr) (c : Nat), v = .slice A xs.length c ∧ kByte.Inv w ⟨A, c, xs⟩ ∧ ∀ k, v.ownBlock = some k → base ≤ k := by
  obtain ⟨A, c, rfl, hi, hb⟩ := h.sl
  refine ⟨A, c, rfl, hi, fun k hk => (h.base_le k hk).1⟩
set_option maxRecDepth 100000 in
set_option maxHeartbeats 2000000 in
theorem head_any (t : ByteArray) (n : Nat) (s : Sl (Sl Ver)) (w : World) (h : kBlc.Inv w s) (ht : t.size ≤ 1000000) (hn : n ≤ 1000000000) (hl : s.xs.length ≤ 1000000000) (hr : ∀ x, x ∈ s.xs → RcOk (bnd (pv x.xs))) :
    Calls Try.prog 43 #[.string t, .int .i64 (n : Int), .slice s.A s.xs.length s.cap] w (PutPost kByte 5 w.heap.size none (encHead t.data.toList n (bl s.xs)) w) := by
  have HI := Lib.hid h
  have HR := Lib.hid hr
  have HL := Lib.hid (encRc_at hr)
  have l1 : (encText t.data.toList).length ≤ 1000010 := by
    have := encInt_len (I64.nat (n := t.data.toList.length) (by simp; omega))
    unfold encText
    rw [List.length_append]
    simp at *
    omega
  have i2 : I64 (n : Int) := I64.nat (by omega)
  have i3 : I64 (s.xs.length : Int) := I64.nat (by omega)
  have l2 := encInt_len i2
  have l3 := encInt_len i3
  clear h hr
  go_enter Try.func43, Try.ntmps43
  go_wp2_with fail
  refine Calls.mono (putText_any ⟨none, 0, []⟩ t w ⟨Kd.Inv.empty _ _ (by decide) (fun _ => rfl), by simp⟩ (by simp; omega)) ?_
  rintro e1 w1 ⟨v1, rfl, ho1, hg1⟩
  obtain ⟨A1, c1, rfl, hi1, hb1⟩ := ownB_apd ho1
  have HB1 : BW w w1 := ⟨hg1.belowN⟩
  clear ho1 hg1 hb1
  go_wp2_with fail
  refine Calls.mono (putInt_any ⟨A1, c1, encText t.data.toList⟩ n w1 ⟨hi1, by simp only; omega⟩ i2) ?_
  rintro e2 w2 ⟨v2, rfl, ho2, hg2⟩
  obtain ⟨H2, hH2⟩ : ∃ H2, H2 = encText t.data.toList ++ encInt n := ⟨_, rfl⟩
  have hH2l : H2.length ≤ 1000020 := by rw [hH2, List.length_append]; omega
  rw [← hH2] at ho2
  have HH2 := Lib.hid hH2
  clear hH2
  obtain ⟨A2, c2, rfl, hi2, hb2⟩ := ownB_apd ho2
  have HB2 : BW w w2 := HB1.trans ⟨hg2.belowN⟩
  clear ho2 hg2 hb2 hi1 HB1
  go_wp2_with fail
  refine Calls.mono (putInt_any ⟨A2, c2, H2⟩ s.xs.length w2 ⟨hi2, by simp only; omega⟩ i3) ?_
  rintro e3 w3 ⟨v3, rfl, ho3, hg3⟩
  have HB3 : BW w w3 := HB2.trans ⟨hg3.belowN⟩
  obtain ⟨H, hH⟩ : ∃ H, H = H2 ++ encInt s.xs.length := ⟨_, rfl⟩
  have HHL : Hid (H.length ≤ 2000000) := by show _ ≤ _; rw [hH]; simp only [List.length_append]; omega
  have HE : Hid (H = encText t.data.toList ++ encInt n ++ encInt s.xs.length) := by show _ = _; rw [hH, HH2.out]
  have HO3 : Hid (Own kByte 5 w3 w.heap.size v3 H) := by rw [hH]; exact ho3.lower HB2.out.size
  clear ho3 hg3 hi2 HB2 hH
  go_wp2_with fail
  go_loopw [7, 9, 21] (fun v _ i wr => ∃ k : Nat, k ≤ s.xs.length ∧ i = .int .i64 (k : Int) ∧ Hid (Own kByte 5 wr w.heap.size v (H ++ ((bl s.xs).take k).flatMap fun x => encRc (bnd x))) ∧ BW w wr) (fun _ _ i _ => s.xs.length - (intOf i).toNat)
  case atStart => exact ⟨0, Nat.zero_le _, rfl, (by show Own _ _ _ _ _ _; simpa using HO3.out), HB3⟩
  case round =>
    clear HO3 HB3
    obtain ⟨k, hk, rfl, HO, HB⟩ := hrel
    by_cases hlt : k < s.xs.length
    · obtain ⟨b, o, hA, hb, c0, c1, c2, c3, c4, hr⟩ := blc_at (HI.out.below HB.out) k hlt
      have HA := Lib.hid hA
      rw [hA]
      clear hA hr
      obtain ⟨q, hq⟩ : ∃ q, q = bnd (pv s.xs[k].xs) := ⟨_, rfl⟩
      rw [← hq] at c0 c1 c2 c3
      have HQ := Lib.hid hq
      have hqr := HR.out _ (List.getElem_mem hlt)
      rw [← hq] at hqr
      have HQR := Lib.hid hqr
      clear hq hqr
      obtain ⟨xs, hxs⟩ : ∃ xs, xs = H ++ ((bl s.xs).take k).flatMap fun x => encRc (bnd x) := ⟨_, rfl⟩
      rw [← hxs] at HO
      have HXS := Lib.hid hxs
      have hxl : xs.length ≤ 2000000 + 40 * s.xs.length := by
        rw [hxs, List.length_append]
        have h1 := HL.out k
        have h2 := HHL.out
        omega
      clear hxs
      obtain ⟨p1, p2⟩ := encRc_len' HQR.out
      have HX0 : Hid (BoxB (wr.alloc (.cells #[.int .i64 q.vf, .int .i64 q.vt, .int .i64 q.sf, .int .i64 q.st, .slice s.xs[k].A s.xs[k].xs.length s.xs[k].cap] 78)) wr.heap.size s.xs[k]) := by
        rw [HQ.out]; exact heap_alloc_new wr _
      have HW : Hid (BW wr (wr.alloc (.cells #[.int .i64 q.vf, .int .i64 q.vt, .int .i64 q.sf, .int .i64 q.st, .slice s.xs[k].A s.xs[k].xs.length s.xs[k].cap] 78))) := (BW.refl wr).alloc _
      go_wp2_with fail
      generalize hW : wr.alloc _ = W0
      replace HX0 : Hid (BoxB W0 wr.heap.size s.xs[k]) := by subst hW; exact HX0
      replace HW : Hid (BW wr W0) := by subst hW; exact HW
      clear hW c0 c1 c2 c3 c4
      refine Calls.mono (putPeriod_any ⟨none, 0, []⟩ q.vf q.vt W0 ⟨Kd.Inv.empty _ _ (by decide) (fun _ => rfl), by simp⟩ (okPer_i64 HQR.out.v).1 (okPer_i64 HQR.out.v).2) ?_
      rintro e1 w1 ⟨v1, rfl, ho1, hg1⟩
      obtain ⟨A1, c1, rfl, hi1, hb1⟩ := ownB_apd ho1
      rw [List.nil_append] at hi1 ⊢
      have HP1 := Lib.hid hi1
      have HX1 := Lib.hid (HX0.out.bw ⟨hg1.belowN⟩)
      have HBW1 : Hid (BW wr w1) := HW.out.trans ⟨hg1.belowN⟩
      have HB1 := HB.trans HBW1.out
      have HO1 := Lib.hid (HO.out.below HBW1.out.out)
      have HROW := Lib.hid (fun x hx => (HO.out.base_le x hx).2)
      clear ho1 hg1 hi1 hb1
      go_wp2_with (at_builtin; refine append_all kByte w.heap.size rfl (.tmp 25) (.tmp 29) 35 35 5 1 rfl Try.underlying35 info_u8 _ _ xs (encPer q.vf q.vt) rfl _ rfl (HP1.out.src Try.underlying35) (Apd.own HO1.out) HP1.out.inv nofoots HB1.out.size (by omega) ?_; intro v2 w2 r2 ha hg hn; have HO2 := Lib.hid (hn (.inr ⟨HO1.out, rfl⟩)).1; have HB2 : BW w w2 := ⟨HB1.out.trans (hg.below HB1.out.size (fun x hx => (HO1.out.base_le x hx).1))⟩; have HX2 := Lib.hid (HX1.out.gr hg (fun hx => by have := HROW.out _ hx; omega)); obtain ⟨d0, d1, d2, d3, d4⟩ := boxb5 HX2.out q HQ.out; clear ha hg hn)
      refine Calls.mono (putPeriod_any ⟨none, 0, []⟩ q.sf q.st w2 ⟨Kd.Inv.empty _ _ (by decide) (fun _ => rfl), by simp⟩ (okPer_i64 HQR.out.s).1 (okPer_i64 HQR.out.s).2) ?_
      rintro e3 w3 ⟨v3', rfl, ho3, hg3⟩
      obtain ⟨A3, c3, rfl, hi3, hb3⟩ := ownB_apd ho3
      rw [List.nil_append] at hi3 ⊢
      have HP3 := Lib.hid hi3
      have HB3 : BW w w3 := HB2.trans ⟨hg3.belowN⟩
      have HO3 := Lib.hid (HO2.out.below hg3.belowN)
      clear ho3 hg3 hi3 hb3 d0 d1 d2 d3 d4
      go_wp2_with (at_builtin; refine append_all kByte w.heap.size rfl (.tmp 31) (.tmp 35) 35 35 5 1 rfl Try.underlying35 info_u8 _ _ (xs ++ encPer q.vf q.vt) (encPer q.sf q.st) rfl _ rfl (HP3.out.src Try.underlying35) (Apd.own HO3.out) HP3.out.inv nofoots HB3.out.size (by simp only [List.length_append]; omega) ?_; intro v4 w4 r4 ha hg hn; have HO4 := Lib.hid (hn (.inr ⟨HO3.out, rfl⟩)).1; have HB4 : BW w w4 := ⟨HB3.out.trans (hg.below HB3.out.size (fun x hx => (HO3.out.base_le x hx).1))⟩; clear ha hg hn)
      go_roundw
      case rel =>
        refine ⟨k + 1, by omega, by go_num, ?_, HB4⟩
        have hkb : k < (bl s.xs).length := by simpa [bl] using hlt
        have h1 := take_flat (fun x => encRc (bnd x)) (bl s.xs) k hkb
        have h2 : encRc (bnd (bl s.xs)[k]) = encPer q.vf q.vt ++ encPer q.sf q.st := by rw [HQ.out]; simp [bl, encRc]
        show Own _ _ _ _ _ _
        rw [h1, ← List.append_assoc, ← HXS.out, h2, ← List.append_assoc]
        exact HO4.out
      case measure => simp [intOf]; omega
    · have HN : Hid (((bl s.xs).take k) = bl s.xs) := List.take_of_length_le (by simp [bl]; omega)
      go_wp2_with fail
      go_ret
      refine ⟨_, rfl, ?_, Gr.of_own (d := kByte) (e := 5) HB HO.out⟩
      have := HO.out
      rw [HN.out, HE.out] at this
      simpa [encHead, bl, List.append_assoc] using this
end Go.Proofs.Ytndlhmnablefpaa

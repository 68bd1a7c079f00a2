/- ref09 PutRow; ref35: versions written. -/
import Derived.Test.YtndlhmnablefpaaRefX
import Derived.Test.YtndlhmnablefpaaRefRec
import Derived.Test.YtndlhmnablefpaaRec3
import Derived.Test.YtndlhmnablefpaaSeg1
import Derived.Test.YtndlhmnablefpaaClo
import Derived.StillTailTactics
namespace Go.Proofs.Ytndlhmnablefpaa
open Go.RowKit
set_option linter.unusedSimpArgs false
set_option linter.unusedVariables false
set_option maxRecDepth 100000 in
set_option maxHeartbeats 1000000 in
theorem rPutRow_bs {A : Option Addr} {N c : Nat} {xs : List UInt8} (r : Sl Vl) (w : World) (h : BS w A N c xs) (hr : kVl.Inv w r) (hok : okRow r.xs = true) (hl : N ≤ 140737488340000) :
    Calls Try.prog 108 #[.slice A N c, .slice r.A r.xs.length r.cap] w (NewS w (xs ++ encRow r.xs)) := by
  obtain ⟨hr12, hall⟩ := okRow_all hok
  have HR := Lib.hid hr
  have HA := Lib.hid hall
  have hi : I64 (r.xs.length : Int) := I64.nat (by omega)
  have hel := encInt_len hi
  have hNl := h.len
  have hxl : xs.length ≤ 140737488340000 := by omega
  clear hr hall hok hNl
  go_enter Try.func108, Try.ntmps108
  go_wp2_with fail
  refine Calls.mono (rPutInt_bs (r.xs.length : Int) hi w h (by omega)) ?_
  rintro e1 w1 ⟨A1, N1, c1, rfl, h1, HB1⟩
  go_wp2_with fail
  go_loopw [5, 7, 14] (fun v _ i wr => ∃ (k : Nat) (A' : Option Addr) (N' c' : Nat), k ≤ r.xs.length ∧ i = .int .i64 (k : Int) ∧ v = .slice A' N' c' ∧ Hid (BS wr A' N' c' (xs ++ encInt (r.xs.length : Int) ++ (r.xs.take k).flatMap encVal)) ∧ BW w wr) (fun _ _ i _ => r.xs.length - (intOf i).toNat)
  case atStart => exact ⟨0, A1, N1, c1, Nat.zero_le _, rfl, rfl, (by show BS _ _ _ _ _; simpa using h1), HB1⟩
  case round =>
    clear h1 HB1
    obtain ⟨k, A', N', c', hk, rfl, rfl, HS, HB⟩ := hrel
    by_cases hlt : k < r.xs.length
    · obtain ⟨b, o, hA, hb, c0, c1, c2⟩ := vl_at (HR.out.below HB.out) k hlt
      have HAd := Lib.hid hA
      rw [hA]
      clear hA
      have hov := HA.out _ (List.getElem_mem hlt)
      have HT := Lib.hid (take_flat encVal r.xs k hlt)
      have hN' : N' ≤ xs.length + 10 + k * 211 := by
        have h2 := HS.out.len
        rw [List.length_append, List.length_append] at h2
        have h3 := flatMap_len encVal 211 (r.xs.take k) fun x hx => encVal_len (HA.out x (List.mem_of_mem_take hx))
        rw [List.length_take] at h3
        have : min k r.xs.length = k := by omega
        rw [this] at h3
        omega
      go_wp2_with (go_at_call 117; refine Calls.mono (rPutValue_bs r.xs[k] _ (HS.out.bw ⟨by exact BW.fin⟩) hov (by omega)) ?_; rintro e2 w2 ⟨A2, N2, c2, rfl, h2, HB2⟩; have HB3 := BW.next HB2.out (h := HB.alloc _))
      go_roundw
      case rel => exact ⟨k + 1, A2, N2, c2, by omega, by go_num, rfl, (by show BS _ _ _ _ _; rw [HT.out, ← List.append_assoc]; exact h2), HB3⟩
      case measure => simp [intOf]; omega
    · have HE : Hid (r.xs.take k = r.xs) := List.take_of_length_le (by omega)
      go_wp2_with fail
      go_ret
      refine ⟨A', N', c', rfl, ?_, HB⟩
      have h2 := HS.out
      rw [HE.out, List.append_assoc] at h2
      exact h2
set_option maxRecDepth 100000 in
set_option maxHeartbeats 2000000 in
theorem rVersions_any (s : Sl Ver) (w : World) (h : kVer.Inv w s) (hf : VFits s.xs) :
    Ans Try.prog 107 #[.slice s.A s.xs.length s.cap] w (.int .i64 (chk okVer none (pv s.xs))) := by
  unfold Ans
  have HI := Lib.hid h
  have HF := Lib.hid hf
  have hmx : s.xs.length ≤ 9223372036854775807 := Nat.le_trans h.le h.mx
  clear h hf
  go_enter Try.func107, Try.ntmps107
  go_wp2_with fail
  go_loopw [3, 4, 7] (fun _ _ i wr => ∃ k : Nat, k ≤ s.xs.length ∧ i = .int .i64 k ∧ Hid (chk okVer none (pv s.xs) = chk okVer (prevAt (pv s.xs) k) ((pv s.xs).drop k)) ∧ BW w wr) (fun _ _ i _ => s.xs.length - (intOf i).toNat)
  case atStart => exact ⟨0, Nat.zero_le _, rfl, rfl, BW.refl w⟩
  case round =>
    obtain ⟨k, hk, rfl, HP, HB⟩ := hrel
    by_cases hlt : k < s.xs.length
    · obtain ⟨b, o, hA, hb, c0, c1, c2, c3, c4, c5, c6, c7, c8, hr⟩ := ver_at (HI.out.below HB.out) k hlt
      have HA := Lib.hid hA
      have HR := Lib.hid hr
      rw [hA]
      clear hA hr
      have hpl : k < (pv s.xs).length := by rw [pv_len]; exact hlt
      have HV : Hid ((pv s.xs)[k] = s.xs[k].p) := by show _ = _; simp [pv]
      have HX0 : Hid (BoxV (wr.alloc (.cells s.xs[k].cells.toArray 59)) wr.heap.size s.xs[k]) := heap_alloc_new wr _
      have HW : Hid (BW wr (wr.alloc (.cells s.xs[k].cells.toArray 59))) := (BW.refl wr).alloc _
      go_wp2_with fail
      generalize hW : wr.alloc _ = W0
      replace HX0 : Hid (BoxV W0 wr.heap.size s.xs[k]) := by subst hW; exact HX0
      replace HW : Hid (BW wr W0) := by subst hW; exact HW
      clear hW c0 c1 c2 c3 c4 c5 c6 c7 c8
      refine Calls.mono (rVersion_any s.xs[k] W0 (HR.out.below HW.out.out) (HF.out _ (List.getElem_mem hlt))) ?_
      rintro e1 w1 ⟨rfl, b1⟩
      have HX := Lib.hid (HX0.out.bw ⟨b1⟩)
      replace HB := (HB.trans HW.out).trans ⟨b1⟩
      have HBw : Hid (BW wr w1) := HW.out.trans ⟨b1⟩
      clear HX0 HW b1
      cases hv : okVer s.xs[k].p with
      | false =>
        have HN : Hid (chk okVer none (pv s.xs) = 8) := chk_bad hpl HP.out (by rw [HV.out]; exact hv)
        clear hv
        go_wp2_with fail
        go_ret
        exact ⟨ret_i64 HN.out.symm, HB.out⟩
      | true =>
        have HOK : Hid (okVer (pv s.xs)[k] = true) := by show _ = _; rw [HV.out]; exact hv
        clear hv
        by_cases h0 : 0 < k
        · obtain ⟨b', o', hA', hb', c0, c1, c2, c3, c4, c5, c6, c7, c8, hr'⟩ := ver_at (HI.out.below HB.out) (k - 1) (by omega)
          have hA2 := hA'.symm.trans HA.out
          simp only [Option.some.injEq, Addr.mk.injEq, and_true] at hA2
          obtain ⟨rfl, rfl⟩ := hA2
          clear hA' hr'
          obtain ⟨d0, d1, d2, d3, d4, d5, d6, d7, d8⟩ := box9 HX.out
          obtain ⟨q1, q2, q3, q4, q5⟩ := idx_pred (n := s.xs.length) h0 hlt (by omega)
          have hkn : (k : Int) < (s.xs.length : Int) := by omega
          have hk0 : (0 : Int) < (k : Int) := by omega
          have HU : Hid ((pv s.xs)[k - 1] = s.xs[k - 1].p) := by show _ = _; simp [pv]
          go_wp2_with fail
          go_still_tail 9, (by kernel_rfl)
          change wpList _ _ _ _ _ w1.drew
          have HC := BW.refl w1
          cases hbf : before s.xs[k - 1].p s.xs[k].p with
          | true =>
            have HBF := Lib.hid hbf
            clear hbf
            go_wp2_with (go_at_call 36; refine Calls.mono (rBefore_any s.xs[k - 1] s.xs[k] _) ?_; rintro e2 w2 ⟨rfl, b2⟩; rw [HBF.out]; replace HC := BW.next b2)
            go_roundw
            case rel => exact ⟨k + 1, by omega, by go_num, chk_next hpl HP.out HOK.out (fun h => by rw [HU.out, HV.out]; exact HBF.out), HB.trans HC⟩
            case measure => simp [intOf]; omega
          | false =>
            have HN : Hid (chk okVer none (pv s.xs) = 9) := chk_order hpl HP.out HOK.out h0 (by rw [HU.out, HV.out]; exact hbf)
            have HBF := Lib.hid hbf
            clear hbf
            go_wp2_with (go_at_call 36; refine Calls.mono (rBefore_any s.xs[k - 1] s.xs[k] _) ?_; rintro e2 w2 ⟨rfl, b2⟩; rw [HBF.out]; replace HC := BW.next b2)
            go_ret
            exact ⟨ret_i64 HN.out.symm, (HB.trans HC).out⟩
        · obtain rfl : k = 0 := by omega
          have hd : decide ((0 : Nat) < 0) = false := rfl
          go_wp2_with fail
          go_quiet (fail)
          rename_i nq _
          go_wp2_with fail
          go_roundw
          case rel => exact ⟨1, by omega, by go_num, chk_next hpl HP.out HOK.out (fun h => absurd h (by omega)), HB.drewN _⟩
          case measure => simp [intOf]; omega
    · have HN := Lib.hid (chk_end (by rw [pv_len]; omega) HP.out)
      go_wp2_with fail
      go_ret
      exact ⟨ret_i64 HN.out.symm, HB.out⟩
theorem rCheckVersions_any (s : Sl Ver) (w : World) (h : kVer.Inv w s) (hf : VFits s.xs) :
    Ans Try.prog 82 #[.slice s.A s.xs.length s.cap] w (.int .i64 (if 4096 < s.xs.length then 5 else chk okVer none (pv s.xs))) := by
  unfold Ans
  have hmx : s.xs.length ≤ 9223372036854775807 := Nat.le_trans h.le h.mx
  have HC := Lib.hid (fun w' (hb : BW w w') => rVersions_any s w' (h.below hb.out) hf)
  clear h hf
  go_enter Try.func82, Try.ntmps82
  by_cases hl : 4096 < s.xs.length
  · have hl' : (4096 : Int) < (s.xs.length : Int) := by omega
    rw [if_pos hl]
    go_wp2_with fail
    go_ret
    exact ⟨rfl, (BW.refl w).out⟩
  · have hl' : ¬ (4096 : Int) < (s.xs.length : Int) := by omega
    rw [if_neg hl]
    go_wp2_with fail
    refine Calls.mono (HC.out w (BW.refl w)) ?_
    rintro e1 w1 ⟨rfl, b1⟩
    go_wp2_with fail
    go_ret
    exact ⟨rfl, b1⟩
set_option maxRecDepth 100000 in
set_option maxHeartbeats 4000000 in
theorem rPutVersions_bs {A : Option Addr} {N c : Nat} {xs : List UInt8} (s : Sl Ver) (w : World) (h : BS w A N c xs) (hi : kVer.Inv w s) (hv : ∀ v, v ∈ s.xs → okVer v.p = true) (hl : s.xs.length ≤ 4096) (hn : N ≤ 1000000) :
    Calls Try.prog 83 #[.slice A N c, .slice s.A s.xs.length s.cap] w (NewS w (xs ++ encVers (pv s.xs))) := by
  have HI := Lib.hid hi
  have HV := Lib.hid hv
  have HL := Lib.hid (take_pv_len hv)
  have hx2 : I64 (s.xs.length : Int) := I64.nat (by omega)
  have hel := encInt_len hx2
  have hxl : xs.length ≤ 1000000 := by have := h.len; omega
  clear hi hv
  go_enter Try.func83, Try.ntmps83
  go_wp2_with fail
  refine Calls.mono (rPutInt_bs (s.xs.length : Int) hx2 w h (by omega)) ?_
  rintro e1 w1 ⟨A1, N1, c1, rfl, h1, HB1⟩
  go_wp2_with fail
  go_loopw [0, 6, 13] (fun v _ i wr => ∃ (k : Nat) (A' : Option Addr) (N' c' : Nat), k ≤ s.xs.length ∧ i = .int .i64 (k : Int) ∧ v = .slice A' N' c' ∧ Hid (BS wr A' N' c' (xs ++ encInt (s.xs.length : Int) ++ ((pv s.xs).take k).flatMap encVer)) ∧ BW w wr) (fun _ _ i _ => s.xs.length - (intOf i).toNat)
  case atStart => exact ⟨0, A1, N1, c1, Nat.zero_le _, rfl, rfl, (by show BS _ _ _ _ _; simpa using h1), HB1⟩
  case round =>
    clear h1 HB1
    obtain ⟨k, A', N', c', hk, rfl, rfl, HS, HB⟩ := hrel
    by_cases hlt : k < s.xs.length
    · obtain ⟨b, o, hA, hb, c0, c1, c2, c3, c4, c5, c6, c7, c8, hr⟩ := ver_at (HI.out.below HB.out) k hlt
      have HA := Lib.hid hA
      have HR := Lib.hid hr
      rw [hA]
      clear hA hr
      have HOK := Lib.hid (okVer_parts (HV.out _ (List.getElem_mem hlt)))
      have hN' : N' ≤ 1000010 + 4096 * 2622 := by
        have h2 := HS.out.len
        rw [List.length_append, List.length_append] at h2
        have h3 := HL.out k
        have h4 := Nat.mul_le_mul_right 2622 hl
        omega
      have HX0 : Hid (BoxV (wr.alloc (.cells s.xs[k].cells.toArray 59)) wr.heap.size s.xs[k]) := heap_alloc_new wr _
      have HW : Hid (BW wr (wr.alloc (.cells s.xs[k].cells.toArray 59))) := (BW.refl wr).alloc _
      obtain ⟨v, hvv⟩ : ∃ v, v = s.xs[k] := ⟨_, rfl⟩
      rw [← hvv] at c0 c1 c2 c3 c4 c5 c6 c7 c8 HR HOK HX0 HW
      have HVV := Lib.hid hvv
      clear hvv
      go_wp2_with fail
      generalize hW : wr.alloc _ = W0
      replace HX0 : Hid (BoxV W0 wr.heap.size v) := by subst hW; exact HX0
      replace HW : Hid (BW wr W0) := by subst hW; exact HW
      obtain ⟨g, hg⟩ : ∃ g, g = wr.heap.size := ⟨_, rfl⟩
      rw [← hg] at HX0 ⊢
      clear hW hg c0 c1 c2 c3 c4 c5 c6 c7 c8
      have HBW0 := HB.trans HW.out
      have hs0 := HS.out.bw HW.out
      have hgl : g < W0.heap.size := (Array.getElem?_eq_some_iff.1 HX0.out).1
      have l1 := encInt_len HOK.out.id
      have l2 := encInt_len HOK.out.sch
      have l3 : (encRow v.rowS.xs).length ≤ 2542 := encRow_len HOK.out.row
      have l4 := encPer_len HOK.out.vf HOK.out.vt
      have l5 := encPer_len HOK.out.sf HOK.out.st
      have l6 := encInt_len HOK.out.by'
      have l7 := encInt_len HOK.out.un
      have HR0 := Lib.hid (HR.out.below HW.out.out)
      have HC := BW.refl W0
      obtain ⟨d0, d1, d2, d3, d4, d5, d6, d7, d8⟩ := box9 HX0.out
      clear HS HB HW HR
      go_region_held3 (fun W => W.cell? ⟨g, 0, none⟩ = some (.int .i64 v.p.id) ∧ W.cell? ⟨g, 1, none⟩ = some (.int .i64 v.p.sch) ∧ W.cell? ⟨g, 2, none⟩ = some (.slice v.A v.p.row.length v.c)) (go_keep) (first
        | (go_at_call_of 47 (Value.int .i64 v.p.id); refine Calls.mono (rPutInt_bs v.p.id HOK.out.id _ (hs0.bw ⟨by exact BW.fin⟩) (by omega)) ?_; rintro e1 w1 ⟨A1, N1, c1, rfl, hs1, HB1⟩; have hn1 : N1 ≤ N' + 10 := (by have h2 := hs1.len; have h3 := hs0.len; rw [List.length_append] at h2; omega); replace HC := BW.next HB1.out; have hcc1 := bcell HC.out)
        | (go_at_call_of 47 (Value.int .i64 v.p.sch); refine Calls.mono (rPutInt_bs v.p.sch HOK.out.sch _ (hs1.bw ⟨by exact BW.fin⟩) (by omega)) ?_; rintro e2 w2 ⟨A2, N2, c2, rfl, hs2, HB2⟩; have hn2 : N2 ≤ N1 + 10 := (by have h2 := hs2.len; have h3 := hs1.len; rw [List.length_append] at h2; omega); replace HC := BW.next HB2.out; have hcc2 := bcell HC.out)
        | (go_at_call_of 108 (Value.slice v.A v.p.row.length v.c); refine Calls.mono (rPutRow_bs v.rowS _ (hs2.bw ⟨by exact BW.fin⟩) (HR0.out.below (by exact BW.fin)) HOK.out.row (by omega)) ?_; rintro e3 w3 ⟨A3, N3, c3, rfl, hs3, HB3⟩; have hn3 : N3 ≤ N2 + 2542 := (by have h2 := hs3.len; have h3 := hs2.len; rw [List.length_append] at h2; omega); replace HC := BW.next HB3.out; have hcc3 := bcell HC.out))
      clear d0 d1 d2 d3 d4 d5 d6 d7 d8 hcc1 hcc2 hcc3
      have HX3 := Lib.hid (HX0.out.bw HC)
      obtain ⟨d0, d1, d2, d3, d4, d5, d6, d7, d8⟩ := box9 HX3.out
      obtain ⟨z0, z1, z2, z3, z4, z5, z6, z7, z8⟩ := box9 HX0.out
      go_wp2_with fail
      go_region_held3 (fun W => W.cell? ⟨g, 3, none⟩ = some (.int .i64 v.p.vf) ∧ W.cell? ⟨g, 4, none⟩ = some (.int .i64 v.p.vt) ∧ W.cell? ⟨g, 5, none⟩ = some (.int .i64 v.p.sf) ∧ W.cell? ⟨g, 6, none⟩ = some (.int .i64 v.p.st)) (go_keep) (first
        | (go_at_call_of 50 (Value.agg #[Value.int .i64 v.p.vf, Value.int .i64 v.p.vt]); refine Calls.mono (rPutPeriod_bs v.p.vf v.p.vt HOK.out.vf HOK.out.vt _ (hs3.bw ⟨by exact BW.fin⟩) (by omega)) ?_; rintro e4 w4 ⟨A4, N4, c4, rfl, hs4, HB4⟩; have hn4 : N4 ≤ N3 + 20 := (by have h2 := hs4.len; have h3 := hs3.len; rw [List.length_append] at h2; omega); replace HC := BW.next HB4.out; have hcc4 := bcell HC.out)
        | (go_at_call_of 50 (Value.agg #[Value.int .i64 v.p.sf, Value.int .i64 v.p.st]); refine Calls.mono (rPutPeriod_bs v.p.sf v.p.st HOK.out.sf HOK.out.st _ (hs4.bw ⟨by exact BW.fin⟩) (by omega)) ?_; rintro e5 w5 ⟨A5, N5, c5, rfl, hs5, HB5⟩; have hn5 : N5 ≤ N4 + 20 := (by have h2 := hs5.len; have h3 := hs4.len; rw [List.length_append] at h2; omega); replace HC := BW.next HB5.out; have hcc5 := bcell HC.out))
      clear d0 d1 d2 d3 d4 d5 d6 d7 d8 hcc4 hcc5
      have HX5 := Lib.hid (HX0.out.bw HC)
      obtain ⟨d0, d1, d2, d3, d4, d5, d6, d7, d8⟩ := box9 HX5.out
      go_wp2_with fail
      go_region_held3 (fun W => W.cell? ⟨g, 7, none⟩ = some (.int .i64 v.p.by') ∧ W.cell? ⟨g, 8, none⟩ = some (.int .i64 v.p.un)) (go_keep) (first
        | (go_at_call_of 47 (Value.int .i64 v.p.by'); refine Calls.mono (rPutInt_bs v.p.by' HOK.out.by' _ (hs5.bw ⟨by exact BW.fin⟩) (by omega)) ?_; rintro e6 w6 ⟨A6, N6, c6, rfl, hs6, HB6⟩; have hn6 : N6 ≤ N5 + 10 := (by have h2 := hs6.len; have h3 := hs5.len; rw [List.length_append] at h2; omega); replace HC := BW.next HB6.out; have hcc6 := bcell HC.out)
        | (go_at_call_of 47 (Value.int .i64 v.p.un); refine Calls.mono (rPutInt_bs v.p.un HOK.out.un _ (hs6.bw ⟨by exact BW.fin⟩) (by omega)) ?_; rintro e7 w7 ⟨A7, N7, c7, rfl, hs7, HB7⟩; have hn7 : N7 ≤ N6 + 10 := (by have h2 := hs7.len; have h3 := hs6.len; rw [List.length_append] at h2; omega); replace HC := BW.next HB7.out; have hcc7 := bcell HC.out))
      clear d0 d1 d2 d3 d4 d5 d6 d7 d8 hcc6 hcc7
      have HS7 := Lib.hid hs7
      clear hs0 hs1 hs2 hs3 hs4 hs5 hs6 hs7
      go_wp2_with fail
      go_roundw
      case rel =>
        refine ⟨k + 1, A7, N7, c7, by omega, by go_num, rfl, ?_, HBW0.trans HC⟩
        have hkp : k < (pv s.xs).length := by rw [pv_len]; exact hlt
        have h1 := take_flat encVer (pv s.xs) k hkp
        have h2 : encVer (pv s.xs)[k] = encVer v.p := by rw [HVV.out]; simp [pv]
        show BS _ _ _ _ _
        rw [h1, h2]
        have h3 := HS7.out
        simp only [List.append_assoc] at h3 ⊢
        simp only [encVer, List.append_assoc]
        exact h3
      case measure => simp [intOf]; omega
    · have HE : Hid ((pv s.xs).take k = pv s.xs) := List.take_of_length_le (by rw [pv_len]; omega)
      go_wp2_with fail
      go_ret
      refine ⟨A', N', c', rfl, ?_, HB⟩
      have h2 := HS.out
      rw [HE.out, List.append_assoc] at h2
      unfold encVers
      rw [pv_len]
      exact h2
/-- Bytes and an error. -/
def NewE (w : World) (r : List UInt8 × Int) (e : Ending) (w' : World) : Prop := ∃ (A : Option Addr) (N c : Nat), e = .returned (.tuple #[.slice A N c, .int .i64 r.2]) ∧ BS w' A N c r.1 ∧ BW w w'
theorem NewE.none {w w' : World} {r : List UInt8 × Int} {er : Int} (hr : r = ([], er)) (hb : BW w w') : NewE w r (.returned (.tuple #[.slice Option.none 0 0, .int .i64 er])) w' := by
  subst hr; exact ⟨Option.none, 0, 0, rfl, BS.nil _, hb⟩
set_option maxRecDepth 100000 in
set_option maxHeartbeats 1000000 in
theorem rEncode_any (s : Sl Ver) (w : World) (h : kVer.Inv w s) (hf : VFits s.xs) :
    Calls Try.prog 52 #[.slice s.A s.xs.length s.cap] w (NewE w (encodeVers (pv s.xs))) := by
  have HI := Lib.hid h
  have HF := Lib.hid hf
  obtain ⟨ce, hce⟩ : ∃ ce, ce = (if 4096 < s.xs.length then (5 : Int) else chk okVer none (pv s.xs)) := ⟨_, rfl⟩
  have HCE := Lib.hid hce
  clear h hf hce
  go_enter Try.func52, Try.ntmps52
  go_wp2_with fail
  refine Calls.mono (rCheckVersions_any s w HI.out HF.out) ?_
  rintro e1 w1 ⟨rfl, b1⟩
  rw [← HCE.out]
  by_cases hc : ce = 0
  · have hl : s.xs.length ≤ 4096 := by
      have h1 := HCE.out
      rw [hc] at h1
      split at h1
      · omega
      · omega
    have hc0 : chk okVer none (pv s.xs) = 0 := by
      have h1 := HCE.out
      rw [hc, if_neg (by omega)] at h1
      exact h1.symm
    have HE : Hid (encodeVers (pv s.xs) = if 1048576 < (encVers (pv s.xs)).length then ([], 5) else (encVers (pv s.xs), 0)) := by
      show _ = _
      unfold encodeVers
      rw [if_neg (by rw [pv_len]; omega), if_neg (by rw [hc0]; simp)]
    have hok : ∀ v, v ∈ s.xs → okVer v.p = true := fun v hv => chk_all (pv s.xs) none hc0 v.p (List.mem_map_of_mem hv)
    have HOK := Lib.hid hok
    clear hok hc0
    go_wp2_with fail
    refine Calls.mono (rPutVersions_bs s w1 (BS.nil w1) (HI.out.below b1) HOK.out hl (by decide)) ?_
    rintro e2 w2 ⟨A2, N2, c2, rfl, h2, HB2⟩
    rw [List.nil_append] at h2
    have HN := Lib.hid h2.len
    have HB : BW w w2 := BW.trans ⟨b1⟩ HB2
    by_cases hb : 1048576 < N2
    · rw [if_pos (by rw [← HN.out]; exact hb)] at HE
      have hb' : (1048576 : Int) < (N2 : Int) := by omega
      go_wp2_with fail
      go_ret2
      exact NewE.none HE.out HB
    · rw [if_neg (by rw [← HN.out]; exact hb)] at HE
      have hb' : ¬ (1048576 : Int) < (N2 : Int) := by omega
      go_wp2_with fail
      go_ret2
      rw [HE.out]
      exact ⟨A2, N2, c2, rfl, h2, HB⟩
  · have HE : Hid (encodeVers (pv s.xs) = ([], ce)) := by
      show _ = _
      have h1 := HCE.out
      unfold encodeVers
      rw [pv_len]
      by_cases hl : 4096 < s.xs.length
      · rw [if_pos hl] at h1 ⊢
        rw [h1]
      · rw [if_neg hl] at h1 ⊢
        rw [← h1, if_pos hc]
    go_wp2_with fail
    go_ret2
    exact NewE.none HE.out ⟨b1⟩
end Go.Proofs.Ytndlhmnablefpaa

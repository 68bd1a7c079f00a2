/- What ref37.Build answers. -/
import Derived.Test.YtndlhmnablefpaaRefV
import Derived.Test.YtndlhmnablefpaaRefF
import Derived.Test.YtndlhmnablefpaaBuild
namespace Go.Proofs.Ytndlhmnablefpaa
open Go.RowKit
set_option linter.unusedSimpArgs false
set_option linter.unusedVariables false
set_option maxRecDepth 100000 in
set_option maxHeartbeats 2000000 in
theorem rCheck37_any (s : Sl Ver) (w : World) (h : kVer.Inv w s) (hf : VFits s.xs) :
    Ans Try.prog 46 #[.slice s.A s.xs.length s.cap] w (.int .i64 (chk okStored none (pv s.xs))) := by
  unfold Ans
  have HI := Lib.hid h
  have HF := Lib.hid hf
  have hmx : s.xs.length ≤ 9223372036854775807 := Nat.le_trans h.le h.mx
  clear h hf
  go_enter Try.func46, Try.ntmps46
  go_wp2_with fail
  go_loopw [3, 4, 7] (fun _ _ i wr => ∃ k : Nat, k ≤ s.xs.length ∧ i = .int .i64 k ∧ Hid (chk okStored none (pv s.xs) = chk okStored (prevAt (pv s.xs) k) ((pv s.xs).drop k)) ∧ BW w wr) (fun _ _ i _ => s.xs.length - (intOf i).toNat)
  case atStart => exact ⟨0, Nat.zero_le _, rfl, rfl, BW.refl w⟩
  case round =>
    obtain ⟨k, hk, rfl, HP, HB⟩ := hrel
    by_cases hlt : k < s.xs.length
    · obtain ⟨b, o, hA, hb, c0, c1, c2, c3, c4, c5, c6, c7, c8, hr⟩ := ver_at (HI.out.below HB.out) k hlt
      have HA := Lib.hid hA
      have HR := Lib.hid hr
      rw [hA]
      clear hA hr
      have hpl : k < (pv s.xs).length := by rw [pv_len]; exact hlt
      have HV : Hid ((pv s.xs)[k] = s.xs[k].p) := by show _ = _; simp [pv]
      have HX0 : Hid (BoxV (wr.alloc (.cells s.xs[k].cells.toArray 59)) wr.heap.size s.xs[k]) := heap_alloc_new wr _
      have HW : Hid (BW wr (wr.alloc (.cells s.xs[k].cells.toArray 59))) := (BW.refl wr).alloc _
      go_wp2_with fail
      generalize hW : wr.alloc _ = W0
      replace HX0 : Hid (BoxV W0 wr.heap.size s.xs[k]) := by subst hW; exact HX0
      replace HW : Hid (BW wr W0) := by subst hW; exact HW
      clear hW c0 c1 c2 c3 c4 c5 c6 c7 c8
      refine Calls.mono (rVersion_any s.xs[k] W0 (HR.out.below HW.out.out) (HF.out _ (List.getElem_mem hlt))) ?_
      rintro e1 w1 ⟨rfl, b1⟩
      have HX := Lib.hid (HX0.out.bw ⟨b1⟩)
      replace HB := (HB.trans HW.out).trans ⟨b1⟩
      have HBw : Hid (BW wr w1) := HW.out.trans ⟨b1⟩
      clear HX0 HW b1
      cases hv : okVer s.xs[k].p with
      | false =>
        have HN : Hid (chk okStored none (pv s.xs) = 8) := chk_bad hpl HP.out (by rw [HV.out, okStored, hv]; rfl)
        clear hv
        go_wp2_with fail
        go_ret
        exact ⟨ret_i64 HN.out.symm, HB.out⟩
      | true =>
        obtain ⟨d0, d1, d2, d3, d4, d5, d6, d7, d8⟩ := box9 HX.out
        by_cases hst : s.xs[k].p.st = 1099511627776
        · have HN : Hid (chk okStored none (pv s.xs) = 8) := chk_bad hpl HP.out (by rw [HV.out, okStored, hst]; simp)
          clear hv
          go_wp2_with fail
          go_ret
          exact ⟨ret_i64 HN.out.symm, HB.out⟩
        have HOK : Hid (okStored (pv s.xs)[k] = true) := by show _ = _; rw [HV.out, okStored, hv]; simpa using hst
        clear hv
        by_cases h0 : 0 < k
        · obtain ⟨b', o', hA', hb', c0, c1, c2, c3, c4, c5, c6, c7, c8, hr'⟩ := ver_at (HI.out.below HB.out) (k - 1) (by omega)
          have hA2 := hA'.symm.trans HA.out
          simp only [Option.some.injEq, Addr.mk.injEq, and_true] at hA2
          obtain ⟨rfl, rfl⟩ := hA2
          clear hA' hr'
          obtain ⟨q1, q2, q3, q4, q5⟩ := idx_pred (n := s.xs.length) h0 hlt (by omega)
          have hkn : (k : Int) < (s.xs.length : Int) := by omega
          have hk0 : (0 : Int) < (k : Int) := by omega
          have HU : Hid ((pv s.xs)[k - 1] = s.xs[k - 1].p) := by show _ = _; simp [pv]
          go_wp2_with fail
          go_still_tail 9, (by kernel_rfl)
          change wpList _ _ _ _ _ w1.drew
          have HC := BW.refl w1
          cases hbf : before s.xs[k - 1].p s.xs[k].p with
          | true =>
            have HBF := Lib.hid hbf
            clear hbf
            go_wp2_with (go_at_call 36; refine Calls.mono (rBefore_any s.xs[k - 1] s.xs[k] _) ?_; rintro e2 w2 ⟨rfl, b2⟩; rw [HBF.out]; replace HC := BW.next b2)
            go_roundw
            case rel => exact ⟨k + 1, by omega, by go_num, chk_next hpl HP.out HOK.out (fun h => by rw [HU.out, HV.out]; exact HBF.out), HB.trans HC⟩
            case measure => simp [intOf]; omega
          | false =>
            have HN : Hid (chk okStored none (pv s.xs) = 9) := chk_order hpl HP.out HOK.out h0 (by rw [HU.out, HV.out]; exact hbf)
            have HBF := Lib.hid hbf
            clear hbf
            go_wp2_with (go_at_call 36; refine Calls.mono (rBefore_any s.xs[k - 1] s.xs[k] _) ?_; rintro e2 w2 ⟨rfl, b2⟩; rw [HBF.out]; replace HC := BW.next b2)
            go_ret
            exact ⟨ret_i64 HN.out.symm, (HB.trans HC).out⟩
        · obtain rfl : k = 0 := by omega
          have hd : decide ((0 : Nat) < 0) = false := rfl
          go_wp2_with fail
          go_quiet (fail)
          rename_i nq _
          go_wp2_with fail
          go_roundw
          case rel => exact ⟨1, by omega, by go_num, chk_next hpl HP.out HOK.out (fun h => absurd h (by omega)), HB.drewN _⟩
          case measure => simp [intOf]; omega
    · have HN := Lib.hid (chk_end (by rw [pv_len]; omega) HP.out)
      go_wp2_with fail
      go_ret
      exact ⟨ret_i64 HN.out.symm, HB.out⟩
theorem rAppend_big {A B : Option Addr} {M N c d : Nat} (w : World) (hy : 1048576 < N) :
    Ans Try.prog 51 #[.slice A M c, .slice B N d] w (.tuple #[.slice none 0 0, .int .i64 5]) := by
  unfold Ans
  have hy' : (1048576 : Int) < (N : Int) := by omega
  go_enter Try.func51, Try.ntmps51
  go_wp2_with fail
  go_ret2
  exact ⟨rfl, (BW.refl w).out⟩
theorem rAppend_bs {A B : Option Addr} {M N c d : Nat} {xs ys : List UInt8} (w : World) (h1 : BS w A M c xs) (h2 : BS w B N d ys) (hl : M ≤ 140737480000000) (hy : N ≤ 1048576) :
    Calls Try.prog 51 #[.slice A M c, .slice B N d] w fun e w' => ∃ (A' : Option Addr) (N' c' : Nat), e = .returned (.tuple #[.slice A' N' c', .int .i64 0]) ∧ BS w' A' N' c' (xs ++ frameOf ys) ∧ BW w w' := by
  obtain ⟨i1, rfl⟩ := h1
  obtain ⟨i2, rfl⟩ := h2
  refine (rAppend_any w i1 i2 hl hy).mono ?_
  rintro e w' ⟨A', c', rfl, hi, hb⟩
  exact ⟨A', _, c', rfl, ⟨hi, rfl⟩, hb⟩
theorem info_vs : Info Try.prog 29 1 24 := ⟨.slice none 0 0, by kernel_rfl, rfl, by decide⟩
set_option maxRecDepth 100000 in
set_option maxHeartbeats 4000000 in
theorem rBuild37_any (t : ByteArray) (s : Sl Ver) (size : Int) (w : World) (h : kVer.Inv w s) (hf : VFits s.xs) (ht : t.size ≤ 1000000) (hl : s.xs.length ≤ 1000000) :
    Calls Try.prog 20 #[.string t, .slice s.A s.xs.length s.cap, .int .i64 size] w (NewE w (segBuild t.data.toList (pv s.xs) size)) := by
  have HI := Lib.hid h
  have HF := Lib.hid hf
  have hle := h.le
  have hmx := h.mx
  clear h hf
  go_enter Try.func20, Try.ntmps20
  go_wp2_with fail
  refine Calls.mono (rName_any t w (by omega)) ?_
  rintro e1 w1 ⟨rfl, b1⟩
  have HB : BW w w1 := ⟨b1⟩
  clear b1
  cases hw : okName t.data.toList with
  | false =>
    have HS : Hid (segBuild t.data.toList (pv s.xs) size = ([], 8)) := by show _ = _; unfold segBuild; rw [if_pos hw]
    clear hw
    go_wp2_with fail
    go_ret2
    exact NewE.none HS.out HB
  | true =>
  have HC := Lib.hid hw
  clear hw
  by_cases hsz : size < 1 ∨ 4096 < size
  · have HS : Hid (segBuild t.data.toList (pv s.xs) size = ([], 6)) := by show _ = _; unfold segBuild; rw [if_neg (by rw [HC.out]; simp), if_pos hsz]
    by_cases hs1 : size < 1
    · go_wp2_with fail
      go_ret2
      exact NewE.none HS.out HB
    · have hs2 : 4096 < size := by omega
      go_wp2_with fail
      go_ret2
      exact NewE.none HS.out HB
  have hs1 : ¬ size < 1 := by omega
  have hs2 : ¬ 4096 < size := by omega
  have HSZ := Lib.hid hsz
  clear hsz
  go_wp2_with fail
  refine Calls.mono (rCheck37_any s w1 (HI.out.below HB.out) HF.out) ?_
  rintro e2 w2 ⟨rfl, b2⟩
  replace HB := HB.trans ⟨b2⟩
  clear b2
  obtain ⟨ce, hce⟩ : ∃ ce, ce = chk okStored none (pv s.xs) := ⟨_, rfl⟩
  rw [← hce]
  have HCE := Lib.hid hce
  clear hce
  by_cases hc0 : ce = 0
  case neg =>
    have HS : Hid (segBuild t.data.toList (pv s.xs) size = ([], ce)) := by show _ = _; unfold segBuild; rw [if_neg (by rw [HC.out]; simp), if_neg HSZ.out, ← HCE.out, if_pos hc0]
    go_wp2_with fail
    go_ret2
    exact NewE.none HS.out HB
  case pos =>
  have HC0 : Hid (chk okStored none (pv s.xs) = 0) := by show _ = _; rw [← HCE.out, hc0]
  obtain ⟨n, hn⟩ : ∃ n, n = size.toNat := ⟨_, rfl⟩
  have hsn : size = (n : Int) := by omega
  have hn1 : 1 ≤ n := by omega
  have hn2 : n ≤ 4096 := by omega
  subst hsn
  clear hn
  have HS : Hid (segBuild t.data.toList (pv s.xs) (n : Int) = if 1048576 < (encHead t.data.toList s.xs.length (chunks n (pv s.xs))).length then ([], 5) else encBlocks (chunks n (pv s.xs)) (frameOf (encHead t.data.toList s.xs.length (chunks n (pv s.xs))))) := by
    show _ = _
    unfold segBuild
    rw [if_neg (by rw [HC.out]; simp), if_neg HSZ.out, if_neg (by rw [HC0.out]; simp), Int.toNat_natCast, pv_len]
  subst hc0
  clear HSZ HCE hs1 hs2
  have HI2 := Lib.hid (HI.out.below HB.out)
  have hfo : ∀ j, j ∈ s.foot kVer → j < w2.heap.size := HI2.out.lt
  have HFO := Lib.hid hfo
  clear hfo
  go_wp2_with fail
  go_loopw [9, 10] (fun v i wr => ∃ (k : Nat) (bs : List (Sl Ver)), k ≤ s.xs.length + n ∧ i = .int .i64 (k : Int) ∧ Hid (Own (Kd.slice kVer) 29 wr w2.heap.size v bs) ∧ bs.length ≤ k ∧ Hid (bl bs ++ chunks n ((pv s.xs).drop k) = chunks n (pv s.xs)) ∧ Hid (bs.flatMap (·.xs) = s.xs.take k) ∧ BW w2 wr) (fun _ i _ => s.xs.length - (intOf i).toNat)
  case atStart => exact ⟨0, [], Nat.zero_le _, rfl, Own.nil _ _ _ _, Nat.le_refl _, rfl, rfl, BW.refl w2⟩
  case round =>
    obtain ⟨k, bs, hk, rfl, HO, hbl, HCH, HX, HB2⟩ := hrel
    by_cases hlt : k < s.xs.length
    · obtain ⟨b, o, hA, hb, c0, c1, c2, c3, c4, c5, c6, c7, c8, hr⟩ := ver_at (HI2.out.below HB2.out) k hlt
      have HA := Lib.hid hA
      rw [hA]
      clear hA hr c0 c1 c2 c3 c4 c5 c6 c7 c8
      have hx0 : s.xs ≠ [] := by intro e; rw [e] at hlt; simp at hlt
      have hsum : IntKind.i64.wrap ((k : Int) + (n : Int)) = ((k + n : Nat) : Int) := by rw [IntWalk.i64_in _ (by omega)]; omega
      obtain ⟨m, hm⟩ : ∃ m, m = min (k + n) s.xs.length := ⟨_, rfl⟩
      have hm1 : k < m := by omega
      have hm2 : m ≤ s.xs.length := by omega
      have HMS : Hid (((s.xs.drop k).take (m - k)).length = m - k) := by show _ = _; rw [List.length_take, List.length_drop]; omega
      have HPT : Hid (kVer.Inv w2 ⟨some ⟨b, o + k * 9, none⟩, s.cap - k, (s.xs.drop k).take (m - k)⟩) := HI2.out.sub HA.out k (m - k) (by omega)
      have HAP : Hid (∀ x, x ∈ Sl.foot kVer ⟨some ⟨b, o + k * 9, none⟩, s.cap - k, (s.xs.drop k).take (m - k)⟩ → x < w2.heap.size) := fun x hx => HFO.out x (sub_foot HA.out hx0 x hx)
      go_wp2_with (at_builtin; refine append_one (Kd.slice kVer) w2.heap.size rfl (.tmp 41) (.tmp 51) 27 29 24 rfl Try.underlying27 info_vs _ _ bs ⟨some ⟨b, o + k * 9, none⟩, s.cap - k, (s.xs.drop k).take (m - k)⟩ _ ?cs rfl _ rfl rfl (Apd.own HO.out) (HPT.out.below HB2.out) ?ap HB2.out.size (by omega) ?_; (case cs => (show #[Value.slice (some ⟨b, o + k * 9, none⟩) ((s.xs.drop k).take (m - k)).length (s.cap - k)] = _; rw [HMS.out]; simp; try omega)); (case ap => exact fun x hx he => by have h1 := (HO.out.base_le x he).1; have h2 := HAP.out x hx; omega); intro v1 w3 ho hg; have HO2 := Lib.hid ho; have HB3 : BW w2 w3 := ⟨HB2.out.trans (hg.below HB2.out.size (fun x hx => (HO.out.base_le x hx).1))⟩; clear ho hg)
      all_goals
        go_roundw
        case rel =>
          have hkl : k < (pv s.xs).length := by rw [pv_len]; exact hlt
          refine ⟨k + n, bs ++ [⟨some ⟨b, o + k * 9, none⟩, s.cap - k, (s.xs.drop k).take (m - k)⟩], by omega, by go_num, HO2, (by simp; omega), ?_, ?_, HB3⟩
          · show _ = _
            rw [← HCH.out, cut_next (by omega) hkl, bl_append, List.append_assoc]
            congr 1
            show [pv ((s.xs.drop k).take (m - k))] ++ _ = _
            rw [pv_take', pv_drop, List.singleton_append]
            congr 1
            rw [List.take_eq_take_iff, List.length_drop, pv_len]
            omega
          · show _ = _
            rw [List.flatMap_append, HX.out, List.take_add]
            simp only [List.flatMap_cons, List.flatMap_nil, List.append_nil]
            congr 1
            rw [List.take_eq_take_iff, List.length_drop]
            omega
        case measure => simp [intOf]; omega
    · have HBD : Hid (bl bs = chunks n (pv s.xs)) := by
        have := HCH.out
        rwa [cut_end (by rw [pv_len]; omega), List.append_nil] at this
      have HBF : Hid (bs.flatMap (·.xs) = s.xs) := by
        have := HX.out
        rwa [List.take_of_length_le (by omega)] at this
      have hbn : bs.length ≤ s.xs.length := by rw [← bl_len, HBD.out]; exact Nat.le_trans (chunks_few hn1) (by rw [pv_len]; exact Nat.le_refl _)
      have HNE : Hid (∀ x, x ∈ bs → 0 < x.xs.length) := fun x hx => by
        have hm : pv x.xs ∈ chunks n (pv s.xs) := by rw [← HBD.out]; exact List.mem_map_of_mem hx
        have h1 := (chunks_ne hn1 _ _ (Nat.le_refl _) _ hm).1
        have h2 := List.length_pos_iff.2 h1
        rwa [pv_len] at h2
      have HRC : Hid (∀ x, x ∈ bs → RcOk (bnd (pv x.xs))) := fun x hx => by
        have hm : pv x.xs ∈ chunks n (pv s.xs) := by rw [← HBD.out]; exact List.mem_map_of_mem hx
        exact bnd_ok (chunks_ne hn1 _ _ (Nat.le_refl _) _ hm).1 fun v hv => okStored_ok (chk_all _ none HC0.out v (chunks_in hn1 _ hm v hv))
      have HVF : Hid (∀ x, x ∈ bs → VFits x.xs) := fun x hx v hv => HF.out v (by rw [← HBF.out]; exact List.mem_flatMap.2 ⟨x, hx, hv⟩)
      rw [← HBD.out] at HS
      obtain ⟨A, c, hvv, hi, _⟩ := HO.out.sl
      have HBI := Lib.hid hi
      subst hvv
      replace HB := HB.trans HB2
      have hts : t.data.toList.length = t.size := by simp
      have HTS := Lib.hid hts
      have i1 : I64 (s.xs.length : Int) := I64.nat (by omega)
      have i2 : I64 (bs.length : Int) := I64.nat (by omega)
      have hel : (encText t.data.toList).length ≤ 1000010 := by
        have := encInt_len (I64.nat (n := t.data.toList.length) (by omega))
        unfold encText
        rw [List.length_append]
        omega
      have l1 := encInt_len i1
      have l2 := encInt_len i2
      clear hi HO hbl HCH HX HB2 HFO hts hk
      go_wp2_with fail
      refine Calls.mono (rPutText_bs t wr (BS.nil wr) (by omega)) ?_
      rintro e3 w3 ⟨A3, N3, c3, rfl, h3, HB3⟩
      have hn3 : N3 ≤ 1000010 := by have := h3.len; rw [List.nil_append] at this; omega
      go_wp2_with fail
      refine Calls.mono (rPutInt_bs (s.xs.length : Int) i1 w3 h3 (by omega)) ?_
      rintro e4 w4 ⟨A4, N4, c4, rfl, h4, HB4⟩
      have hn4 : N4 ≤ 1000020 := by have h5 := h4.len; have h6 := h3.len; rw [List.length_append] at h5; omega
      go_wp2_with fail
      refine Calls.mono (rPutInt_bs (bs.length : Int) i2 w4 h4 (by omega)) ?_
      rintro e5 w5 ⟨A5, N5, c5, rfl, h5, HB5⟩
      obtain ⟨H, hH⟩ : ∃ H, H = [] ++ encText t.data.toList ++ encInt (s.xs.length : Int) ++ encInt (bs.length : Int) := ⟨_, rfl⟩
      have hn5 : H.length ≤ 1000030 := by rw [hH]; simp only [List.length_append, List.length_nil]; omega
      rw [← hH] at h5
      have HHH := Lib.hid hH
      have HB35 := HB3.trans (HB4.trans HB5)
      replace HBI := Lib.hid (HBI.out.below HB35.out)
      replace HB := HB.trans HB35
      have HRL := Lib.hid (encRc_at HRC.out)
      clear hH h3 h4 HB3 HB4 HB5 HB35 hn3 hn4
      go_wp2_with fail
      go_loopw [11, 13, 14, 63] (fun v _ _ i wq => ∃ (k : Nat) (A' : Option Addr) (N' c' : Nat), k ≤ bs.length ∧ i = .int .i64 (k : Int) ∧ v = .slice A' N' c' ∧ Hid (BS wq A' N' c' (H ++ ((bl bs).take k).flatMap fun x => encRc (bnd x))) ∧ BW w5 wq) (fun _ _ _ i _ => bs.length - (intOf i).toNat)
      case atStart => exact ⟨0, A5, N5, c5, Nat.zero_le _, rfl, rfl, (by show BS _ _ _ _ _; simpa using h5), BW.refl w5⟩
      case round =>
        clear h5
        obtain ⟨k, A', N', c', hk, rfl, rfl, HHS, HB2⟩ := hrel
        have hN' : N' ≤ 1000030 + 40 * bs.length := by
          have h2 := HHS.out.len
          rw [List.length_append] at h2
          have h3 := HRL.out k
          omega
        by_cases hlt : k < bs.length
        · obtain ⟨b, o, hA, hb, c0, hr⟩ := sl_at (s := ⟨A, c, bs⟩) (HBI.out.below HB2.out) k hlt
          simp only at hA c0 hr
          subst hA
          have HXI := Lib.hid hr
          obtain ⟨x, hx⟩ : ∃ x, x = bs[k] := ⟨_, rfl⟩
          have hx1 : 0 < x.xs.length := by rw [hx]; exact HNE.out _ (List.getElem_mem hlt)
          have HX1 : Hid (RcOk (bnd (pv x.xs))) := by rw [hx]; exact HRC.out _ (List.getElem_mem hlt)
          have HXB : Hid ((bl bs)[k]'(by rw [bl_len]; exact hlt) = pv x.xs) := by show _ = _; rw [hx]; simp [bl]
          rw [← hx] at c0 HXI
          clear hx hr
          obtain ⟨q, hq⟩ : ∃ q, q = bnd (pv x.xs) := ⟨_, rfl⟩
          have HQ := Lib.hid hq
          rw [← hq] at HX1
          clear hq
          obtain ⟨p1, p2⟩ := encRc_len' HX1.out
          go_wp2_with (go_at_call 49; refine Calls.mono (around37_any x _ HXI.out hx1) ?_; rintro e6 w6 ⟨rfl, b6⟩; rw [← HQ.out]; simp only [vRc, Rc.cells]; have HB6 := HB2.trans ⟨b6⟩; have hs6 := HHS.out.bw ⟨b6⟩; clear b6)
          have HGX : Hid (BoxR (w6.alloc (.cells #[.int .i64 q.vf, .int .i64 q.vt, .int .i64 q.sf, .int .i64 q.st] 51)) w6.heap.size q) := heap_alloc_new w6 _
          have HGW : Hid (BW w6 (w6.alloc (.cells #[.int .i64 q.vf, .int .i64 q.vt, .int .i64 q.sf, .int .i64 q.st] 51))) := (BW.refl w6).alloc _
          generalize w6.alloc _ = V0 at HGX HGW ⊢
          obtain ⟨g, hg⟩ : ∃ g, g = w6.heap.size := ⟨_, rfl⟩
          rw [← hg] at HGX ⊢
          clear hg
          have hgl : g < V0.heap.size := HGX.out.lt
          obtain ⟨d0, d1, d2, d3⟩ := boxr4 HGX.out
          have hs0 := hs6.bw HGW.out
          have HC := BW.refl V0
          clear hs6 HHS c0
          go_region_held3 (fun W => W.cell? ⟨g, 0, none⟩ = some (.int .i64 q.vf) ∧ W.cell? ⟨g, 1, none⟩ = some (.int .i64 q.vt) ∧ W.cell? ⟨g, 2, none⟩ = some (.int .i64 q.sf) ∧ W.cell? ⟨g, 3, none⟩ = some (.int .i64 q.st)) (go_keep) (first
            | (go_at_call_of 50 (Value.agg #[Value.int .i64 q.vf, Value.int .i64 q.vt]); refine Calls.mono (rPutPeriod_bs q.vf q.vt (okPer_i64 HX1.out.v).1 (okPer_i64 HX1.out.v).2 _ (hs0.bw ⟨by exact BW.fin⟩) (by omega)) ?_; rintro e7 w7 ⟨A7, N7, c7, rfl, hs7, HB7⟩; have hn7 : N7 ≤ N' + 20 := (by have h2 := hs7.len; have h3 := hs0.len; rw [List.length_append] at h2; omega); replace HC := BW.next HB7.out; have hcc7 := bcell HC.out)
            | (go_at_call_of 50 (Value.agg #[Value.int .i64 q.sf, Value.int .i64 q.st]); refine Calls.mono (rPutPeriod_bs q.sf q.st (okPer_i64 HX1.out.s).1 (okPer_i64 HX1.out.s).2 _ (hs7.bw ⟨by exact BW.fin⟩) (by omega)) ?_; rintro e8 w8 ⟨A8, N8, c8, rfl, hs8, HB8⟩; replace HC := BW.next HB8.out; have hcc8 := bcell HC.out))
          have HS8 := Lib.hid hs8
          clear hs0 hs7 hs8 d0 d1 d2 d3 hcc7 hcc8
          go_wp2_with fail
          go_roundw
          case rel =>
            refine ⟨k + 1, A8, N8, c8, by omega, by go_num, rfl, ?_, HB6.trans (HGW.out.trans HC)⟩
            have hkb : k < (bl bs).length := by rw [bl_len]; exact hlt
            have h1 := take_flat (fun x => encRc (bnd x)) (bl bs) k hkb
            have h2 : encRc (bnd (bl bs)[k]) = encPer q.vf q.vt ++ encPer q.sf q.st := by rw [HXB.out, HQ.out]; rfl
            show BS _ _ _ _ _
            rw [h1, h2]
            have h3 := HS8.out
            simp only [List.append_assoc] at h3 ⊢
            exact h3
          case measure => simp [intOf]; omega
        · have HHE : Hid (BS wr A' N' c' (encHead t.data.toList s.xs.length (bl bs))) := by
            have h2 := HHS.out
            rw [List.take_of_length_le (by rw [bl_len]; omega), HHH.out] at h2
            show BS _ _ _ _ _
            unfold encHead
            rw [bl_len]
            simpa [List.append_assoc] using h2
          replace HB := HB.trans HB2
          replace HBI := Lib.hid (HBI.out.below HB2.out)
          have HNL := Lib.hid HHE.out.len
          clear HHS HB2 HHH hn5
          by_cases hbig : 1048576 < N'
          · rw [if_pos (by rw [← HNL.out]; exact hbig)] at HS
            go_wp2_with fail
            refine Calls.mono (rAppend_big wr hbig) ?_
            rintro e6 w6 ⟨rfl, b6⟩
            replace HB := HB.trans ⟨b6⟩
            go_wp2_with fail
            go_loopw [15, 16, 17, 18, 19] (fun _ e i _ _ wq => e = .int .i64 5 ∧ i = .int .i64 0 ∧ wq = w6) (fun _ _ i _ _ _ => (intOf i).toNat)
            case atStart => exact ⟨rfl, rfl, rfl⟩
            case round =>
              obtain ⟨rfl, rfl, rfl⟩ := hrel
              go_wp2_with fail
              all_goals
                go_ret2
                exact NewE.none HS.out HB
          · rw [if_neg (by rw [← HNL.out]; exact hbig)] at HS
            go_wp2_with fail
            refine Calls.mono (rAppend_bs wr (BS.nil wr) HHE.out (by decide) (by omega)) ?_
            rintro e6 w6 ⟨A6, N6, c6, rfl, h6, HB6⟩
            rw [List.nil_append] at h6
            have hn6 : N6 ≤ 1048584 := by have h7 := h6.len; rw [frameOf_len] at h7; have h8 := HNL.out; omega
            replace HB := HB.trans HB6
            replace HBI := Lib.hid (HBI.out.below HB6.out)
            clear HHE HNL HB6 hN'
            go_wp2_with fail
            go_loopw [15, 16, 17, 18, 19] (fun v e i _ _ wq => ∃ (k : Nat) (A' : Option Addr) (N' c' : Nat) (xs : List UInt8), k ≤ bs.length ∧ e = .int .i64 0 ∧ i = .int .i64 (k : Int) ∧ v = .slice A' N' c' ∧ N' ≤ (k + 1) * 1048584 ∧ Hid (BS wq A' N' c' xs) ∧ Hid (segBuild t.data.toList (pv s.xs) (n : Int) = encBlocks ((bl bs).drop k) xs) ∧ BW w6 wq) (fun _ _ i _ _ _ => bs.length - (intOf i).toNat)
            case atStart => exact ⟨0, A6, N6, c6, _, Nat.zero_le _, rfl, rfl, rfl, by omega, h6, HS, BW.refl w6⟩
            case round =>
              clear h6 HS hn6
              obtain ⟨k, A', N', c', xs, hk, rfl, rfl, rfl, hN', HXS, HS, HB2⟩ := hrel
              by_cases hlt : k < bs.length
              · obtain ⟨b, o, hA, hb, c0, hr⟩ := sl_at (s := ⟨A, c, bs⟩) (HBI.out.below HB2.out) k hlt
                simp only at hA c0 hr
                subst hA
                have HXI := Lib.hid hr
                have hbk : k < (bl bs).length := by rw [bl_len]; exact hlt
                have HEA := Lib.hid (encBlocks_at hbk xs)
                have HBX : Hid ((bl bs)[k] = pv bs[k].xs) := by show _ = _; simp [bl]
                have HFX := Lib.hid (HVF.out _ (List.getElem_mem hlt))
                clear hr
                go_wp2_with fail
                refine Calls.mono (rEncode_any bs[k] _ HXI.out HFX.out) ?_
                rintro e7 w7 ⟨A7, N7, c7, rfl, h7, HB7⟩
                have hn7 : N7 ≤ 1048576 := by rw [h7.len]; exact encodeVers_le _
                have HS7 := Lib.hid h7
                clear h7 c0
                by_cases he : (encodeVers (pv bs[k].xs)).2 = 0
                · have HE := Lib.hid he
                  rw [he]
                  clear he
                  go_wp2_with fail
                  refine Calls.mono (rAppend_bs w7 (HXS.out.bw HB7) HS7.out (by omega) hn7) ?_
                  rintro e8 w8 ⟨A8, N8, c8, rfl, h8, HB8⟩
                  have HS8 := Lib.hid h8
                  have hn8 : N8 ≤ N' + 1048584 := by
                    have h9 := h8.len
                    have h10 := HXS.out.len
                    have h11 := HS7.out.len
                    rw [List.length_append, frameOf_len] at h9
                    omega
                  clear h8
                  go_wp2_with fail
                  go_roundw
                  case rel =>
                    refine ⟨k + 1, A8, N8, c8, _, by omega, rfl, by go_num, rfl, by omega, HS8, ?_, HB2.trans (HB7.trans HB8)⟩
                    show _ = _
                    rw [HS.out, HEA.out, HBX.out, if_neg (by rw [HE.out]; simp)]
                  case measure => simp [intOf]; omega
                · obtain ⟨er, her⟩ : ∃ er, er = (encodeVers (pv bs[k].xs)).2 := ⟨_, rfl⟩
                  have HE := Lib.hid he
                  rw [← her] at he ⊢
                  have HER := Lib.hid her
                  clear her
                  go_wp2_with fail
                  go_ret2
                  exact NewE.none (by rw [HS.out, HEA.out, HBX.out, if_pos HE.out, HER.out]) (HB.trans (HB2.trans HB7))
              · have HS2 : Hid (segBuild t.data.toList (pv s.xs) (n : Int) = (xs, 0)) := by
                  show _ = _
                  rw [HS.out, List.drop_of_length_le (by rw [bl_len]; omega)]; rfl
                go_wp2_with fail
                go_ret2
                exact ⟨A', N', c', by rw [HS2.out]; rfl, by rw [HS2.out]; exact HXS.out, HB.trans HB2⟩
end Go.Proofs.Ytndlhmnablefpaa

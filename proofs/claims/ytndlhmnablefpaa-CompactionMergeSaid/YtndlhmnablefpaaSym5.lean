/- slices' symMerge where the right range is one version. -/
import Derived.Test.YtndlhmnablefpaaSym4
namespace Go.Proofs.Ytndlhmnablefpaa
open Go.RowKit
set_option linter.unusedSimpArgs false
set_option linter.unusedVariables false
set_option maxRecDepth 100000 in
set_option maxHeartbeats 2000000 in
theorem symDn_any (a m b n : Nat) (hm : b = m + 1) (xs : List Ver) (base g c : Nat) (w : World) (h : VR w base g c n xs) (hb : base ≤ w.heap.size) (hn : n ≤ 1000000) (ham : a + 1 < m) (hbn : b ≤ n) (hs : SortedOn a m xs) :
    Calls Try.prog 94 #[.slice (some ⟨g, 0, none⟩) n c, .int .i64 (a : Int), .int .i64 (m : Int), .int .i64 (b : Int), .func (.func 33) #[] #[]] w (SymPost a b w base g c n xs) := by
  have H := Lib.hid h
  have HS := Lib.hid hs
  have HM := Lib.hid hm
  have e0 : IntKind.i64.wrap ((m : Int) - (a : Int)) = (m : Int) - (a : Int) := IntWalk.i64_in _ (by omega)
  have e1 : ¬ (m : Int) - (a : Int) = 1 := by omega
  have e1' : ((m : Int) - (a : Int) == 1) = false := by simpa using e1
  have e2 : (b : Int) - (m : Int) = 1 := by omega
  have hmn : m < n := by omega
  clear h hs hm
  go_enter Try.func94, Try.ntmps94
  go_wp2_with fail
  go_loopw [14, 15, 16] (fun p q _ wr => ∃ (i j : Nat), p = .int .i64 i ∧ q = .int .i64 j ∧ Hid (Place a i j m (el xs m) xs) ∧ BW w wr) (fun p q _ _ => (intOf q).toNat - (intOf p).toNat)
  case atStart => exact ⟨a, m, rfl, rfl, ⟨Nat.le_refl _, by omega, Nat.le_refl _, fun k h1 h2 => by omega, fun k h1 h2 => by omega⟩, BW.refl w⟩
  case round =>
    obtain ⟨i, j, rfl, rfl, HP, HB⟩ := hrel
    obtain ⟨p1, p2, p3, _, _⟩ := HP.out
    by_cases hlt : i < j
    · obtain ⟨h, hh, h1, h2⟩ : ∃ h : Nat, ((i : Int) + (j : Int)) / 2 = (h : Int) ∧ i ≤ h ∧ h < j := ⟨(i + j) / 2, by omega, by omega, by omega⟩
      have HV := Lib.hid (H.out.below HB.out)
      have hhn : (h : Int) < (n : Int) := by omega
      have han : (m : Int) < (n : Int) := by omega
      have hhl : h < xs.length := by have := H.out.len; omega
      have hal2 : m < xs.length := by have := H.out.len; omega
      obtain ⟨c0, c1, c2, c3, c4, c5, c6, c7, c8⟩ := vrow_at HV.out.row h hhl
      obtain ⟨d0, d1, d2, d3, d4, d5, d6, d7, d8⟩ := vrow_at HV.out.row m hal2
      go_wp2_with fail
      go_still_tail 9, (by kernel_rfl)
      change wpList _ _ _ _ _ wr.drew
      clear c0 c1 c2 c3 c4 c5 c6 c7 c8 d0 d1 d2 d3 d4 d5 d6 d7 d8
      by_cases hless : lessV (el xs m) (el xs h) = true
      · have hcmp : ord (el xs m).p (el xs h).p < 0 := of_decide_eq_true hless
        go_wp2_with (go_at_call 33; refine (order_any (el xs m) (el xs h) _).mono ?_; rintro e w2 ⟨rfl, hb2⟩; replace HB := BW.next hb2)
        go_roundw
        case rel => exact ⟨i, h, rfl, rfl, ⟨p1, h1, by omega, HP.out.left, fun k k1 k2 => (leV.of_less hless).trans (HS.out.le (by omega) k1 k2)⟩, HB⟩
        case measure => simp [intOf]; omega
      · have hcmp : ¬ ord (el xs m).p (el xs h).p < 0 := of_decide_eq_false (Bool.eq_false_iff.2 hless)
        have hcmp2 : (!decide (ord (el xs m).p (el xs h).p < 0)) = true := by rw [decide_eq_false hcmp]; rfl
        go_wp2_with (go_at_call 33; refine (order_any (el xs m) (el xs h) _).mono ?_; rintro e w2 ⟨rfl, hb2⟩; replace HB := BW.next hb2)
        go_roundw
        case rel => exact ⟨h + 1, j, by go_num, rfl, ⟨by omega, by omega, p3, fun k k1 k2 => (HS.out.le k1 (by omega) (by omega)).trans (y := el xs h) (Bool.eq_false_iff.2 hless), HP.out.right⟩, HB⟩
        case measure => simp [intOf]; omega
    · obtain rfl : j = i := by omega
      go_wp2_with fail
      go_loopw [17] (fun q wq => ∃ (k : Nat) (zs : List Ver), j ≤ k ∧ k ≤ m ∧ q = .int .i64 k ∧ Hid (VR wq base g c n zs) ∧ Hid (Maps (rotI k m (m + 1)) xs zs) ∧ Gr w wq (some g) (some g)) (fun q _ => (intOf q).toNat)
      case atStart => exact ⟨m, xs, by omega, Nat.le_refl _, rfl, H.out.below HB.out, Maps.refl _ (fun q => rot_none (.inl rfl) (by omega) (by omega)), Gr.of_below _ HB.out⟩
      case round =>
        clear HB
        obtain ⟨k, zs, hjk, hkm, rfl, HX, HMp, HG⟩ := hrel
        by_cases hkl : j < k
        · have hk0 : k < zs.length := by have := HX.out.len; omega
          have hk1 : k - 1 < zs.length := by have := HX.out.len; omega
          have hkn : (k : Int) < (n : Int) := by omega
          obtain ⟨c0, c1, c2, c3, c4, c5, c6, c7, c8⟩ := vrow_at (HX.out.below (BW.refl wr).drew.out).row k hk0
          obtain ⟨d0, d1, d2, d3, d4, d5, d6, d7, d8⟩ := vrow_at (HX.out.below (BW.refl wr).drew.out).row (k - 1) hk1
          obtain ⟨q1, q2, q3, q4, q5⟩ := idx_pred (k := k) (n := n) (by omega) (by omega) (by omega)
          go_wp2_with fail
          have HB := (BW.refl wr).drew
          have HX4 := Lib.hid (HX.out.below HB.out)
          refine wp_region_any (by kernel_rfl) ?_
          change wpAny _ _ _ _ _ _ _ (World.drew _)
          refine wpAny_take (i := 0) (v := ?_) rfl (by kernel_rfl) (by kernel_rfl) (by kernel_rfl) (fun _ _ _ h => h) (Or.inl ⟨by rfl, ?_⟩) ?_
          rotate_left
          · intro w'; go_simp; (try with_reducible rfl)
          (try simp only [Act.put, List.setIfInBounds_toArray, List.set_cons_zero, List.set_cons_succ])
          refine wpAny_take (i := 1) (v := ?_) rfl (by kernel_rfl) (by kernel_rfl) (by kernel_rfl) (fun _ _ _ h => h) (Or.inl ⟨by rfl, ?_⟩) ?_
          rotate_left
          · intro w'; go_simp; (try with_reducible rfl)
          (try simp only [Act.put, List.setIfInBounds_toArray, List.set_cons_zero, List.set_cons_succ])
          refine wpAny_take (i := 2) (v := ?_) rfl (by kernel_rfl) (by kernel_rfl) (by kernel_rfl) (fun _ _ _ h => h) (Or.inl ⟨by rfl, ?_⟩) ?_
          rotate_left
          · intro w'; go_simp; (try with_reducible rfl)
          (try simp only [Act.put, List.setIfInBounds_toArray, List.set_cons_zero, List.set_cons_succ])
          refine wpAny_take (i := 3) (v := ?_) rfl (by kernel_rfl) (by kernel_rfl) (by kernel_rfl) (fun _ _ _ h => h) (Or.inl ⟨by rfl, ?_⟩) ?_
          rotate_left
          · intro w'; go_simp; (try with_reducible rfl)
          (try simp only [Act.put, List.setIfInBounds_toArray, List.set_cons_zero, List.set_cons_succ])
          refine wpAny_take (i := 4) (v := ?_) rfl (by kernel_rfl) (by kernel_rfl) (by kernel_rfl) (fun _ _ _ h => h) (Or.inl ⟨by rfl, ?_⟩) ?_
          rotate_left
          · intro w'; go_simp; (try with_reducible rfl)
          (try simp only [Act.put, List.setIfInBounds_toArray, List.set_cons_zero, List.set_cons_succ])
          refine wpAny_take (i := 5) (v := ?_) rfl (by kernel_rfl) (by kernel_rfl) (by kernel_rfl) (fun _ _ _ h => h) (Or.inl ⟨by rfl, ?_⟩) ?_
          rotate_left
          · intro w'; go_simp; (try with_reducible rfl)
          (try simp only [Act.put, List.setIfInBounds_toArray, List.set_cons_zero, List.set_cons_succ])
          refine wpAny_take (i := 6) (v := ?_) rfl (by kernel_rfl) (by kernel_rfl) (by kernel_rfl) (fun _ _ _ h => h) (Or.inl ⟨by rfl, ?_⟩) ?_
          rotate_left
          · intro w'; go_simp; (try with_reducible rfl)
          (try simp only [Act.put, List.setIfInBounds_toArray, List.set_cons_zero, List.set_cons_succ])
          refine wpAny_take (i := 7) (v := ?_) rfl (by kernel_rfl) (by kernel_rfl) (by kernel_rfl) (fun _ _ _ h => h) (Or.inl ⟨by rfl, ?_⟩) ?_
          rotate_left
          · intro w'; go_simp; (try with_reducible rfl)
          (try simp only [Act.put, List.setIfInBounds_toArray, List.set_cons_zero, List.set_cons_succ])
          refine wpAny_take (i := 8) (v := ?_) rfl (by kernel_rfl) (by kernel_rfl) (by kernel_rfl) (fun _ _ _ h => h) (Or.inl ⟨by rfl, ?_⟩) ?_
          rotate_left
          · intro w'; go_simp; (try with_reducible rfl)
          (try simp only [Act.put, List.setIfInBounds_toArray, List.set_cons_zero, List.set_cons_succ])
          refine wpAny_take (i := 10) (v := ?_) rfl (by kernel_rfl) (by kernel_rfl) (by kernel_rfl) (fun _ _ _ h => h) (Or.inl ⟨by rfl, ?_⟩) ?_
          rotate_left
          · intro w'; go_simp; (try with_reducible rfl)
          (try simp only [Act.put, List.setIfInBounds_toArray, List.set_cons_zero, List.set_cons_succ])
          refine wpAny_take (i := 11) (v := ?_) rfl (by kernel_rfl) (by kernel_rfl) (by kernel_rfl) (fun _ _ _ h => h) (Or.inl ⟨by rfl, ?_⟩) ?_
          rotate_left
          · intro w'; go_simp; (try with_reducible rfl)
          (try simp only [Act.put, List.setIfInBounds_toArray, List.set_cons_zero, List.set_cons_succ])
          refine wpAny_take (i := 12) (v := ?_) rfl (by kernel_rfl) (by kernel_rfl) (by kernel_rfl) (fun _ _ _ h => h) (Or.inl ⟨by rfl, ?_⟩) ?_
          rotate_left
          · intro w'; go_simp; (try with_reducible rfl)
          (try simp only [Act.put, List.setIfInBounds_toArray, List.set_cons_zero, List.set_cons_succ])
          refine wpAny_ready (rs := [9, 13]) (by kernel_rfl) (by simp) ?_
          refine AllReady.cons rfl (fun K hK => ?_) (AllReady.cons rfl (fun K hK => ?_) AllReady.nil)
          case' refine_1 =>
            go_simp
            refine hK _ _ ?_
            clear hK K
            (try simp only [Act.put, List.setIfInBounds_toArray, List.set_cons_zero, List.set_cons_succ])
            refine wpAny_ready (rs := [13]) (by kernel_rfl) (by simp) ?_
            refine AllReady.cons rfl (fun K hK => ?_) AllReady.nil
            go_simp
            refine hK _ _ ?_
            clear hK K
            (try simp only [Act.put, List.setIfInBounds_toArray, List.set_cons_zero, List.set_cons_succ])
            refine wpAny_take (i := 14) (v := ?_) rfl (by kernel_rfl) (by kernel_rfl) (by kernel_rfl) (fun _ _ _ h => h) (Or.inl ⟨by rfl, ?_⟩) ?_
            rotate_left
            · intro w'; go_simp; (try with_reducible rfl)
            (try simp only [Act.put, List.setIfInBounds_toArray, List.set_cons_zero, List.set_cons_succ])
            refine wpAny_ready (rs := [15]) (by kernel_rfl) (by simp) ?_
            refine AllReady.cons rfl (fun K hK => ?_) AllReady.nil
            refine step_of_wp rfl (wp_store_elem kVer HX4.out.row (.tmp 127) (.tmp 122) rfl (k) rfl (el zs (k - 1)) rfl (by kernel_rfl) hk0 (HX4.out.row.inv_el hk1) (HX4.out.row.ne_el hk1) (fun ws1 hs1 gs1 => ?_))
            refine hK _ _ ?_
            clear hK K
            (try simp only [Act.put, List.setIfInBounds_toArray, List.set_cons_zero, List.set_cons_succ])
            refine wpAny_take (i := 16) (v := ?_) rfl (by kernel_rfl) (by kernel_rfl) (by kernel_rfl) (fun _ _ _ h => h) (Or.inl ⟨by rfl, ?_⟩) ?_
            rotate_left
            · intro w'; go_simp; (try with_reducible rfl)
            (try simp only [Act.put, List.setIfInBounds_toArray, List.set_cons_zero, List.set_cons_succ])
            refine wpAny_ready (rs := [17]) (by kernel_rfl) (by simp) ?_
            refine AllReady.cons rfl (fun K hK => ?_) AllReady.nil
            refine step_of_wp rfl (wp_store_elem kVer hs1 (.tmp 128) (.tmp 126) rfl (k - 1) rfl (el zs (k)) rfl (by kernel_rfl) (by rw [List.length_set]; exact hk1) (inv_gr (HX4.out.row.inv_el hk0) gs1 (HX4.out.row.ne_el hk0)) (HX4.out.row.ne_el hk0) (fun ws2 hs2 gs2 => ?_))
            refine hK _ _ ?_
            clear hK K
            (try simp only [Act.put, List.setIfInBounds_toArray, List.set_cons_zero, List.set_cons_succ])
            refine wpAny_done (by kernel_rfl) ?_ _
            have HS2 := Lib.hid (VR.mk (n := n) (ys := swp zs (k) (k - 1)) hs2 (by rw [swp_len]; exact HX4.out.len))
            have HG3 := HG.trans (((Gr.of_below _ HB.out).trans gs1).trans gs2)
            clear hs1 gs1 hs2 gs2
            go_wp2
            go_roundw
            case rel => exact ⟨k - 1, swp zs k (k - 1), by omega, by omega, by go_num, HS2, HMp.out.trans (maps_swp hk0 hk1) (rot_dn hkl hkm), HG3⟩
            case measure => simp [intOf]; omega
          case' refine_2 =>
            go_simp
            refine hK _ _ ?_
            clear hK K
            (try simp only [Act.put, List.setIfInBounds_toArray, List.set_cons_zero, List.set_cons_succ])
            refine wpAny_ready (rs := [9]) (by kernel_rfl) (by simp) ?_
            refine AllReady.cons rfl (fun K hK => ?_) AllReady.nil
            go_simp
            refine hK _ _ ?_
            clear hK K
            (try simp only [Act.put, List.setIfInBounds_toArray, List.set_cons_zero, List.set_cons_succ])
            refine wpAny_take (i := 14) (v := ?_) rfl (by kernel_rfl) (by kernel_rfl) (by kernel_rfl) (fun _ _ _ h => h) (Or.inl ⟨by rfl, ?_⟩) ?_
            rotate_left
            · intro w'; go_simp; (try with_reducible rfl)
            (try simp only [Act.put, List.setIfInBounds_toArray, List.set_cons_zero, List.set_cons_succ])
            refine wpAny_ready (rs := [15]) (by kernel_rfl) (by simp) ?_
            refine AllReady.cons rfl (fun K hK => ?_) AllReady.nil
            refine step_of_wp rfl (wp_store_elem kVer HX4.out.row (.tmp 127) (.tmp 122) rfl (k) rfl (el zs (k - 1)) rfl (by kernel_rfl) hk0 (HX4.out.row.inv_el hk1) (HX4.out.row.ne_el hk1) (fun ws1 hs1 gs1 => ?_))
            refine hK _ _ ?_
            clear hK K
            (try simp only [Act.put, List.setIfInBounds_toArray, List.set_cons_zero, List.set_cons_succ])
            refine wpAny_take (i := 16) (v := ?_) rfl (by kernel_rfl) (by kernel_rfl) (by kernel_rfl) (fun _ _ _ h => h) (Or.inl ⟨by rfl, ?_⟩) ?_
            rotate_left
            · intro w'; go_simp; (try with_reducible rfl)
            (try simp only [Act.put, List.setIfInBounds_toArray, List.set_cons_zero, List.set_cons_succ])
            refine wpAny_ready (rs := [17]) (by kernel_rfl) (by simp) ?_
            refine AllReady.cons rfl (fun K hK => ?_) AllReady.nil
            refine step_of_wp rfl (wp_store_elem kVer hs1 (.tmp 128) (.tmp 126) rfl (k - 1) rfl (el zs (k)) rfl (by kernel_rfl) (by rw [List.length_set]; exact hk1) (inv_gr (HX4.out.row.inv_el hk0) gs1 (HX4.out.row.ne_el hk0)) (HX4.out.row.ne_el hk0) (fun ws2 hs2 gs2 => ?_))
            refine hK _ _ ?_
            clear hK K
            (try simp only [Act.put, List.setIfInBounds_toArray, List.set_cons_zero, List.set_cons_succ])
            refine wpAny_done (by kernel_rfl) ?_ _
            have HS2 := Lib.hid (VR.mk (n := n) (ys := swp zs (k) (k - 1)) hs2 (by rw [swp_len]; exact HX4.out.len))
            have HG3 := HG.trans (((Gr.of_below _ HB.out).trans gs1).trans gs2)
            clear hs1 gs1 hs2 gs2
            go_wp2
            go_roundw
            case rel => exact ⟨k - 1, swp zs k (k - 1), by omega, by omega, by go_num, HS2, HMp.out.trans (maps_swp hk0 hk1) (rot_dn hkl hkm), HG3⟩
            case measure => simp [intOf]; omega
        · go_wp2
          go_end0
          have hm := HM.out
          refine ⟨rfl, zs, HX.out, ?_, HG⟩
          rw [hm]
          refine one_down (i := j) HS.out (by rw [H.out.len]; exact hmn) p1 p3 HP.out.left HP.out.right ?_
          rw [show k = j by omega] at HMp
          exact HMp.out
end Go.Proofs.Ytndlhmnablefpaa

/- slices' symMerge where the left range is one version. -/
import Derived.Test.YtndlhmnablefpaaSym3
namespace Go.Proofs.Ytndlhmnablefpaa
open Go.RowKit
set_option linter.unusedSimpArgs false
set_option linter.unusedVariables false
/-- What a merge of two ranges leaves. -/
def SymPost (a b : Nat) (w : World) (base g c n : Nat) (xs : List Ver) (e : Ending) (w' : World) : Prop := e = .returned (.tuple #[]) ∧ ∃ zs, VR w' base g c n zs ∧ SM a b xs zs ∧ Gr w w' (some g) (some g)
/-- What the search of one element's place knows. -/
structure Place (lo i j b : Nat) (y : Ver) (xs : List Ver) : Prop where
  hi : lo ≤ i
  hij : i ≤ j
  hj : j ≤ b
  left : ∀ k, lo ≤ k → k < i → leV (el xs k) y
  right : ∀ k, j ≤ k → k < b → leV y (el xs k)
theorem rot_up {a m k : Nat} (hm : m = a + 1) (hk : a ≤ k) (q : Nat) : rotI a m (k + 1) (if q = k + 1 then k else if q = k then k + 1 else q) = rotI a m (k + 1 + 1) q := by
  subst hm; unfold rotI; (repeat' split) <;> omega
theorem rot_dn {i m k : Nat} (hk : i < k) (hkm : k ≤ m) (q : Nat) : rotI k m (m + 1) (if q = k - 1 then k else if q = k then k - 1 else q) = rotI (k - 1) m (m + 1) q := by
  unfold rotI; (repeat' split) <;> omega
set_option maxRecDepth 100000 in
set_option maxHeartbeats 2000000 in
theorem symUp_any (a m b n : Nat) (hm : m = a + 1) (xs : List Ver) (base g c : Nat) (w : World) (h : VR w base g c n xs) (hb : base ≤ w.heap.size) (hn : n ≤ 1000000) (hab : m < b) (hbn : b ≤ n) (hs : SortedOn m b xs) :
    Calls Try.prog 94 #[.slice (some ⟨g, 0, none⟩) n c, .int .i64 (a : Int), .int .i64 (m : Int), .int .i64 (b : Int), .func (.func 33) #[] #[]] w (SymPost a b w base g c n xs) := by
  have H := Lib.hid h
  have HS := Lib.hid hs
  have HM := Lib.hid hm
  have e1 : (m : Int) - (a : Int) = 1 := by omega
  have hal : a < n := by omega
  clear h hs hm
  go_enter Try.func94, Try.ntmps94
  go_wp2_with fail
  go_loopw [10, 11, 12] (fun p q _ wr => ∃ (i j : Nat), p = .int .i64 i ∧ q = .int .i64 j ∧ Hid (Place m i j b (el xs a) xs) ∧ BW w wr) (fun p q _ _ => (intOf q).toNat - (intOf p).toNat)
  case atStart => exact ⟨m, b, rfl, rfl, ⟨Nat.le_refl _, by omega, Nat.le_refl _, fun k h1 h2 => by omega, fun k h1 h2 => by omega⟩, BW.refl w⟩
  case round =>
    obtain ⟨i, j, rfl, rfl, HP, HB⟩ := hrel
    obtain ⟨p1, p2, p3, _, _⟩ := HP.out
    by_cases hlt : i < j
    · obtain ⟨h, hh, h1, h2⟩ : ∃ h : Nat, ((i : Int) + (j : Int)) / 2 = (h : Int) ∧ i ≤ h ∧ h < j := ⟨(i + j) / 2, by omega, by omega, by omega⟩
      have HV := Lib.hid (H.out.below HB.out)
      have hhn : (h : Int) < (n : Int) := by omega
      have han : (a : Int) < (n : Int) := by omega
      have hhl : h < xs.length := by have := H.out.len; omega
      have hal2 : a < xs.length := by have := H.out.len; omega
      obtain ⟨c0, c1, c2, c3, c4, c5, c6, c7, c8⟩ := vrow_at HV.out.row h hhl
      obtain ⟨d0, d1, d2, d3, d4, d5, d6, d7, d8⟩ := vrow_at HV.out.row a hal2
      go_wp2_with fail
      go_still_tail 9, (by kernel_rfl)
      change wpList _ _ _ _ _ wr.drew
      clear c0 c1 c2 c3 c4 c5 c6 c7 c8 d0 d1 d2 d3 d4 d5 d6 d7 d8
      by_cases hless : lessV (el xs h) (el xs a) = true
      · have hcmp : ord (el xs h).p (el xs a).p < 0 := of_decide_eq_true hless
        go_wp2_with (go_at_call 33; refine (order_any (el xs h) (el xs a) _).mono ?_; rintro e w2 ⟨rfl, hb2⟩; replace HB := BW.next hb2)
        go_roundw
        case rel => exact ⟨h + 1, j, by go_num, rfl, ⟨by omega, by omega, p3, fun k k1 k2 => (HS.out.le k1 (by omega) (by omega)).trans (.of_less hless), HP.out.right⟩, HB⟩
        case measure => simp [intOf]; omega
      · have hcmp : ¬ ord (el xs h).p (el xs a).p < 0 := of_decide_eq_false (Bool.eq_false_iff.2 hless)
        go_wp2_with (go_at_call 33; refine (order_any (el xs h) (el xs a) _).mono ?_; rintro e w2 ⟨rfl, hb2⟩; replace HB := BW.next hb2)
        go_roundw
        case rel => exact ⟨i, h, rfl, rfl, ⟨p1, h1, by omega, HP.out.left, fun k k1 k2 => leV.trans (y := el xs h) (Bool.eq_false_iff.2 hless) (HS.out.le (by omega) k1 k2)⟩, HB⟩
        case measure => simp [intOf]; omega
    · obtain rfl : j = i := by omega
      have e2 : IntKind.i64.wrap ((j : Int) - 1) = (j : Int) - 1 := IntWalk.i64_in _ (by omega)
      go_wp2_with fail
      obtain ⟨wo, hwo⟩ : ∃ wo : World, wo = wr := ⟨_, rfl⟩
      go_loopw [13] (fun q wq => ∃ (k : Nat) (zs : List Ver), a ≤ k ∧ k + 1 ≤ j ∧ q = .int .i64 k ∧ Hid (VR wq base g c n zs) ∧ Hid (Maps (rotI a m (k + 1)) xs zs) ∧ Gr w wq (some g) (some g)) (fun q _ => j - (intOf q).toNat)
      case atStart => exact ⟨a, xs, Nat.le_refl _, by omega, rfl, H.out.below HB.out, Maps.refl _ (fun q => rot_none (.inr (by have := HM.out; omega)) (by omega) (by omega)), Gr.of_below _ HB.out⟩
      case round =>
        clear HB
        obtain ⟨k, zs, hak, hkj, rfl, HX, HMp, HG⟩ := hrel
        by_cases hkl : k + 1 < j
        · have hk0 : k < zs.length := by have := HX.out.len; omega
          have hk1 : k + 1 < zs.length := by have := HX.out.len; omega
          have hkj' : (k : Int) < (j : Int) - 1 := by omega
          have hkn : (k : Int) < (n : Int) := by omega
          obtain ⟨c0, c1, c2, c3, c4, c5, c6, c7, c8⟩ := vrow_at (HX.out.below (BW.refl wr).drew.out).row k hk0
          obtain ⟨d0, d1, d2, d3, d4, d5, d6, d7, d8⟩ := vrow_at (HX.out.below (BW.refl wr).drew.out).row (k + 1) hk1
          obtain ⟨q1, q2, q3, q4⟩ := idx_add (a := k) (i := 1) (n := n) (by omega) hn
          simp only [Int.natCast_one] at q1 q2 q3 q4
          go_wp2_with fail
          have HB := (BW.refl wr).drew
          have HX4 := Lib.hid (HX.out.below HB.out)
          refine wp_region_any (by kernel_rfl) ?_
          change wpAny _ _ _ _ _ _ _ (World.drew _)
          refine wpAny_take (i := 0) (v := ?_) rfl (by kernel_rfl) (by kernel_rfl) (by kernel_rfl) (fun _ _ _ h => h) (Or.inl ⟨by rfl, ?_⟩) ?_
          rotate_left
          · intro w'; go_simp; (try with_reducible rfl)
          (try simp only [Act.put, List.setIfInBounds_toArray, List.set_cons_zero, List.set_cons_succ])
          refine wpAny_take (i := 1) (v := ?_) rfl (by kernel_rfl) (by kernel_rfl) (by kernel_rfl) (fun _ _ _ h => h) (Or.inl ⟨by rfl, ?_⟩) ?_
          rotate_left
          · intro w'; go_simp; (try with_reducible rfl)
          (try simp only [Act.put, List.setIfInBounds_toArray, List.set_cons_zero, List.set_cons_succ])
          refine wpAny_take (i := 2) (v := ?_) rfl (by kernel_rfl) (by kernel_rfl) (by kernel_rfl) (fun _ _ _ h => h) (Or.inl ⟨by rfl, ?_⟩) ?_
          rotate_left
          · intro w'; go_simp; (try with_reducible rfl)
          (try simp only [Act.put, List.setIfInBounds_toArray, List.set_cons_zero, List.set_cons_succ])
          refine wpAny_take (i := 3) (v := ?_) rfl (by kernel_rfl) (by kernel_rfl) (by kernel_rfl) (fun _ _ _ h => h) (Or.inl ⟨by rfl, ?_⟩) ?_
          rotate_left
          · intro w'; go_simp; (try with_reducible rfl)
          (try simp only [Act.put, List.setIfInBounds_toArray, List.set_cons_zero, List.set_cons_succ])
          refine wpAny_take (i := 4) (v := ?_) rfl (by kernel_rfl) (by kernel_rfl) (by kernel_rfl) (fun _ _ _ h => h) (Or.inl ⟨by rfl, ?_⟩) ?_
          rotate_left
          · intro w'; go_simp; (try with_reducible rfl)
          (try simp only [Act.put, List.setIfInBounds_toArray, List.set_cons_zero, List.set_cons_succ])
          refine wpAny_take (i := 5) (v := ?_) rfl (by kernel_rfl) (by kernel_rfl) (by kernel_rfl) (fun _ _ _ h => h) (Or.inl ⟨by rfl, ?_⟩) ?_
          rotate_left
          · intro w'; go_simp; (try with_reducible rfl)
          (try simp only [Act.put, List.setIfInBounds_toArray, List.set_cons_zero, List.set_cons_succ])
          refine wpAny_take (i := 6) (v := ?_) rfl (by kernel_rfl) (by kernel_rfl) (by kernel_rfl) (fun _ _ _ h => h) (Or.inl ⟨by rfl, ?_⟩) ?_
          rotate_left
          · intro w'; go_simp; (try with_reducible rfl)
          (try simp only [Act.put, List.setIfInBounds_toArray, List.set_cons_zero, List.set_cons_succ])
          refine wpAny_take (i := 7) (v := ?_) rfl (by kernel_rfl) (by kernel_rfl) (by kernel_rfl) (fun _ _ _ h => h) (Or.inl ⟨by rfl, ?_⟩) ?_
          rotate_left
          · intro w'; go_simp; (try with_reducible rfl)
          (try simp only [Act.put, List.setIfInBounds_toArray, List.set_cons_zero, List.set_cons_succ])
          refine wpAny_take (i := 8) (v := ?_) rfl (by kernel_rfl) (by kernel_rfl) (by kernel_rfl) (fun _ _ _ h => h) (Or.inl ⟨by rfl, ?_⟩) ?_
          rotate_left
          · intro w'; go_simp; (try with_reducible rfl)
          (try simp only [Act.put, List.setIfInBounds_toArray, List.set_cons_zero, List.set_cons_succ])
          refine wpAny_take (i := 10) (v := ?_) rfl (by kernel_rfl) (by kernel_rfl) (by kernel_rfl) (fun _ _ _ h => h) (Or.inl ⟨by rfl, ?_⟩) ?_
          rotate_left
          · intro w'; go_simp; (try with_reducible rfl)
          (try simp only [Act.put, List.setIfInBounds_toArray, List.set_cons_zero, List.set_cons_succ])
          refine wpAny_take (i := 11) (v := ?_) rfl (by kernel_rfl) (by kernel_rfl) (by kernel_rfl) (fun _ _ _ h => h) (Or.inl ⟨by rfl, ?_⟩) ?_
          rotate_left
          · intro w'; go_simp; (try with_reducible rfl)
          (try simp only [Act.put, List.setIfInBounds_toArray, List.set_cons_zero, List.set_cons_succ])
          refine wpAny_take (i := 12) (v := ?_) rfl (by kernel_rfl) (by kernel_rfl) (by kernel_rfl) (fun _ _ _ h => h) (Or.inl ⟨by rfl, ?_⟩) ?_
          rotate_left
          · intro w'; go_simp; (try with_reducible rfl)
          (try simp only [Act.put, List.setIfInBounds_toArray, List.set_cons_zero, List.set_cons_succ])
          refine wpAny_ready (rs := [9, 13]) (by kernel_rfl) (by simp) ?_
          refine AllReady.cons rfl (fun K hK => ?_) (AllReady.cons rfl (fun K hK => ?_) AllReady.nil)
          case' refine_1 =>
            go_simp
            refine hK _ _ ?_
            clear hK K
            (try simp only [Act.put, List.setIfInBounds_toArray, List.set_cons_zero, List.set_cons_succ])
            refine wpAny_ready (rs := [13]) (by kernel_rfl) (by simp) ?_
            refine AllReady.cons rfl (fun K hK => ?_) AllReady.nil
            go_simp
            refine hK _ _ ?_
            clear hK K
            (try simp only [Act.put, List.setIfInBounds_toArray, List.set_cons_zero, List.set_cons_succ])
            refine wpAny_take (i := 14) (v := ?_) rfl (by kernel_rfl) (by kernel_rfl) (by kernel_rfl) (fun _ _ _ h => h) (Or.inl ⟨by rfl, ?_⟩) ?_
            rotate_left
            · intro w'; go_simp; (try with_reducible rfl)
            (try simp only [Act.put, List.setIfInBounds_toArray, List.set_cons_zero, List.set_cons_succ])
            refine wpAny_ready (rs := [15]) (by kernel_rfl) (by simp) ?_
            refine AllReady.cons rfl (fun K hK => ?_) AllReady.nil
            refine step_of_wp rfl (wp_store_elem kVer HX4.out.row (.tmp 75) (.tmp 70) rfl (k) rfl (el zs (k + 1)) rfl (by kernel_rfl) hk0 (HX4.out.row.inv_el hk1) (HX4.out.row.ne_el hk1) (fun ws1 hs1 gs1 => ?_))
            refine hK _ _ ?_
            clear hK K
            (try simp only [Act.put, List.setIfInBounds_toArray, List.set_cons_zero, List.set_cons_succ])
            refine wpAny_take (i := 16) (v := ?_) rfl (by kernel_rfl) (by kernel_rfl) (by kernel_rfl) (fun _ _ _ h => h) (Or.inl ⟨by rfl, ?_⟩) ?_
            rotate_left
            · intro w'; go_simp; (try with_reducible rfl)
            (try simp only [Act.put, List.setIfInBounds_toArray, List.set_cons_zero, List.set_cons_succ])
            refine wpAny_ready (rs := [17]) (by kernel_rfl) (by simp) ?_
            refine AllReady.cons rfl (fun K hK => ?_) AllReady.nil
            refine step_of_wp rfl (wp_store_elem kVer hs1 (.tmp 76) (.tmp 74) rfl (k + 1) rfl (el zs (k)) rfl (by kernel_rfl) (by rw [List.length_set]; exact hk1) (inv_gr (HX4.out.row.inv_el hk0) gs1 (HX4.out.row.ne_el hk0)) (HX4.out.row.ne_el hk0) (fun ws2 hs2 gs2 => ?_))
            refine hK _ _ ?_
            clear hK K
            (try simp only [Act.put, List.setIfInBounds_toArray, List.set_cons_zero, List.set_cons_succ])
            refine wpAny_done (by kernel_rfl) ?_ _
            have HS2 := Lib.hid (VR.mk (n := n) (ys := swp zs (k) (k + 1)) hs2 (by rw [swp_len]; exact HX4.out.len))
            have HG3 := HG.trans (((Gr.of_below _ HB.out).trans gs1).trans gs2)
            clear hs1 gs1 hs2 gs2
            go_wp2
            go_roundw
            case rel => exact ⟨k + 1, swp zs k (k + 1), by omega, by omega, by go_num, HS2, HMp.out.trans (maps_swp hk0 hk1) (rot_up (HM.out) hak), HG3⟩
            case measure => simp [intOf]; omega
          case' refine_2 =>
            go_simp
            refine hK _ _ ?_
            clear hK K
            (try simp only [Act.put, List.setIfInBounds_toArray, List.set_cons_zero, List.set_cons_succ])
            refine wpAny_ready (rs := [9]) (by kernel_rfl) (by simp) ?_
            refine AllReady.cons rfl (fun K hK => ?_) AllReady.nil
            go_simp
            refine hK _ _ ?_
            clear hK K
            (try simp only [Act.put, List.setIfInBounds_toArray, List.set_cons_zero, List.set_cons_succ])
            refine wpAny_take (i := 14) (v := ?_) rfl (by kernel_rfl) (by kernel_rfl) (by kernel_rfl) (fun _ _ _ h => h) (Or.inl ⟨by rfl, ?_⟩) ?_
            rotate_left
            · intro w'; go_simp; (try with_reducible rfl)
            (try simp only [Act.put, List.setIfInBounds_toArray, List.set_cons_zero, List.set_cons_succ])
            refine wpAny_ready (rs := [15]) (by kernel_rfl) (by simp) ?_
            refine AllReady.cons rfl (fun K hK => ?_) AllReady.nil
            refine step_of_wp rfl (wp_store_elem kVer HX4.out.row (.tmp 75) (.tmp 70) rfl (k) rfl (el zs (k + 1)) rfl (by kernel_rfl) hk0 (HX4.out.row.inv_el hk1) (HX4.out.row.ne_el hk1) (fun ws1 hs1 gs1 => ?_))
            refine hK _ _ ?_
            clear hK K
            (try simp only [Act.put, List.setIfInBounds_toArray, List.set_cons_zero, List.set_cons_succ])
            refine wpAny_take (i := 16) (v := ?_) rfl (by kernel_rfl) (by kernel_rfl) (by kernel_rfl) (fun _ _ _ h => h) (Or.inl ⟨by rfl, ?_⟩) ?_
            rotate_left
            · intro w'; go_simp; (try with_reducible rfl)
            (try simp only [Act.put, List.setIfInBounds_toArray, List.set_cons_zero, List.set_cons_succ])
            refine wpAny_ready (rs := [17]) (by kernel_rfl) (by simp) ?_
            refine AllReady.cons rfl (fun K hK => ?_) AllReady.nil
            refine step_of_wp rfl (wp_store_elem kVer hs1 (.tmp 76) (.tmp 74) rfl (k + 1) rfl (el zs (k)) rfl (by kernel_rfl) (by rw [List.length_set]; exact hk1) (inv_gr (HX4.out.row.inv_el hk0) gs1 (HX4.out.row.ne_el hk0)) (HX4.out.row.ne_el hk0) (fun ws2 hs2 gs2 => ?_))
            refine hK _ _ ?_
            clear hK K
            (try simp only [Act.put, List.setIfInBounds_toArray, List.set_cons_zero, List.set_cons_succ])
            refine wpAny_done (by kernel_rfl) ?_ _
            have HS2 := Lib.hid (VR.mk (n := n) (ys := swp zs (k) (k + 1)) hs2 (by rw [swp_len]; exact HX4.out.len))
            have HG3 := HG.trans (((Gr.of_below _ HB.out).trans gs1).trans gs2)
            clear hs1 gs1 hs2 gs2
            go_wp2
            go_roundw
            case rel => exact ⟨k + 1, swp zs k (k + 1), by omega, by omega, by go_num, HS2, HMp.out.trans (maps_swp hk0 hk1) (rot_up (HM.out) hak), HG3⟩
            case measure => simp [intOf]; omega
        · have hkj' : ¬ (k : Int) < (j : Int) - 1 := by omega
          go_wp2
          go_end0
          have hm := HM.out
          refine ⟨rfl, zs, HX.out, one_up (i := j) (by rw [← hm]; exact HS.out) (by rw [H.out.len]; exact hbn) (by omega) p3 (fun q q1 q2 => HP.out.left q (by omega) q2) HP.out.right ?_, HG⟩
          rw [show k + 1 = j by omega, hm] at HMp
          exact HMp.out
end Go.Proofs.Ytndlhmnablefpaa

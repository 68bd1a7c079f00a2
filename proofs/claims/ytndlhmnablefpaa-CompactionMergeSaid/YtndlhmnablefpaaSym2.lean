/- What slices' swapRange does to versions. -/
import Derived.Test.YtndlhmnablefpaaSym1
import Derived.Test.YtndlhmnablefpaaSort4
namespace Go.Proofs.Ytndlhmnablefpaa
open Go.RowKit
set_option linter.unusedSimpArgs false
set_option linter.unusedVariables false
/-- What is left of a call that moves versions about by f. -/
def MapPost (f : Nat → Nat) (w : World) (base g c n : Nat) (xs : List Ver) (e : Ending) (w' : World) : Prop := e = .returned (.tuple #[]) ∧ ∃ zs, VR w' base g c n zs ∧ Maps f xs zs ∧ Gr w w' (some g) (some g)
/-- 'a + i' as an index. -/
theorem idx_add {a i n : Nat} (h : a + i < n) (hn : n ≤ 1000000) : IntKind.i64.wrap ((a : Int) + (i : Int)) = (a : Int) + (i : Int) ∧ 0 ≤ (a : Int) + (i : Int) ∧ (a : Int) + (i : Int) < (n : Int) ∧ ((a : Int) + (i : Int)).toNat = a + i :=
  ⟨IntWalk.i64_in _ (by omega), by omega, by omega, by omega⟩
set_option maxRecDepth 100000 in
set_option maxHeartbeats 2000000 in
theorem swapRange_any (a b m n : Nat) (xs : List Ver) (base g c : Nat) (w : World) (h : VR w base g c n xs) (hb : base ≤ w.heap.size) (hn : n ≤ 1000000) (hab : a + m ≤ b) (hbn : b + m ≤ n) (v : Value) :
    Calls Try.prog 120 #[.slice (some ⟨g, 0, none⟩) n c, .int .i64 (a : Int), .int .i64 (b : Int), .int .i64 (m : Int), v] w (MapPost (swI a b m) w base g c n xs) := by
  have H := Lib.hid h
  clear h
  go_enter Try.func120, Try.ntmps120
  go_wp2_with fail
  go_loopw [10] (fun q wr => ∃ (i : Nat) (zs : List Ver), i ≤ m ∧ q = .int .i64 i ∧ Hid (VR wr base g c n zs) ∧ Hid (Maps (swI a b i) xs zs) ∧ Gr w wr (some g) (some g)) (fun q _ => m - (intOf q).toNat)
  case atStart => exact ⟨0, xs, by omega, rfl, H, Maps.refl _ (fun k => by unfold swI; (repeat' split) <;> omega), Gr.refl _ _⟩
  case round =>
    obtain ⟨i, zs, hi, rfl, HX, HM, HG⟩ := hrel
    by_cases hlt : i < m
    · have hia : a + i < zs.length := by have := HX.out.len; omega
      have hib : b + i < zs.length := by have := HX.out.len; omega
      obtain ⟨c0, c1, c2, c3, c4, c5, c6, c7, c8⟩ := vrow_at (HX.out.below (BW.refl wr).drew.out).row (a + i) hia
      obtain ⟨d0, d1, d2, d3, d4, d5, d6, d7, d8⟩ := vrow_at (HX.out.below (BW.refl wr).drew.out).row (b + i) hib
      obtain ⟨p1, p2, p3, p4⟩ := idx_add (a := a) (i := i) (n := n) (by omega) hn
      obtain ⟨q1, q2, q3, q4⟩ := idx_add (a := b) (i := i) (n := n) (by omega) hn
      go_wp2_with fail
      have HB := (BW.refl wr).drew
      have HX4 := Lib.hid (HX.out.below HB.out)
      refine wp_region_any (by kernel_rfl) ?_
      change wpAny _ _ _ _ _ _ _ (World.drew _)
      refine wpAny_take (i := 0) (v := ?_) rfl (by kernel_rfl) (by kernel_rfl) (by kernel_rfl) (fun _ _ _ h => h) (Or.inl ⟨by rfl, ?_⟩) ?_
      rotate_left
      · intro w'; go_simp; (try with_reducible rfl)
      (try simp only [Act.put, List.setIfInBounds_toArray, List.set_cons_zero, List.set_cons_succ])
      refine wpAny_take (i := 1) (v := ?_) rfl (by kernel_rfl) (by kernel_rfl) (by kernel_rfl) (fun _ _ _ h => h) (Or.inl ⟨by rfl, ?_⟩) ?_
      rotate_left
      · intro w'; go_simp; (try with_reducible rfl)
      (try simp only [Act.put, List.setIfInBounds_toArray, List.set_cons_zero, List.set_cons_succ])
      refine wpAny_take (i := 2) (v := ?_) rfl (by kernel_rfl) (by kernel_rfl) (by kernel_rfl) (fun _ _ _ h => h) (Or.inl ⟨by rfl, ?_⟩) ?_
      rotate_left
      · intro w'; go_simp; (try with_reducible rfl)
      (try simp only [Act.put, List.setIfInBounds_toArray, List.set_cons_zero, List.set_cons_succ])
      refine wpAny_take (i := 3) (v := ?_) rfl (by kernel_rfl) (by kernel_rfl) (by kernel_rfl) (fun _ _ _ h => h) (Or.inl ⟨by rfl, ?_⟩) ?_
      rotate_left
      · intro w'; go_simp; (try with_reducible rfl)
      (try simp only [Act.put, List.setIfInBounds_toArray, List.set_cons_zero, List.set_cons_succ])
      refine wpAny_take (i := 4) (v := ?_) rfl (by kernel_rfl) (by kernel_rfl) (by kernel_rfl) (fun _ _ _ h => h) (Or.inl ⟨by rfl, ?_⟩) ?_
      rotate_left
      · intro w'; go_simp; (try with_reducible rfl)
      (try simp only [Act.put, List.setIfInBounds_toArray, List.set_cons_zero, List.set_cons_succ])
      refine wpAny_take (i := 5) (v := ?_) rfl (by kernel_rfl) (by kernel_rfl) (by kernel_rfl) (fun _ _ _ h => h) (Or.inl ⟨by rfl, ?_⟩) ?_
      rotate_left
      · intro w'; go_simp; (try with_reducible rfl)
      (try simp only [Act.put, List.setIfInBounds_toArray, List.set_cons_zero, List.set_cons_succ])
      refine wpAny_take (i := 6) (v := ?_) rfl (by kernel_rfl) (by kernel_rfl) (by kernel_rfl) (fun _ _ _ h => h) (Or.inl ⟨by rfl, ?_⟩) ?_
      rotate_left
      · intro w'; go_simp; (try with_reducible rfl)
      (try simp only [Act.put, List.setIfInBounds_toArray, List.set_cons_zero, List.set_cons_succ])
      refine wpAny_take (i := 7) (v := ?_) rfl (by kernel_rfl) (by kernel_rfl) (by kernel_rfl) (fun _ _ _ h => h) (Or.inl ⟨by rfl, ?_⟩) ?_
      rotate_left
      · intro w'; go_simp; (try with_reducible rfl)
      (try simp only [Act.put, List.setIfInBounds_toArray, List.set_cons_zero, List.set_cons_succ])
      refine wpAny_take (i := 8) (v := ?_) rfl (by kernel_rfl) (by kernel_rfl) (by kernel_rfl) (fun _ _ _ h => h) (Or.inl ⟨by rfl, ?_⟩) ?_
      rotate_left
      · intro w'; go_simp; (try with_reducible rfl)
      (try simp only [Act.put, List.setIfInBounds_toArray, List.set_cons_zero, List.set_cons_succ])
      refine wpAny_take (i := 9) (v := ?_) rfl (by kernel_rfl) (by kernel_rfl) (by kernel_rfl) (fun _ _ _ h => h) (Or.inl ⟨by rfl, ?_⟩) ?_
      rotate_left
      · intro w'; go_simp; (try with_reducible rfl)
      (try simp only [Act.put, List.setIfInBounds_toArray, List.set_cons_zero, List.set_cons_succ])
      refine wpAny_take (i := 10) (v := ?_) rfl (by kernel_rfl) (by kernel_rfl) (by kernel_rfl) (fun _ _ _ h => h) (Or.inl ⟨by rfl, ?_⟩) ?_
      rotate_left
      · intro w'; go_simp; (try with_reducible rfl)
      (try simp only [Act.put, List.setIfInBounds_toArray, List.set_cons_zero, List.set_cons_succ])
      refine wpAny_take (i := 11) (v := ?_) rfl (by kernel_rfl) (by kernel_rfl) (by kernel_rfl) (fun _ _ _ h => h) (Or.inl ⟨by rfl, ?_⟩) ?_
      rotate_left
      · intro w'; go_simp; (try with_reducible rfl)
      (try simp only [Act.put, List.setIfInBounds_toArray, List.set_cons_zero, List.set_cons_succ])
      refine wpAny_take (i := 12) (v := ?_) rfl (by kernel_rfl) (by kernel_rfl) (by kernel_rfl) (fun _ _ _ h => h) (Or.inl ⟨by rfl, ?_⟩) ?_
      rotate_left
      · intro w'; go_simp; (try with_reducible rfl)
      (try simp only [Act.put, List.setIfInBounds_toArray, List.set_cons_zero, List.set_cons_succ])
      refine wpAny_take (i := 14) (v := ?_) rfl (by kernel_rfl) (by kernel_rfl) (by kernel_rfl) (fun _ _ _ h => h) (Or.inl ⟨by rfl, ?_⟩) ?_
      rotate_left
      · intro w'; go_simp; (try with_reducible rfl)
      (try simp only [Act.put, List.setIfInBounds_toArray, List.set_cons_zero, List.set_cons_succ])
      refine wpAny_take (i := 15) (v := ?_) rfl (by kernel_rfl) (by kernel_rfl) (by kernel_rfl) (fun _ _ _ h => h) (Or.inl ⟨by rfl, ?_⟩) ?_
      rotate_left
      · intro w'; go_simp; (try with_reducible rfl)
      (try simp only [Act.put, List.setIfInBounds_toArray, List.set_cons_zero, List.set_cons_succ])
      refine wpAny_take (i := 16) (v := ?_) rfl (by kernel_rfl) (by kernel_rfl) (by kernel_rfl) (fun _ _ _ h => h) (Or.inl ⟨by rfl, ?_⟩) ?_
      rotate_left
      · intro w'; go_simp; (try with_reducible rfl)
      (try simp only [Act.put, List.setIfInBounds_toArray, List.set_cons_zero, List.set_cons_succ])
      refine wpAny_take (i := 17) (v := ?_) rfl (by kernel_rfl) (by kernel_rfl) (by kernel_rfl) (fun _ _ _ h => h) (Or.inl ⟨by rfl, ?_⟩) ?_
      rotate_left
      · intro w'; go_simp; (try with_reducible rfl)
      (try simp only [Act.put, List.setIfInBounds_toArray, List.set_cons_zero, List.set_cons_succ])
      refine wpAny_take (i := 18) (v := ?_) rfl (by kernel_rfl) (by kernel_rfl) (by kernel_rfl) (fun _ _ _ h => h) (Or.inl ⟨by rfl, ?_⟩) ?_
      rotate_left
      · intro w'; go_simp; (try with_reducible rfl)
      (try simp only [Act.put, List.setIfInBounds_toArray, List.set_cons_zero, List.set_cons_succ])
      refine wpAny_ready (rs := [13, 19]) (by kernel_rfl) (by simp) ?_
      refine AllReady.cons rfl (fun K hK => ?_) (AllReady.cons rfl (fun K hK => ?_) AllReady.nil)
      case' refine_1 =>
        go_simp
        refine hK _ _ ?_
        clear hK K
        (try simp only [Act.put, List.setIfInBounds_toArray, List.set_cons_zero, List.set_cons_succ])
        refine wpAny_ready (rs := [19]) (by kernel_rfl) (by simp) ?_
        refine AllReady.cons rfl (fun K hK => ?_) AllReady.nil
        go_simp
        refine hK _ _ ?_
        clear hK K
        (try simp only [Act.put, List.setIfInBounds_toArray, List.set_cons_zero, List.set_cons_succ])
        refine wpAny_take (i := 20) (v := ?_) rfl (by kernel_rfl) (by kernel_rfl) (by kernel_rfl) (fun _ _ _ h => h) (Or.inl ⟨by rfl, ?_⟩) ?_
        rotate_left
        · intro w'; go_simp; (try with_reducible rfl)
        (try simp only [Act.put, List.setIfInBounds_toArray, List.set_cons_zero, List.set_cons_succ])
        refine wpAny_ready (rs := [21]) (by kernel_rfl) (by simp) ?_
        refine AllReady.cons rfl (fun K hK => ?_) AllReady.nil
        refine step_of_wp rfl (wp_store_elem kVer HX4.out.row (.tmp 36) (.tmp 29) rfl (a + i) rfl (el zs (b + i)) rfl (by kernel_rfl) hia (HX4.out.row.inv_el hib) (HX4.out.row.ne_el hib) (fun ws1 hs1 gs1 => ?_))
        refine hK _ _ ?_
        clear hK K
        (try simp only [Act.put, List.setIfInBounds_toArray, List.set_cons_zero, List.set_cons_succ])
        refine wpAny_take (i := 22) (v := ?_) rfl (by kernel_rfl) (by kernel_rfl) (by kernel_rfl) (fun _ _ _ h => h) (Or.inl ⟨by rfl, ?_⟩) ?_
        rotate_left
        · intro w'; go_simp; (try with_reducible rfl)
        (try simp only [Act.put, List.setIfInBounds_toArray, List.set_cons_zero, List.set_cons_succ])
        refine wpAny_ready (rs := [23]) (by kernel_rfl) (by simp) ?_
        refine AllReady.cons rfl (fun K hK => ?_) AllReady.nil
        refine step_of_wp rfl (wp_store_elem kVer hs1 (.tmp 37) (.tmp 35) rfl (b + i) rfl (el zs (a + i)) rfl (by kernel_rfl) (by rw [List.length_set]; exact hib) (inv_gr (HX4.out.row.inv_el hia) gs1 (HX4.out.row.ne_el hia)) (HX4.out.row.ne_el hia) (fun ws2 hs2 gs2 => ?_))
        refine hK _ _ ?_
        clear hK K
        (try simp only [Act.put, List.setIfInBounds_toArray, List.set_cons_zero, List.set_cons_succ])
        refine wpAny_done (by kernel_rfl) ?_ _
        have HS := Lib.hid (VR.mk (n := n) (ys := swp zs (a + i) (b + i)) hs2 (by rw [swp_len]; exact HX4.out.len))
        have HG3 := HG.trans (((Gr.of_below _ HB.out).trans gs1).trans gs2)
        clear hs1 gs1 hs2 gs2
        go_wp2
        go_roundw
        case rel => exact ⟨i + 1, swp zs (a + i) (b + i), by omega, by go_num, HS, HM.out.trans (maps_swp (by have := HX.out.len; omega) (by have := HX.out.len; omega)) (fun k => swI_step hab hlt k), HG3⟩
        case measure => simp [intOf]; omega
      case' refine_2 =>
        go_simp
        refine hK _ _ ?_
        clear hK K
        (try simp only [Act.put, List.setIfInBounds_toArray, List.set_cons_zero, List.set_cons_succ])
        refine wpAny_ready (rs := [13]) (by kernel_rfl) (by simp) ?_
        refine AllReady.cons rfl (fun K hK => ?_) AllReady.nil
        go_simp
        refine hK _ _ ?_
        clear hK K
        (try simp only [Act.put, List.setIfInBounds_toArray, List.set_cons_zero, List.set_cons_succ])
        refine wpAny_take (i := 20) (v := ?_) rfl (by kernel_rfl) (by kernel_rfl) (by kernel_rfl) (fun _ _ _ h => h) (Or.inl ⟨by rfl, ?_⟩) ?_
        rotate_left
        · intro w'; go_simp; (try with_reducible rfl)
        (try simp only [Act.put, List.setIfInBounds_toArray, List.set_cons_zero, List.set_cons_succ])
        refine wpAny_ready (rs := [21]) (by kernel_rfl) (by simp) ?_
        refine AllReady.cons rfl (fun K hK => ?_) AllReady.nil
        refine step_of_wp rfl (wp_store_elem kVer HX4.out.row (.tmp 36) (.tmp 29) rfl (a + i) rfl (el zs (b + i)) rfl (by kernel_rfl) hia (HX4.out.row.inv_el hib) (HX4.out.row.ne_el hib) (fun ws1 hs1 gs1 => ?_))
        refine hK _ _ ?_
        clear hK K
        (try simp only [Act.put, List.setIfInBounds_toArray, List.set_cons_zero, List.set_cons_succ])
        refine wpAny_take (i := 22) (v := ?_) rfl (by kernel_rfl) (by kernel_rfl) (by kernel_rfl) (fun _ _ _ h => h) (Or.inl ⟨by rfl, ?_⟩) ?_
        rotate_left
        · intro w'; go_simp; (try with_reducible rfl)
        (try simp only [Act.put, List.setIfInBounds_toArray, List.set_cons_zero, List.set_cons_succ])
        refine wpAny_ready (rs := [23]) (by kernel_rfl) (by simp) ?_
        refine AllReady.cons rfl (fun K hK => ?_) AllReady.nil
        refine step_of_wp rfl (wp_store_elem kVer hs1 (.tmp 37) (.tmp 35) rfl (b + i) rfl (el zs (a + i)) rfl (by kernel_rfl) (by rw [List.length_set]; exact hib) (inv_gr (HX4.out.row.inv_el hia) gs1 (HX4.out.row.ne_el hia)) (HX4.out.row.ne_el hia) (fun ws2 hs2 gs2 => ?_))
        refine hK _ _ ?_
        clear hK K
        (try simp only [Act.put, List.setIfInBounds_toArray, List.set_cons_zero, List.set_cons_succ])
        refine wpAny_done (by kernel_rfl) ?_ _
        have HS := Lib.hid (VR.mk (n := n) (ys := swp zs (a + i) (b + i)) hs2 (by rw [swp_len]; exact HX4.out.len))
        have HG3 := HG.trans (((Gr.of_below _ HB.out).trans gs1).trans gs2)
        clear hs1 gs1 hs2 gs2
        go_wp2
        go_roundw
        case rel => exact ⟨i + 1, swp zs (a + i) (b + i), by omega, by go_num, HS, HM.out.trans (maps_swp (by have := HX.out.len; omega) (by have := HX.out.len; omega)) (fun k => swI_step hab hlt k), HG3⟩
        case measure => simp [intOf]; omega
    · go_wp2
      go_end0
      exact ⟨rfl, zs, HX.out, by rw [show i = m by omega] at HM; exact HM.out, HG⟩
end Go.Proofs.Ytndlhmnablefpaa

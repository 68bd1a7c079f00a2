/- What slices' insertion sort does to versions. -/
import Derived.Test.YtndlhmnablefpaaClone
import Derived.Test.YtndlhmnablefpaaElem
import Derived.RegionTactic
namespace Go.Proofs.Ytndlhmnablefpaa
set_option linter.unusedSimpArgs false
set_option linter.unusedVariables false
open Go.RowKit
instance : Inhabited Ver := ⟨⟨⟨0, 0, [], 0, 0, 0, 0, 0, 0⟩, none, 0⟩⟩
def el (xs : List Ver) (i : Nat) : Ver := xs.getD i default
theorem el_at {xs : List Ver} {i : Nat} (h : i < xs.length) : xs[i] = el xs i := by simp [el, List.getD, List.getElem?_eq_getElem h]
/-- x[i], x[j] = x[j], x[i] -/
def swp (xs : List Ver) (i j : Nat) : List Ver := (xs.set i (el xs j)).set j (el xs i)
def lessV (x y : Ver) : Bool := decide (ord x.p y.p < 0)
abbrev VRow (w : World) (base g c : Nat) (xs : List Ver) : Prop := Row kVer 59 w base g c xs
/-- Element i's cells and row. -/
theorem vrow_at {w : World} {base g c : Nat} {xs : List Ver} (h : VRow w base g c xs) (i : Nat) (hi : i < xs.length) : w.cell? ⟨g, i * 9, none⟩ = some (.int .i64 (el xs i).p.id) ∧ w.cell? ⟨g, i * 9 + 1, none⟩ = some (.int .i64 (el xs i).p.sch) ∧ w.cell? ⟨g, i * 9 + 2, none⟩ = some (.slice (el xs i).A (el xs i).p.row.length (el xs i).c) ∧ w.cell? ⟨g, i * 9 + 3, none⟩ = some (.int .i64 (el xs i).p.vf) ∧ w.cell? ⟨g, i * 9 + 4, none⟩ = some (.int .i64 (el xs i).p.vt) ∧ w.cell? ⟨g, i * 9 + 5, none⟩ = some (.int .i64 (el xs i).p.sf) ∧ w.cell? ⟨g, i * 9 + 6, none⟩ = some (.int .i64 (el xs i).p.st) ∧ w.cell? ⟨g, i * 9 + 7, none⟩ = some (.int .i64 (el xs i).p.by') ∧ w.cell? ⟨g, i * 9 + 8, none⟩ = some (.int .i64 (el xs i).p.un) := by
  have hc := h.cell i hi
  rw [el_at hi] at hc
  exact ⟨hc 0 _ rfl, hc 1 _ rfl, hc 2 _ rfl, hc 3 _ rfl, hc 4 _ rfl, hc 5 _ rfl, hc 6 _ rfl, hc 7 _ rfl, hc 8 _ rfl⟩
def insDown (a : Nat) : Nat → List Ver → List Ver
  | 0, xs => xs
  | j + 1, xs => if a < j + 1 ∧ lessV (el xs (j + 1)) (el xs j) = true then insDown a j (swp xs (j + 1) j) else xs
def insUp (a : Nat) : Nat → Nat → List Ver → List Ver
  | 0, _, xs => xs
  | n + 1, i, xs => insUp a n (i + 1) (insDown a i xs)
theorem swp_len (xs : List Ver) (i j : Nat) : (swp xs i j).length = xs.length := by simp [swp]
theorem insDown_len (a : Nat) : ∀ j xs, (insDown a j xs).length = xs.length
  | 0, _ => rfl
  | j + 1, xs => by
    rw [insDown]
    split
    · rw [insDown_len a j, swp_len]
    · rfl
/-- A row of n versions. -/
structure VR (w : World) (base g c n : Nat) (ys : List Ver) : Prop where
  row : VRow w base g c ys
  len : ys.length = n
theorem _root_.Go.Proofs.Ytndlhmnablefpaa.Row.inv_el {w : World} {base g c : Nat} {xs : List Ver} (h : Row kVer 59 w base g c xs) {i : Nat} (hi : i < xs.length) : kVer.inv w (el xs i) := by
  rw [← el_at hi]; exact h.own.inv _ (List.getElem_mem hi)
theorem _root_.Go.Proofs.Ytndlhmnablefpaa.Row.ne_el {w : World} {base g c : Nat} {xs : List Ver} (h : Row kVer 59 w base g c xs) {i : Nat} (hi : i < xs.length) : ∀ k, k ∈ kVer.foot (el xs i) → k ≠ g := by
  rw [← el_at hi]; exact fun k hk he => h.own.apart _ (List.getElem_mem hi) k hk (by simp [Value.ownBlock, he])
theorem inv_gr {w w1 : World} {g : Nat} {x : Ver} (h : kVer.inv w x) (hg : Gr w w1 (some g) (some g)) (hne : ∀ k, k ∈ kVer.foot x → k ≠ g) : kVer.inv w1 x := kVer.grown h hg.by' fun k hk he => hne k hk (Option.some.inj he)
theorem VR.below {w w1 : World} {base g c n : Nat} {ys : List Ver} (h : VR w base g c n ys) (hb : Below w.heap.size w w1) : VR w1 base g c n ys := ⟨h.row.below hb, h.len⟩
theorem insDown_step {a j : Nat} {xs : List Ver} (h : a < j) (hl : lessV (el xs j) (el xs (j - 1)) = true) : insDown a j xs = insDown a (j - 1) (swp xs j (j - 1)) := by
  obtain ⟨m, rfl⟩ : ∃ m, j = m + 1 := ⟨j - 1, by omega⟩
  rw [insDown, if_pos ⟨h, hl⟩]; rfl
theorem insDown_stop {a j : Nat} {xs : List Ver} (h : a < j → lessV (el xs j) (el xs (j - 1)) = false) : insDown a j xs = xs := by
  cases j with
  | zero => rfl
  | succ m => rw [insDown, if_neg (fun hc => by have := h hc.1; rw [Nat.add_sub_cancel, hc.2] at this; exact absurd this (by simp))]
theorem insUp_next {a b i : Nat} {ys zs : List Ver} (h : i < b) (hz : insDown a i ys = zs) : insUp a (b - (i + 1)) (i + 1) zs = insUp a (b - i) i ys := by
  rw [show b - i = (b - (i + 1)) + 1 by omega, insUp, hz]
set_option maxRecDepth 100000 in
set_option maxHeartbeats 2000000 in
theorem insertion_any (a b n : Nat) (xs : List Ver) (base g c : Nat) (w : World) (h : VR w base g c n xs) (hb : base ≤ w.heap.size) (hn : n ≤ 1000000) (hbn : b ≤ n) (ha : a ≤ n) :
    Calls Try.prog 93 #[.slice (some ⟨g, 0, none⟩) n c, .int .i64 (a : Int), .int .i64 (b : Int), .func (.func 33) #[] #[]] w
      fun e w' => e = .returned (.tuple #[]) ∧ VR w' base g c n (insUp a (b - (a + 1)) (a + 1) xs) ∧ Gr w w' (some g) (some g) := by
  have H := Lib.hid h
  clear h
  go_enter Try.func93, Try.ntmps93
  go_wp2_with fail
  go_loopw [8, 9] (fun i _ wr => ∃ (i' : Nat) (ys : List Ver), a + 1 ≤ i' ∧ (i' ≤ b ∨ i' = a + 1) ∧ i = .int .i64 i' ∧ Hid (VR wr base g c n ys) ∧ Hid (insUp a (b - i') i' ys = insUp a (b - (a + 1)) (a + 1) xs) ∧ Gr w wr (some g) (some g)) (fun i _ _ => n - (intOf i).toNat)
  case atStart => exact ⟨a + 1, xs, by omega, .inr rfl, by go_num, H, rfl, Gr.refl _ _⟩
  case round =>
    clear H
    obtain ⟨i, ys, hi1, hi2, rfl, HX, HY, HG⟩ := hrel
    by_cases hlt : i < b
    · go_wp2_with fail
      obtain ⟨wo, rfl⟩ : ∃ wo : World, wo = wr := ⟨_, rfl⟩
      go_loopw [9] (fun q wq => ∃ (j : Nat) (zs : List Ver), a ≤ j ∧ j ≤ i ∧ q = .int .i64 j ∧ Hid (VR wq base g c n zs) ∧ Hid (insDown a j zs = insDown a i ys) ∧ Gr w wq (some g) (some g)) (fun q _ => (intOf q).toNat)
      case atStart => exact ⟨i, ys, by omega, by omega, rfl, HX, rfl, HG⟩
      case round =>
        clear HX HG
        obtain ⟨j, zs, hj1, hj2, rfl, HX1, HZ, HG⟩ := hrel
        have hjl : j < zs.length := by have := HX1.out.len; omega
        have hjl1 : j - 1 < zs.length := by omega
        by_cases hja : a < j
        · obtain ⟨c0, c1, c2, c3, c4, c5, c6, c7, c8⟩ := vrow_at HX1.out.row j hjl
          obtain ⟨d0, d1, d2, d3, d4, d5, d6, d7, d8⟩ := vrow_at HX1.out.row (j - 1) hjl1
          obtain ⟨q1, q2, q3, q4, q5⟩ := idx_pred (n := n) (show 0 < j by omega) (by omega) (by omega)
          have hjn : j < n := by omega
          have hjn2 : (j : Int) < (n : Int) := by omega
          have hja2 : (a : Int) < (j : Int) := by omega
          go_wp2_with fail
          go_still_tail 14, (by kernel_rfl)
          change wpList _ _ _ _ _ wr.drew
          clear c0 c1 c2 c3 c4 c5 c6 c7 c8 d0 d1 d2 d3 d4 d5 d6 d7 d8
          have HB := BW.refl wr
          by_cases hless : lessV (el zs j) (el zs (j - 1)) = true
          · have hcmp : ord (el zs j).p (el zs (j - 1)).p < 0 := of_decide_eq_true hless
            go_wp2_with (go_at_call 33; refine (order_any (el zs j) (el zs (j - 1)) _).mono ?_; rintro e w2 ⟨rfl, hb2⟩; replace HB := BW.next hb2)
            have HX3 := Lib.hid (HX1.out.below HB.out)
            obtain ⟨c0, c1, c2, c3, c4, c5, c6, c7, c8⟩ := vrow_at HX3.out.row j hjl
            obtain ⟨d0, d1, d2, d3, d4, d5, d6, d7, d8⟩ := vrow_at HX3.out.row (j - 1) hjl1
            refine wp_region_any (by kernel_rfl) ?_
            change wpAny _ _ _ _ _ _ _ (World.drew _)
            replace HB := HB.drew
            have HX4 := Lib.hid (HX1.out.below HB.out)
            refine wpAny_take (i := 0) (v := ?_) rfl (by kernel_rfl) (by kernel_rfl) (by kernel_rfl) (fun _ _ _ h => h) (Or.inl ⟨by rfl, ?_⟩) ?_
            rotate_left
            · intro w'; go_simp; (try with_reducible rfl)
            (try simp only [Act.put, List.setIfInBounds_toArray, List.set_cons_zero, List.set_cons_succ])
            refine wpAny_take (i := 1) (v := ?_) rfl (by kernel_rfl) (by kernel_rfl) (by kernel_rfl) (fun _ _ _ h => h) (Or.inl ⟨by rfl, ?_⟩) ?_
            rotate_left
            · intro w'; go_simp; (try with_reducible rfl)
            (try simp only [Act.put, List.setIfInBounds_toArray, List.set_cons_zero, List.set_cons_succ])
            refine wpAny_take (i := 2) (v := ?_) rfl (by kernel_rfl) (by kernel_rfl) (by kernel_rfl) (fun _ _ _ h => h) (Or.inl ⟨by rfl, ?_⟩) ?_
            rotate_left
            · intro w'; go_simp; (try with_reducible rfl)
            (try simp only [Act.put, List.setIfInBounds_toArray, List.set_cons_zero, List.set_cons_succ])
            refine wpAny_take (i := 3) (v := ?_) rfl (by kernel_rfl) (by kernel_rfl) (by kernel_rfl) (fun _ _ _ h => h) (Or.inl ⟨by rfl, ?_⟩) ?_
            rotate_left
            · intro w'; go_simp; (try with_reducible rfl)
            (try simp only [Act.put, List.setIfInBounds_toArray, List.set_cons_zero, List.set_cons_succ])
            refine wpAny_take (i := 4) (v := ?_) rfl (by kernel_rfl) (by kernel_rfl) (by kernel_rfl) (fun _ _ _ h => h) (Or.inl ⟨by rfl, ?_⟩) ?_
            rotate_left
            · intro w'; go_simp; (try with_reducible rfl)
            (try simp only [Act.put, List.setIfInBounds_toArray, List.set_cons_zero, List.set_cons_succ])
            refine wpAny_take (i := 5) (v := ?_) rfl (by kernel_rfl) (by kernel_rfl) (by kernel_rfl) (fun _ _ _ h => h) (Or.inl ⟨by rfl, ?_⟩) ?_
            rotate_left
            · intro w'; go_simp; (try with_reducible rfl)
            (try simp only [Act.put, List.setIfInBounds_toArray, List.set_cons_zero, List.set_cons_succ])
            refine wpAny_take (i := 6) (v := ?_) rfl (by kernel_rfl) (by kernel_rfl) (by kernel_rfl) (fun _ _ _ h => h) (Or.inl ⟨by rfl, ?_⟩) ?_
            rotate_left
            · intro w'; go_simp; (try with_reducible rfl)
            (try simp only [Act.put, List.setIfInBounds_toArray, List.set_cons_zero, List.set_cons_succ])
            refine wpAny_take (i := 7) (v := ?_) rfl (by kernel_rfl) (by kernel_rfl) (by kernel_rfl) (fun _ _ _ h => h) (Or.inl ⟨by rfl, ?_⟩) ?_
            rotate_left
            · intro w'; go_simp; (try with_reducible rfl)
            (try simp only [Act.put, List.setIfInBounds_toArray, List.set_cons_zero, List.set_cons_succ])
            refine wpAny_take (i := 8) (v := ?_) rfl (by kernel_rfl) (by kernel_rfl) (by kernel_rfl) (fun _ _ _ h => h) (Or.inl ⟨by rfl, ?_⟩) ?_
            rotate_left
            · intro w'; go_simp; (try with_reducible rfl)
            (try simp only [Act.put, List.setIfInBounds_toArray, List.set_cons_zero, List.set_cons_succ])
            refine wpAny_take (i := 10) (v := ?_) rfl (by kernel_rfl) (by kernel_rfl) (by kernel_rfl) (fun _ _ _ h => h) (Or.inl ⟨by rfl, ?_⟩) ?_
            rotate_left
            · intro w'; go_simp; (try with_reducible rfl)
            (try simp only [Act.put, List.setIfInBounds_toArray, List.set_cons_zero, List.set_cons_succ])
            refine wpAny_take (i := 11) (v := ?_) rfl (by kernel_rfl) (by kernel_rfl) (by kernel_rfl) (fun _ _ _ h => h) (Or.inl ⟨by rfl, ?_⟩) ?_
            rotate_left
            · intro w'; go_simp; (try with_reducible rfl)
            (try simp only [Act.put, List.setIfInBounds_toArray, List.set_cons_zero, List.set_cons_succ])
            refine wpAny_take (i := 12) (v := ?_) rfl (by kernel_rfl) (by kernel_rfl) (by kernel_rfl) (fun _ _ _ h => h) (Or.inl ⟨by rfl, ?_⟩) ?_
            rotate_left
            · intro w'; go_simp; (try with_reducible rfl)
            (try simp only [Act.put, List.setIfInBounds_toArray, List.set_cons_zero, List.set_cons_succ])
            refine wpAny_ready (rs := [9, 13]) (by kernel_rfl) (by simp) ?_
            refine AllReady.cons rfl (fun K hK => ?_) (AllReady.cons rfl (fun K hK => ?_) AllReady.nil)
            case' refine_1 =>
              go_simp
              refine hK _ _ ?_
              clear hK K
              (try simp only [Act.put, List.setIfInBounds_toArray, List.set_cons_zero, List.set_cons_succ])
              refine wpAny_ready (rs := [13]) (by kernel_rfl) (by simp) ?_
              refine AllReady.cons rfl (fun K hK => ?_) AllReady.nil
              go_simp
              refine hK _ _ ?_
              clear hK K
              (try simp only [Act.put, List.setIfInBounds_toArray, List.set_cons_zero, List.set_cons_succ])
              refine wpAny_take (i := 14) (v := ?_) rfl (by kernel_rfl) (by kernel_rfl) (by kernel_rfl) (fun _ _ _ h => h) (Or.inl ⟨by rfl, ?_⟩) ?_
              rotate_left
              · intro w'; go_simp; (try with_reducible rfl)
              (try simp only [Act.put, List.setIfInBounds_toArray, List.set_cons_zero, List.set_cons_succ])
              refine wpAny_ready (rs := [15]) (by kernel_rfl) (by simp) ?_
              refine AllReady.cons rfl (fun K hK => ?_) AllReady.nil
              refine step_of_wp rfl (wp_store_elem kVer HX4.out.row (.tmp 51) (.tmp 46) rfl j rfl (el zs (j - 1)) rfl (by kernel_rfl) hjl (HX4.out.row.inv_el hjl1) (HX4.out.row.ne_el hjl1) (fun ws1 hs1 gs1 => ?_))
              refine hK _ _ ?_
              clear hK K
              (try simp only [Act.put, List.setIfInBounds_toArray, List.set_cons_zero, List.set_cons_succ])
              refine wpAny_take (i := 16) (v := ?_) rfl (by kernel_rfl) (by kernel_rfl) (by kernel_rfl) (fun _ _ _ h => h) (Or.inl ⟨by rfl, ?_⟩) ?_
              rotate_left
              · intro w'; go_simp; (try with_reducible rfl)
              (try simp only [Act.put, List.setIfInBounds_toArray, List.set_cons_zero, List.set_cons_succ])
              refine wpAny_ready (rs := [17]) (by kernel_rfl) (by simp) ?_
              refine AllReady.cons rfl (fun K hK => ?_) AllReady.nil
              refine step_of_wp rfl (wp_store_elem kVer hs1 (.tmp 52) (.tmp 50) rfl (j - 1) rfl (el zs j) rfl (by kernel_rfl) (by rw [List.length_set]; exact hjl1) (inv_gr (HX4.out.row.inv_el hjl) gs1 (HX4.out.row.ne_el hjl)) (HX4.out.row.ne_el hjl) (fun ws2 hs2 gs2 => ?_))
              refine hK _ _ ?_
              clear hK K
              (try simp only [Act.put, List.setIfInBounds_toArray, List.set_cons_zero, List.set_cons_succ])
              refine wpAny_done (by kernel_rfl) ?_ _
              have HS := Lib.hid (VR.mk (n := n) (ys := swp zs j (j - 1)) hs2 (by rw [swp_len]; exact HX4.out.len))
              have HG3 := HG.trans (((Gr.of_below _ HB.out).trans gs1).trans gs2)
              clear hs1 gs1 hs2 gs2
              go_wp2
              go_roundw
              case rel => exact ⟨j - 1, swp zs j (j - 1), by omega, by omega, by go_num, HS, (insDown_step hja hless).symm.trans HZ.out, HG3⟩
              case measure => simp [intOf]; omega
            case' refine_2 =>
              go_simp
              refine hK _ _ ?_
              clear hK K
              (try simp only [Act.put, List.setIfInBounds_toArray, List.set_cons_zero, List.set_cons_succ])
              refine wpAny_ready (rs := [9]) (by kernel_rfl) (by simp) ?_
              refine AllReady.cons rfl (fun K hK => ?_) AllReady.nil
              go_simp
              refine hK _ _ ?_
              clear hK K
              (try simp only [Act.put, List.setIfInBounds_toArray, List.set_cons_zero, List.set_cons_succ])
              refine wpAny_take (i := 14) (v := ?_) rfl (by kernel_rfl) (by kernel_rfl) (by kernel_rfl) (fun _ _ _ h => h) (Or.inl ⟨by rfl, ?_⟩) ?_
              rotate_left
              · intro w'; go_simp; (try with_reducible rfl)
              (try simp only [Act.put, List.setIfInBounds_toArray, List.set_cons_zero, List.set_cons_succ])
              refine wpAny_ready (rs := [15]) (by kernel_rfl) (by simp) ?_
              refine AllReady.cons rfl (fun K hK => ?_) AllReady.nil
              refine step_of_wp rfl (wp_store_elem kVer HX4.out.row (.tmp 51) (.tmp 46) rfl j rfl (el zs (j - 1)) rfl (by kernel_rfl) hjl (HX4.out.row.inv_el hjl1) (HX4.out.row.ne_el hjl1) (fun ws1 hs1 gs1 => ?_))
              refine hK _ _ ?_
              clear hK K
              (try simp only [Act.put, List.setIfInBounds_toArray, List.set_cons_zero, List.set_cons_succ])
              refine wpAny_take (i := 16) (v := ?_) rfl (by kernel_rfl) (by kernel_rfl) (by kernel_rfl) (fun _ _ _ h => h) (Or.inl ⟨by rfl, ?_⟩) ?_
              rotate_left
              · intro w'; go_simp; (try with_reducible rfl)
              (try simp only [Act.put, List.setIfInBounds_toArray, List.set_cons_zero, List.set_cons_succ])
              refine wpAny_ready (rs := [17]) (by kernel_rfl) (by simp) ?_
              refine AllReady.cons rfl (fun K hK => ?_) AllReady.nil
              refine step_of_wp rfl (wp_store_elem kVer hs1 (.tmp 52) (.tmp 50) rfl (j - 1) rfl (el zs j) rfl (by kernel_rfl) (by rw [List.length_set]; exact hjl1) (inv_gr (HX4.out.row.inv_el hjl) gs1 (HX4.out.row.ne_el hjl)) (HX4.out.row.ne_el hjl) (fun ws2 hs2 gs2 => ?_))
              refine hK _ _ ?_
              clear hK K
              (try simp only [Act.put, List.setIfInBounds_toArray, List.set_cons_zero, List.set_cons_succ])
              refine wpAny_done (by kernel_rfl) ?_ _
              have HS := Lib.hid (VR.mk (n := n) (ys := swp zs j (j - 1)) hs2 (by rw [swp_len]; exact HX4.out.len))
              have HG3 := HG.trans (((Gr.of_below _ HB.out).trans gs1).trans gs2)
              clear hs1 gs1 hs2 gs2
              go_wp2
              go_roundw
              case rel => exact ⟨j - 1, swp zs j (j - 1), by omega, by omega, by go_num, HS, (insDown_step hja hless).symm.trans HZ.out, HG3⟩
              case measure => simp [intOf]; omega
          · have hcmp : ¬ ord (el zs j).p (el zs (j - 1)).p < 0 := of_decide_eq_false (Bool.eq_false_iff.2 hless)
            go_wp2_with (go_at_call 33; refine (order_any (el zs j) (el zs (j - 1)) _).mono ?_; rintro e w2 ⟨rfl, hb2⟩; replace HB := BW.next hb2)
            go_roundw
            case rel => exact ⟨i + 1, zs, by omega, by omega, by go_num, Lib.hid (HX1.out.below (HB).out), (insUp_next hlt (HZ.out.symm.trans (insDown_stop (fun _ => Bool.eq_false_iff.2 hless)))).trans HY.out, HG.trans (Gr.of_below _ (HB).out)⟩
            case measure => simp [intOf]; omega
        · have hd : decide (a < j) = false := by simpa using hja
          go_wp2_with fail
          go_quiet (fail)
          go_wp2
          go_roundw
          case rel => exact ⟨i + 1, zs, by omega, by omega, by go_num, Lib.hid (HX1.out.below ((BW.refl wr).drewN _).out), (insUp_next hlt (HZ.out.symm.trans (insDown_stop (fun h => absurd h hja)))).trans HY.out, HG.trans (Gr.of_below _ ((BW.refl wr).drewN _).out)⟩
          case measure => simp [intOf]; omega
    · go_wp2
      go_end0
      exact ⟨rfl, by rw [← HY.out, show b - i = 0 by omega]; exact HX.out, HG⟩
end Go.Proofs.Ytndlhmnablefpaa

/- segment.cut: versions in blocks. -/
import Derived.Test.YtndlhmnablefpaaSeg1
import Derived.Test.YtndlhmnablefpaaSub
namespace Go.Proofs.Ytndlhmnablefpaa
open Go.RowKit
set_option linter.unusedSimpArgs false
set_option linter.unusedVariables false
theorem info_blc : Info Try.prog 78 5 56 := ⟨.agg #[.int .i64 0, .int .i64 0, .int .i64 0, .int .i64 0, .slice none 0 0], by kernel_rfl, rfl, by decide⟩
/-- The blocks of versions. -/
structure Blks (w : World) (s : Sl Ver) (n : Nat) (bs : List (Sl Ver)) : Prop where
  data : bl bs = chunks n (pv s.xs)
  flat : bs.flatMap (·.xs) = s.xs
  foot : ∀ x, x ∈ bs → ∀ b, b ∈ x.foot kVer → b ∈ s.foot kVer
def CutPost (w : World) (s : Sl Ver) (n : Nat) (e : Ending) (w' : World) : Prop := ∃ (v : Value) (bs : List (Sl Ver)), e = .returned v ∧ Own kBlc 78 w' w.heap.size v bs ∧ Blks w' s n bs ∧ Below w.heap.size w w'
theorem bounds_sub {b o : Nat} {c : Nat} {xs : List Ver} (w : World) (h : kVer.Inv w ⟨some ⟨b, o, none⟩, c, xs⟩) (L : Nat) (hL : L = xs.length) (hne : 0 < xs.length) (q : Rc) (hq : q = bnd (pv xs)) : Ans Try.prog 68 #[.slice (some ⟨b, o, none⟩) L c] w (.agg #[.int .i64 q.vf, .int .i64 q.vt, .int .i64 q.sf, .int .i64 q.st]) := by
  subst hL hq
  exact bounds_any ⟨some ⟨b, o, none⟩, c, xs⟩ w h hne
theorem sub_foot {s : Sl Ver} {b o k m c : Nat} (hA : s.A = some ⟨b, o, none⟩) (hx : s.xs ≠ []) : ∀ j, j ∈ Sl.foot kVer ⟨some ⟨b, o + k * 9, none⟩, c, (s.xs.drop k).take m⟩ → j ∈ s.foot kVer := by
  intro j hj
  rcases List.mem_append.1 hj with hj | hj
  · obtain ⟨a, ha, rfl, _⟩ := mem_blk hj
    simp only [Option.some.injEq] at ha
    subst ha
    exact List.mem_append_left _ (blk_mem (a := ⟨b, o, none⟩) hA hx)
  · obtain ⟨x, hx, hj⟩ := List.mem_flatMap.1 hj
    exact List.mem_append_right _ (List.mem_flatMap.2 ⟨x, List.mem_of_mem_drop (List.mem_of_mem_take hx), hj⟩)
set_option maxRecDepth 100000 in
set_option maxHeartbeats 2000000 in
theorem cut_any (s : Sl Ver) (n : Nat) (w : World) (h : kVer.Inv w s) (hn : 1 ≤ n) (hn2 : n ≤ 4096) (hl : s.xs.length ≤ 1000000000) :
    Calls Try.prog 41 #[.slice s.A s.xs.length s.cap, .int .i64 (n : Int)] w (CutPost w s n) := by
  have HI := Lib.hid h
  have hle := h.le
  have hmx := h.mx
  have hfo : ∀ j, j ∈ s.foot kVer → j < w.heap.size := h.lt
  have HFO := Lib.hid hfo
  clear h hfo
  go_enter Try.func41, Try.ntmps41
  go_wp2_with fail
  go_loopw [5, 6, 7, 8] (fun v i _ _ wr => ∃ (k : Nat) (bs : List (Sl Ver)), k ≤ s.xs.length + n ∧ i = .int .i64 (k : Int) ∧ Hid (Own kBlc 78 wr w.heap.size v bs) ∧ bs.length ≤ k ∧ Hid (bl bs ++ chunks n ((pv s.xs).drop k) = chunks n (pv s.xs)) ∧ Hid (bs.flatMap (·.xs) = s.xs.take k) ∧ Hid (∀ x, x ∈ bs → ∀ b, b ∈ x.foot kVer → b ∈ s.foot kVer) ∧ BW w wr) (fun _ i _ _ _ => s.xs.length - (intOf i).toNat)
  case atStart => exact ⟨0, [], Nat.zero_le _, rfl, Own.nil _ _ _ _, Nat.le_refl _, rfl, rfl, (fun x h => by simp at h), BW.refl w⟩
  case round =>
    obtain ⟨k, bs, hk, rfl, HO, hbl, HC, HX, HF, HB⟩ := hrel
    by_cases hlt : k < s.xs.length
    · obtain ⟨b, o, hA, hb, c0, c1, c2, c3, c4, c5, c6, c7, c8, hr⟩ := ver_at (HI.out.below HB.out) k hlt
      have HA := Lib.hid hA
      rw [hA]
      clear hA hr c0 c1 c2 c3 c4 c5 c6 c7 c8
      have hx0 : s.xs ≠ [] := by intro e; rw [e] at hlt; simp at hlt
      have hsum : IntKind.i64.wrap ((k : Int) + (n : Int)) = ((k + n : Nat) : Int) := by rw [IntWalk.i64_in _ (by omega)]; omega
      obtain ⟨m, hm⟩ : ∃ m, m = min (k + n) s.xs.length := ⟨_, rfl⟩
      have hm1 : k < m := by omega
      have hm2 : m ≤ s.xs.length := by omega
      have hm3 : (k : Int) ≤ (m : Int) := by omega
      have hm4 : (m : Int) ≤ (s.cap : Int) := by omega
      have hms : ((s.xs.drop k).take (m - k)).length = m - k := by rw [List.length_take, List.length_drop]; omega
      have HMS := Lib.hid hms
      have hpart : kVer.Inv w ⟨some ⟨b, o + k * 9, none⟩, m - k, (s.xs.drop k).take (m - k)⟩ := (HI.out.sub HA.out k (m - k) (by omega)).capTo (by rw [hms]; exact Nat.le_refl _) (by omega) (fun h => by cases h)
      have HPT := Lib.hid hpart
      clear hpart hms
      obtain ⟨q, hq⟩ : ∃ q, q = bnd (pv ((s.xs.drop k).take (m - k))) := ⟨_, rfl⟩
      have HQ := Lib.hid hq
      clear hq
      have HBC : Hid (∀ W, BW wr W → ∀ L c, L = m - k → c = m - k → Ans Try.prog 68 #[.slice (some ⟨b, o + k * 9, none⟩) L c] W (.agg #[.int .i64 q.vf, .int .i64 q.vt, .int .i64 q.sf, .int .i64 q.st])) := fun W hW L c hL hc => by
        subst hc
        exact bounds_sub W (HPT.out.below (HB.trans hW).out) L (by rw [hL, HMS.out]) (by rw [HMS.out]; omega) q HQ.out
      have HAP : Hid (∀ x, x ∈ Sl.foot kVer ⟨some ⟨b, o + k * 9, none⟩, m - k, (s.xs.drop k).take (m - k)⟩ → x < w.heap.size) := fun x hx => HFO.out x (sub_foot HA.out hx0 x hx)
      go_wp2_with (first
        | (go_at_call 68; refine Calls.mono (HBC.out _ (BW.refl wr) _ _ (by omega) (by omega)) ?_; rintro e1 w1 ⟨rfl, b1⟩; have HB1 := HB.trans ⟨b1⟩; have HO1 := Lib.hid (HO.out.below b1); clear b1)
        | (at_builtin; refine append_one kBlc w.heap.size rfl (.tmp 27) (.tmp 32) 73 78 56 rfl Try.underlying73 info_blc _ _ bs ⟨some ⟨b, o + k * 9, none⟩, m - k, (s.xs.drop k).take (m - k)⟩ _ ?cs rfl _ rfl rfl (Apd.own HO1.out) (HPT.out.below HB1.out) ?ap HB1.out.size (by omega) ?_; (case cs => (show (Rc.cells (bnd (pv ((s.xs.drop k).take (m - k)))) ++ [Value.slice (some ⟨b, o + k * 9, none⟩) ((s.xs.drop k).take (m - k)).length (m - k)]).toArray = _; rw [← HQ.out, HMS.out]; simp [Rc.cells]; try omega)); (case ap => exact fun x hx he => by have h1 := (HO1.out.base_le x he).1; have h2 := HAP.out x hx; omega); intro v1 w2 ho hg; have HO2 := Lib.hid ho; have HB2 : BW w w2 := ⟨HB1.out.trans (hg.below HB1.out.size (fun x hx => (HO1.out.base_le x hx).1))⟩; clear ho hg))
      all_goals
        go_roundw
        case rel =>
          have hkl : k < (pv s.xs).length := by simpa [pv] using hlt
          refine ⟨k + n, bs ++ [⟨some ⟨b, o + k * 9, none⟩, m - k, (s.xs.drop k).take (m - k)⟩], by omega, by go_num, HO2, (by simp; omega), ?_, ?_, ?_, HB2⟩
          · show _ = _
            rw [← HC.out, cut_next (by omega) hkl, bl_append, List.append_assoc]
            congr 1
            show [pv ((s.xs.drop k).take (m - k))] ++ _ = _
            rw [pv_take', pv_drop, List.singleton_append]
            congr 1
            rw [List.take_eq_take_iff, List.length_drop]
            have : (pv s.xs).length = s.xs.length := by simp [pv]
            omega
          · show _ = _
            rw [List.flatMap_append, HX.out, List.take_add]
            simp only [List.flatMap_cons, List.flatMap_nil, List.append_nil]
            congr 1
            rw [List.take_eq_take_iff, List.length_drop]
            omega
          · intro x hx
            rcases List.mem_append.1 hx with hx | hx
            · exact HF.out x hx
            · simp only [List.mem_singleton] at hx
              subst hx
              exact sub_foot HA.out hx0
        case measure => simp [intOf]; omega
    · go_wp2_with fail
      go_ret
      refine ⟨_, bs, rfl, HO.out, ⟨?_, ?_, HF.out⟩, HB.out⟩
      · have := HC.out
        rwa [cut_end (by simp [pv]; omega), List.append_nil] at this
      · have := HX.out
        rwa [List.take_of_length_le (by omega)] at this
end Go.Proofs.Ytndlhmnablefpaa

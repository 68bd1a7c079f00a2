/- segment.word: whether a text is a name. -/
import Derived.Test.YtndlhmnablefpaaSegM
import Derived.Laws.IdiomStrings
namespace Go.Proofs.Ytndlhmnablefpaa
open Go.RowKit
set_option linter.unusedSimpArgs false
set_option linter.unusedVariables false
set_option maxRecDepth 100000 in
set_option maxHeartbeats 2000000 in
theorem word_any (s : ByteArray) (w : World) (hs : s.size ≤ 9223372036854775807) : Ans Try.prog 39 #[.string s] w (.bool (okName s.data.toList)) := by
  unfold Ans
  have hsz : s.data.toList.length = s.size := by simp
  have HSZ := Lib.hid hsz
  clear hsz
  go_enter Try.func39, Try.ntmps39
  by_cases h0 : s.size = 0
  · have hs0 : s = ⟨#[]⟩ := by
      have : s.data.size = 0 := h0
      cases s with
      | mk d => congr 1; exact Array.eq_empty_of_size_eq_zero this
    subst hs0
    go_wp2_with fail
    go_ret
    exact ⟨rfl, (BW.refl w).out⟩
  have hne : s.toList.isEmpty = false := by
    cases h : s.toList.isEmpty with
    | false => rfl
    | true => exact absurd (bytes_empty h) h0
  by_cases h24 : 24 < s.size
  · have h24' : (24 : Int) < (s.size : Int) := by omega
    go_wp2_with fail
    go_ret
    exact ⟨ret_bool (okName_long (by rw [HSZ.out]; exact h24)).symm, (BW.refl w).out⟩
  have h24' : ¬ (24 : Int) < (s.size : Int) := by omega
  have h0l : 0 < s.data.toList.length := by rw [HSZ.out]; omega
  have h0i : (0 : Int) < (s.size : Int) := by omega
  have hd0 : s.data.toList[0] = s[0]'(by omega) := rfl
  have HD0 := Lib.hid hd0
  have h0s : 0 < s.size := by omega
  by_cases hdg : digit (s[0]'(by omega)) = true
  · have HN : Hid (okName s.data.toList = false) := okName_digit h0l (by rw [HD0.out]; exact hdg)
    have h48 : (48 : Int) ≤ ((s[0]'(by omega)).toNat : Int) ∧ ((s[0]'(by omega)).toNat : Int) ≤ 57 := by
      unfold digit at hdg
      simp only [Bool.and_eq_true, decide_eq_true_eq] at hdg
      omega
    obtain ⟨h48, h57⟩ := h48
    go_wp2_with fail
    go_ret
    exact ⟨ret_bool HN.out.symm, (BW.refl w).out⟩
  have HN : Hid (okName s.data.toList = s.data.toList.all okChar) := okName_all h0l (by rw [HSZ.out]; omega) (by rw [HD0.out]; simpa using hdg)
  have HCV := Lib.hid (fun w' : World => Go.run_bytes_of_string (P := Try.prog) w' 9 35 5 s Try.underlying9 Try.underlying35 Try.underlying5)
  have hcv := HCV.out w
  have hns : ((48 : Int) ≤ ((s[0]'(by omega)).toNat : Int) ∧ ¬ ((s[0]'(by omega)).toNat : Int) ≤ 57) ∨ ¬ (48 : Int) ≤ ((s[0]'(by omega)).toNat : Int) := by
    rcases Int.lt_or_le ((s[0]'(by omega)).toNat : Int) 48 with h | h
    · exact .inr (by omega)
    · refine .inl ⟨h, fun h57 => hdg ?_⟩
      unfold digit
      simp only [Bool.and_eq_true, decide_eq_true_eq]
      omega
  have HBW : Hid (∀ C t fr, BW w ((w.alloc (.cells C t fr)).drew)) := fun C t fr => ((BW.refl w).alloc _).drew
  have HCE : Hid (∀ (cap : Nat) (t : TypeId) (fr : Nat × Nat) (k : Nat), (h : k < s.size) → ((w.alloc (.cells (Go.bytesRow s cap) t fr)).drew).cell? ⟨w.heap.size, k, none⟩ = some (.int .u8 (s[k].toNat : Int))) := fun cap t fr k h => by
    have h1 := Go.World.cell?_alloc_mark w.drew (Go.bytesRow s cap) t fr k
    have h2 : k < s.data.size := h
    rw [show w.drew.heap.size = w.heap.size from rfl] at h1
    refine Eq.trans (show _ = (w.drew.alloc (.cells (Go.bytesRow s cap) t fr)).cell? ⟨w.heap.size, k, none⟩ from rfl) ?_
    rw [h1]
    unfold Go.bytesRow
    rw [Array.getElem?_append_left (by simpa using h2), Array.getElem?_map, Array.getElem?_eq_getElem h2]
    rfl
  obtain ⟨h48, h57⟩ | h48 := hns
  all_goals
    go_wp2_with fail
    have HBW1 := Lib.hid (HBW.out (Go.bytesRow s (grownCap w s.size 0 5)) 5 ((Go.bytesRow s (grownCap w s.size 0 5)).size, (Go.bytesRow s (grownCap w s.size 0 5)).size + 1))
    have HCE1 := Lib.hid (HCE.out (grownCap w s.size 0 5) 5 ((Go.bytesRow s (grownCap w s.size 0 5)).size, (Go.bytesRow s (grownCap w s.size 0 5)).size + 1))
    generalize World.drew (World.alloc _ _) = W at HBW1 HCE1 ⊢
    clear hcv HBW HCE
    go_loop [4, 25] (fun _ i => ∃ k : Nat, k ≤ s.size ∧ i = .int .i64 k ∧ Hid ((s.data.toList.take k).all okChar = true)) (fun _ i => s.size - (intOf i).toNat)
    case atStart => exact ⟨0, Nat.zero_le _, rfl, rfl⟩
    case round =>
      obtain ⟨k, hk, rfl, HP⟩ := hrel
      by_cases hlt : k < s.size
      · have hd : k < s.data.toList.length := by rw [HSZ.out]; exact hlt
        have HD := Lib.hid hd
        have HE := Lib.hid (show s.data.toList[k] = s[k] from rfl)
        have c0 := HCE1.out k hlt
        clear hd
        have HY : Hid (okChar (s[k]'hlt) = (((((s[k]'hlt).toNat : Int) == 95) || (decide ((97 : Int) ≤ ((s[k]'hlt).toNat : Int)) && decide (((s[k]'hlt).toNat : Int) ≤ 122))) || (decide ((48 : Int) ≤ ((s[k]'hlt).toNat : Int)) && decide (((s[k]'hlt).toNat : Int) ≤ 57)))) := by
          show _ = _
          rw [Bool.eq_iff_iff]
          simp only [okChar, nameChar, digit, Bool.or_eq_true, Bool.and_eq_true, decide_eq_true_eq, beq_iff_eq]
          omega
        obtain ⟨m, hm⟩ : ∃ m, m = ((s[k]'hlt).toNat : Int) := ⟨_, rfl⟩
        rw [← hm] at HY c0
        clear hm
        go_wp2
        all_goals first
          | (go_ret; exact ⟨ret_bool (by rw [HN.out]; exact (all_no _ _ k HD.out (HY.out.trans (by simp at *; omega))).symm), HBW1.out.out⟩)
          | (go_round; (case rel => exact ⟨k + 1, by omega, by go_num, all_step HD.out HP (HY.out.trans (by simp at *; omega))⟩); (case measure => simp [intOf]; omega))
      · go_wp2
        go_ret
        exact ⟨ret_bool (by rw [HN.out]; exact (all_end HP.out (by rw [HSZ.out]; omega)).symm), HBW1.out.out⟩
end Go.Proofs.Ytndlhmnablefpaa

/- What law41's few answers. -/
import Derived.Test.YtndlhmnablefpaaWorks2
namespace Go.Proofs.Ytndlhmnablefpaa
open Go.RowKit
set_option linter.unusedSimpArgs false
set_option linter.unusedVariables false
/-- What few tells: where it says true there are at most 100 versions. -/
def FewPost (w : World) (l : List (Sl Ver)) (e : Ending) (w' : World) : Prop := ∃ b : Bool, e = .returned (.bool b) ∧ (b = true → (l.flatMap (·.xs)).length ≤ 100) ∧ Below w.heap.size w w'
theorem FewPost.no {w w' : World} {l : List (Sl Ver)} (h : Below w.heap.size w w') : FewPost w l (.returned (.bool false)) w' := ⟨false, rfl, (fun h => by cases h), h⟩
set_option maxRecDepth 100000 in
set_option maxHeartbeats 2000000 in
theorem few_any (s : Sl (Sl Ver)) (w : World) (h : (Kd.slice kVer).Inv w s) (hz : ∀ x, x ∈ s.xs → x.xs.length ≤ 140737488355328) :
    Calls Try.prog 13 #[.slice s.A s.xs.length s.cap] w (FewPost w s.xs) := by
  have HI := Lib.hid h
  have HZ := Lib.hid hz
  have hmx : s.xs.length ≤ 9223372036854775807 := Nat.le_trans h.le h.mx
  clear h hz
  go_enter Try.func13, Try.ntmps13
  go_wp2_with fail
  go_loopw [2, 3, 4, 5] (fun _ n i _ wr => ∃ (k N : Nat), k ≤ s.xs.length ∧ k ≤ 20 ∧ i = .int .i64 k ∧ n = .int .i64 N ∧ Hid (N = ((s.xs.take k).flatMap (·.xs)).length) ∧ N ≤ k * 140737488355328 ∧ BW w wr) (fun _ _ i _ _ => 20 - (intOf i).toNat)
  case atStart => exact ⟨0, 0, Nat.zero_le _, Nat.zero_le _, rfl, rfl, rfl, Nat.zero_le _, BW.refl w⟩
  case round =>
    obtain ⟨k, N, hk, hk20, rfl, rfl, HN, hN, HB⟩ := hrel
    by_cases hlt : k < s.xs.length
    · by_cases h20 : k < 20
      · obtain ⟨b, o, hA, hb, c0, hr⟩ := sl_at (HI.out.below HB.out) k hlt
        have HA := Lib.hid hA
        have HR := Lib.hid hr
        have hz1 := HZ.out _ (List.getElem_mem hlt)
        have HT := Lib.hid (take_flat (·.xs) s.xs k hlt)
        rw [hA]
        clear hA hr
        obtain ⟨x, hx⟩ : ∃ x, x = s.xs[k] := ⟨_, rfl⟩
        rw [← hx] at c0 HR HT hz1
        clear hx
        have e1 : IntKind.i64.wrap ((N : Int) + (x.xs.length : Int)) = (N : Int) + (x.xs.length : Int) := IntWalk.i64_in _ (by omega)
        go_wp2_with fail
        go_loopw [2, 5] (fun _ q wq => ∃ j : Nat, j ≤ x.xs.length ∧ j ≤ 100 ∧ q = .int .i64 j ∧ Hid (wq.cell? ⟨b, o + k, none⟩ = some (.slice x.A x.xs.length x.cap)) ∧ Hid (kVer.Inv wq x) ∧ BW w wq) (fun _ q _ => 100 - (intOf q).toNat)
        case atStart => exact ⟨0, Nat.zero_le _, Nat.zero_le _, rfl, c0, HR, HB⟩
        case round =>
          clear HB HR c0
          obtain ⟨j, hj, hj100, rfl, C0, HR, HB⟩ := hrel
          have c0 := C0.out
          by_cases hltj : j < x.xs.length
          · by_cases h100 : j < 100
            · obtain ⟨b1, o1, hA1, hb1, c0', c1, c2, c3, c4, c5, c6, c7, c8, hr⟩ := ver_at HR.out j hltj
              have HA1 := Lib.hid hA1
              have hrl : x.xs[j].p.row.length ≤ 9223372036854775807 := Nat.le_trans hr.le hr.mx
              rw [hA1] at c0
              clear hr
              by_cases hbig : x.xs[j].p.row.length ≤ 20
              · have hbig' : ¬ (20 : Int) < (x.xs[j].p.row.length : Int) := by omega
                go_wp2_with fail
                go_roundw
                case rel => exact ⟨j + 1, by omega, by omega, by go_num, C0, HR, HB⟩
                case measure => simp [intOf]; omega
              · have hbig' : (20 : Int) < (x.xs[j].p.row.length : Int) := by omega
                go_wp2_with fail
                go_ret
                exact FewPost.no HB.out
            · have h100' : ¬ (j : Int) < 100 := by omega
              go_wp2_with fail
              go_roundw
              case rel => exact ⟨k + 1, N + x.xs.length, by omega, by omega, by go_num, by congr 1, by show _ = _; rw [HT.out, List.length_append, ← HN.out], by omega, HB⟩
              case measure => simp [intOf]; omega
          · go_wp2_with fail
            go_roundw
            case rel => exact ⟨k + 1, N + x.xs.length, by omega, by omega, by go_num, by congr 1, by show _ = _; rw [HT.out, List.length_append, ← HN.out], by omega, HB⟩
            case measure => simp [intOf]; omega
      · have hl20 : ¬ (s.xs.length : Int) ≤ 20 := by omega
        have h20' : ¬ (k : Int) < 20 := by omega
        go_wp2_with fail
        go_ret
        exact FewPost.no HB.out
    · have HE : Hid (N = (s.xs.flatMap (·.xs)).length) := by
        have := HN.out
        rw [List.take_of_length_le (by omega)] at this
        exact this
      have hl20 : (s.xs.length : Int) ≤ 20 := by omega
      by_cases h100 : N ≤ 100
      · have h100' : (N : Int) ≤ 100 := by omega
        go_wp2_with fail
        go_ret
        exact ⟨true, rfl, fun _ => by rw [← HE.out]; exact h100, HB.out⟩
      · have h100' : ¬ (N : Int) ≤ 100 := by omega
        go_wp2_with fail
        go_ret
        exact FewPost.no HB.out
end Go.Proofs.Ytndlhmnablefpaa

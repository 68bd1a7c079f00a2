/- slices' stable sort of few versions. -/
import Derived.Test.YtndlhmnablefpaaSort2
namespace Go.Proofs.Ytndlhmnablefpaa
open Go.RowKit
set_option linter.unusedSimpArgs false
set_option linter.unusedVariables false
/-- What a sort leaves. -/
def SortPost (w : World) (base g c n : Nat) (xs : List Ver) (e : Ending) (w' : World) : Prop := e = .returned (.tuple #[]) ∧ ∃ zs, VR w' base g c n zs ∧ Sorts 0 n xs zs ∧ Gr w w' (some g) (some g)
set_option maxRecDepth 100000 in
set_option maxHeartbeats 1000000 in
theorem stable_small (n : Nat) (xs : List Ver) (base g c : Nat) (w : World) (h : VR w base g c n xs) (hb : base ≤ w.heap.size) (hn : n ≤ 19) :
    Calls Try.prog 62 #[.slice (some ⟨g, 0, none⟩) n c, .int .i64 (n : Int), .func (.func 33) #[] #[]] w (SortPost w base g c n xs) := by
  have H := Lib.hid h
  have hn1 : ¬ (20 : Int) ≤ (n : Int) := by omega
  have hn2 : ¬ (20 : Int) < (n : Int) := by omega
  clear h
  go_enter Try.func62, Try.ntmps62
  go_wp2_with fail
  go_loopw [7, 8] (fun a b wr => a = .int .i64 0 ∧ b = .int .i64 20 ∧ wr = w) (fun a _ _ => (intOf a).toNat)
  case atStart => exact ⟨rfl, rfl, rfl⟩
  case round =>
    obtain ⟨rfl, rfl, rfl⟩ := hrel
    go_wp2_with (refine (insertion_any 0 n n xs base g c _ H.out hb (by omega) (Nat.le_refl _) (Nat.zero_le _)).mono ?_; rintro e w1 ⟨rfl, hv, hg⟩; replace hv := Lib.hid hv)
    go_loopw [6, 7, 8, 9] (fun p _ _ _ wr => p = .int .i64 20 ∧ wr = w1) (fun a _ _ _ _ => (intOf a).toNat)
    case atStart => exact ⟨rfl, rfl⟩
    case round =>
      obtain ⟨rfl, rfl⟩ := hrel
      go_wp2
      go_end0
      exact ⟨rfl, _, hv.out, by have := insertion_sorts (xs := xs) (Nat.zero_le n) (Nat.le_of_eq H.out.len.symm); simpa using this, hg⟩
theorem sortStable_of (n : Nat) (xs : List Ver) (base g c : Nat) (w : World) (hn : n ≤ 1000)
    (hc : Calls Try.prog 62 #[.slice (some ⟨g, 0, none⟩) n c, .int .i64 (n : Int), .func (.func 33) #[] #[]] w (SortPost w base g c n xs)) :
    Calls Try.prog 32 #[.slice (some ⟨g, 0, none⟩) n c, .func (.func 33) #[] #[]] w (SortPost w base g c n xs) := by
  go_enter Try.func32, Try.ntmps32
  go_wp2_with (refine hc.mono ?_; rintro e w1 hp; obtain ⟨rfl, hp1⟩ := id hp)
  go_end0
  exact ⟨rfl, hp1⟩
end Go.Proofs.Ytndlhmnablefpaa

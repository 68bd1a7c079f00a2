/- slices' stable sort of no versions: a nil slice. -/
import Derived.Test.YtndlhmnablefpaaSort3
namespace Go.Proofs.Ytndlhmnablefpaa
open Go.RowKit
set_option linter.unusedSimpArgs false
set_option linter.unusedVariables false
def NilPost (w : World) (e : Ending) (w' : World) : Prop := e = .returned (.tuple #[]) ∧ BW w w'
set_option maxRecDepth 100000 in
set_option maxHeartbeats 1000000 in
theorem insertion_nil (w : World) :
    Calls Try.prog 93 #[.slice none 0 0, .int .i64 0, .int .i64 0, .func (.func 33) #[] #[]] w (NilPost w) := by
  go_enter Try.func93, Try.ntmps93
  go_wp2_with fail
  go_loopw [8, 9] (fun i _ wr => i = .int .i64 1 ∧ wr = w) (fun i _ _ => (intOf i).toNat)
  case atStart => exact ⟨rfl, rfl⟩
  case round =>
    obtain ⟨rfl, rfl⟩ := hrel
    go_wp2
    go_end0
    exact ⟨rfl, BW.refl _⟩
set_option maxRecDepth 100000 in
set_option maxHeartbeats 1000000 in
theorem stable_nil (w : World) :
    Calls Try.prog 62 #[.slice none 0 0, .int .i64 0, .func (.func 33) #[] #[]] w (NilPost w) := by
  go_enter Try.func62, Try.ntmps62
  go_wp2_with fail
  go_loopw [7, 8] (fun a b wr => a = .int .i64 0 ∧ b = .int .i64 20 ∧ wr = w) (fun a _ _ => (intOf a).toNat)
  case atStart => exact ⟨rfl, rfl, rfl⟩
  case round =>
    obtain ⟨rfl, rfl, rfl⟩ := hrel
    go_wp2_with (refine (insertion_nil _).mono ?_; rintro e w1 ⟨rfl, hb⟩)
    go_loopw [6, 7, 8, 9] (fun p _ _ _ wr => p = .int .i64 20 ∧ wr = w1) (fun a _ _ _ _ => (intOf a).toNat)
    case atStart => exact ⟨rfl, rfl⟩
    case round =>
      obtain ⟨rfl, rfl⟩ := hrel
      go_wp2
      go_end0
      exact ⟨rfl, hb⟩
set_option maxRecDepth 100000 in
theorem sortStable_nil (w : World) :
    Calls Try.prog 32 #[.slice none 0 0, .func (.func 33) #[] #[]] w (NilPost w) := by
  go_enter Try.func32, Try.ntmps32
  go_wp2_with (refine (stable_nil _).mono ?_; rintro e w1 ⟨rfl, hb⟩)
  go_end0
  exact ⟨rfl, hb⟩
theorem own_cases {α : Type} {d : Kd α} {e : TypeId} {w : World} {base : Nat} {v : Value} {xs : List α} (h : Own d e w base v xs) : (v = .slice none 0 0 ∧ xs = []) ∨ ∃ g c, v = .slice (some ⟨g, 0, none⟩) xs.length c ∧ Row d e w base g c xs := by
  rcases h.row.2 with ⟨h1, h2⟩ | ⟨g, cap, cur, hv, _⟩
  · exact .inl ⟨h1, by simpa using h2⟩
  · exact .inr ⟨g, cap, hv, by rw [hv] at h; exact h⟩
end Go.Proofs.Ytndlhmnablefpaa

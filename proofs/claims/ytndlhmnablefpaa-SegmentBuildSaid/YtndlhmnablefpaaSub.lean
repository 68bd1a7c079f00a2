/- A part of a slice that is read; bytes turned into a text. -/
import Derived.Test.YtndlhmnablefpaaEnc1
import Derived.Laws.IdiomStrings
import Derived.Lib.BufferRead
namespace Go.Proofs.Ytndlhmnablefpaa
open Go.RowKit
set_option linter.unusedSimpArgs false
set_option linter.unusedVariables false
section
variable {α : Type} {d : Kd α} {w : World} {s : Sl α}
theorem Kd.Inv.sub (h : d.Inv w s) {b o : Nat} (hA : s.A = some ⟨b, o, none⟩) (l m : Nat) (hlm : l + m ≤ s.xs.length) : d.Inv w ⟨some ⟨b, o + l * d.sz, none⟩, s.cap - l, (s.xs.drop l).take m⟩ := by
  have hle := h.le
  have hmx := h.mx
  refine ⟨by simp only [List.length_take, List.length_drop]; omega, by simp only; omega, (fun h => by cases h), fun hne => ?_, fun x hx => h.inv x (List.mem_of_mem_drop (List.mem_of_mem_take hx))⟩
  have hx0 : s.xs ≠ [] := by intro e; apply hne; simp [e]
  obtain ⟨b', o', hA', hc⟩ := h.at' hx0
  rw [hA] at hA'
  simp only [Option.some.injEq, Addr.mk.injEq, and_true] at hA'
  obtain ⟨rfl, rfl⟩ := hA'
  refine ⟨b, o + l * d.sz, rfl, fun i x hi j u hu => ?_⟩
  have hi2 : s.xs[l + i]? = some x := by
    simp only [List.getElem?_take, List.getElem?_drop] at hi
    split at hi
    · exact hi
    · simp at hi
  have := hc (l + i) x hi2 j u hu
  rw [Nat.add_mul] at this
  rw [show o + l * d.sz + i * d.sz + j = o + (l * d.sz + i * d.sz) + j by omega]
  exact this
theorem Kd.Inv.capTo {A : Option Addr} {c c' : Nat} {xs : List α} (h : d.Inv w ⟨A, c, xs⟩) (h1 : xs.length ≤ c') (h2 : c' ≤ 9223372036854775807) (h3 : A = none → c' = 0) : d.Inv w ⟨A, c', xs⟩ := ⟨h1, h2, h3, h.at', h.inv⟩
theorem Kd.Inv.empty (A : Option Addr) (c : Nat) (h1 : c ≤ 9223372036854775807) (h2 : A = none → c = 0) : d.Inv w ⟨A, c, []⟩ := ⟨Nat.zero_le _, h1, h2, fun h => absurd rfl h, fun _ h => by simp at h⟩
end
theorem kByte_sub {w : World} {s : Sl UInt8} (h : kByte.Inv w s) {b o : Nat} (hA : s.A = some ⟨b, o, none⟩) (l m : Nat) (hlm : l + m ≤ s.xs.length) : kByte.Inv w ⟨some ⟨b, o + l, none⟩, s.cap - l, (s.xs.drop l).take m⟩ := by
  have := h.sub hA l m hlm
  simpa [kByte, Kd.flat] using this
/-- Bytes as a text. -/
theorem convert_bytes {w : World} {A : Option Addr} {c : Nat} {ys : List UInt8} (h : kByte.Inv w ⟨A, c, ys⟩) (n : Nat) (hn : n = ys.length) : (convert 35 9 (.slice A n c)).run Try.prog w = .ok (.string ⟨ys.toArray⟩) w := by
  subst hn
  cases A with
  | none =>
    have h0 : ys = [] := by
      have h1 := h.nil rfl
      have h2 := h.le
      simp only at h1 h2
      exact List.eq_nil_of_length_eq_zero (by omega)
    subst h0
    exact Go.Lib.run_convert_nil_bytes w _ _ 5 c Try.underlying35 Try.underlying5 Try.underlying9
  | some a =>
    refine run_convert_bytes_back w _ _ 5 a c ys Try.underlying35 Try.underlying5 Try.underlying9 fun j hj => ?_
    have hx0 : ys ≠ [] := by intro e; rw [e] at hj; simp at hj
    obtain ⟨b, o, hA, hc⟩ := h.at' hx0
    simp only [Option.some.injEq] at hA
    subst hA
    have := hc j ys[j] (List.getElem?_eq_getElem hj) 0 _ rfl
    rw [Addr.add_lit]
    simpa [kByte, Kd.flat] using this
end Go.Proofs.Ytndlhmnablefpaa

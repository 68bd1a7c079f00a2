/- What slices.Clone of a row answers. -/
import Derived.Test.YtndlhmnablefpaaRec2
import Derived.Test.YtndlhmnablefpaaCode
namespace Go.Proofs.Ytndlhmnablefpaa
open Go.RowKit
theorem info_vl : Info Try.prog 67 3 32 := ⟨.agg #[.int .i64 0, .int .i64 0, .string ⟨#[]⟩], by kernel_rfl, rfl, by decide⟩
/-- A copy of a slice: in new memory. -/
def Copied {α : Type} (d : Kd α) (w : World) (xs : List α) (v : Value) (w' : World) : Prop := ∃ s : Sl α, v = .slice s.A s.xs.length s.cap ∧ d.Inv w' s ∧ s.xs = xs ∧ ∀ k, k ∈ s.blk → w.heap.size ≤ k
theorem Copied.of_own {α : Type} {d : Kd α} {e : TypeId} {w w' : World} {v : Value} {xs : List α} (h : Own d e w' w.heap.size v xs) : Copied d w xs v w' := by
  obtain ⟨A, c, rfl, hi, hb⟩ := h.sl
  exact ⟨⟨A, c, xs⟩, rfl, hi, rfl, fun k hk => by obtain ⟨a, ha, rfl, _⟩ := mem_blk hk; exact (hb a ha).2⟩
theorem own_empty {α : Type} (d : Kd α) (e : TypeId) (W : World) (base : Nat) (hb : base ≤ W.heap.size) : Own d e (W.alloc (.cells #[] e)) base (.slice (some ⟨W.heap.size, 0, none⟩) 0 0) [] :=
  ⟨World.ownsRow_made W #[] 0 hb (by decide) (by simp), fun _ h => by simp at h, fun _ h => by simp at h⟩
theorem vl_nofoots {ys : List Vl} {row : Option Nat} : ∀ y, y ∈ ys → ∀ k, k ∈ kVl.foot y → row ≠ some k := fun _ _ k hk => by simp [kVl, Kd.flat] at hk
set_option maxRecDepth 100000 in
set_option maxHeartbeats 600000 in
theorem cloneRow_any (r : Sl Vl) (w : World) (h : kVl.Inv w r) (hl : r.xs.length * 32 ≤ 140737488355328) :
    AnsR Try.prog 34 #[.slice r.A r.xs.length r.cap] w (Copied kVl w r.xs) := by
  refine AnsR.of ?_
  obtain ⟨A, c, xs⟩ := r
  have H := Lib.hid h
  simp only at hl ⊢
  go_enter Try.func34, Try.ntmps34
  cases A with
  | none =>
    have hc : c = 0 := h.nil rfl
    subst hc
    have hx : xs = [] := List.eq_nil_of_length_eq_zero (Nat.le_zero.1 h.le)
    subst hx
    clear h
    have hnl := fun W => Lib.run_eql_slice_nil (P := Try.prog) W 57 67 none 0 0 0 0 Try.underlying57
    go_wp2
    go_ret
    exact AnsPost.mk (Copied.of_own (e := 0) (Own.nil _ _ _ _)) (Below.refl _ _)
  | some a =>
    clear h
    have hnl := fun W => Lib.run_eql_slice_nil (P := Try.prog) W 57 67 (some a) xs.length c 0 0 Try.underlying57
    go_wp2_with (at_builtin; refine append_all kVl w.heap.size rfl (.tmp 5) (.tmp 6) 57 57 67 32 rfl Try.underlying57 info_vl _ _ [] xs rfl _ rfl ((H.out.below (by exact BW.fin)).src Try.underlying57) (Apd.own (own_empty kVl _ w _ (Nat.le_refl _))) (fun _ _ => trivial) vl_nofoots szle (by simp; omega) ?_; intro v1 w1 r1 ha hg hn; have HA := Lib.hid (hn (.inr ⟨own_empty kVl _ w _ (Nat.le_refl _), rfl⟩)); clear ha hn)
    go_ret
    obtain ⟨ho, rfl⟩ := HA.out
    exact AnsPost.mk (Copied.of_own (by simpa using ho)) ((BW.fin (w := w) (W := w.alloc (.cells #[] 67))).trans (hg.below szle (fun k hk => by have : w.heap.size = k := Option.some.inj hk; omega)))
theorem info_ver : Info Try.prog 59 9 88 := ⟨.agg #[.int .i64 0, .int .i64 0, .slice none 0 0, .int .i64 0, .int .i64 0, .int .i64 0, .int .i64 0, .int .i64 0, .int .i64 0], by kernel_rfl, rfl, by decide⟩
/-- Element i of a slice of slices. -/
theorem sl_at {α : Type} {d : Kd α} {w : World} {s : Sl (Sl α)} (h : (Kd.slice d).Inv w s) (i : Nat) (hi : i < s.xs.length) : ∃ b o, s.A = some ⟨b, o, none⟩ ∧ b < w.heap.size ∧ w.cell? ⟨b, o + i, none⟩ = some (.slice s.xs[i].A s.xs[i].xs.length s.xs[i].cap) ∧ d.Inv w s.xs[i] := by
  obtain ⟨b, o, hA, hb, hc, hr⟩ := h.get i hi
  refine ⟨b, o, hA, hb, ?_, hr⟩
  have := hc 0 _ rfl
  rwa [show o + i * (Kd.slice d).sz + 0 = o + i by simp [Kd.slice]] at this
theorem sl_inner {α : Type} {d : Kd α} {w : World} {s : Sl (Sl α)} (h : (Kd.slice d).Inv w s) (i : Nat) (hi : i < s.xs.length) : d.Inv w s.xs[i] := h.inv _ (List.getElem_mem hi)
/-- What the clone's place in memory says. -/
theorem copied_ver {w w' : World} {x : Ver} {v : Value} (h : Copied kVl w x.p.row v w') : ∃ z : Ver, z.p = x.p ∧ v = .slice z.A x.p.row.length z.c ∧ kVer.inv w' z ∧ ∀ k, k ∈ kVer.foot z → w.heap.size ≤ k := by
  obtain ⟨⟨A, c, xs⟩, rfl, h1, h2, h3⟩ := h
  simp only at h2 h3
  subst h2
  refine ⟨⟨x.p, A, c⟩, rfl, rfl, h1, fun k hk => ?_⟩
  rcases List.mem_append.1 hk with hk | hk
  · exact h3 k hk
  · simp [kVl, Kd.flat] at hk
end Go.Proofs.Ytndlhmnablefpaa

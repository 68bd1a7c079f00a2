/- A region that draws its order: all but its last operations read or call in a class of worlds, the last ones come last. No program in sight. -/
import Derived.StillTailTactics
import Derived.Deep.QuietTactic
import Derived.BigQuiet
namespace Go.Proofs.Ytndlhmnablefpaa
open Go
section
variable {P : Program} {ops : Array Oper} {md : Region.Mode} {C : World → Prop} {n : Nat}
/-- The operations ahead of number n come up in whatever order, each quietly; then T holds. -/
def AheadQ (P : Program) (md : Region.Mode) (ops : Array Oper) (C : World → Prop) (n : Nat) (T : Array Bool → Act → Prop) : Nat → Array Bool → Act → Prop
  | 0, up, a => T up a
  | f + 1, up, a => Region.ready md ops up ≠ [] ∧ ∀ i, i ∈ Region.ready md ops up → i < n ∧ qOp P ops C i (AheadQ P md ops C n T f (up.setIfInBounds i true)) a
theorem AheadQ.any {g : Nat} {T : Array Bool → Act → Prop} {Q : Exit → Act → World → Prop} (hT : ∀ up a w, C w → T up a → wpAny P md ops Q g up a w) :
    ∀ (f : Nat) (up : Array Bool) (a : Act) (w : World), C w → AheadQ P md ops C n T f up a → wpAny P md ops Q (f + g) up a w
  | 0, up, a, w, hC, h => by rw [Nat.zero_add]; exact hT up a w hC h
  | f + 1, up, a, w, hC, h => by
    have e : f + 1 + g = (f + g) + 1 := by omega
    rw [e]
    exact ⟨fun h0 => absurd h0 h.1, fun i hi => wpOp_of_qOp hC (fun a' w' hC' h' => AheadQ.any hT f _ a' w' hC' h') (h.2 i hi).2⟩
theorem ready_ahead (hs : Region.sinkB md ops n = true) (hc : Region.chainB md ops n = true) (hn : n < ops.size) {up : Array Bool} (inv : HeadInv md ops n up) {i j : Nat} (hin : i < n) (hi : i ∈ Region.ready md ops up) (hj : j ∈ Region.ready md ops up) : j < n := by
  rcases Nat.lt_or_ge j n with h | h
  · exact h
  · exact absurd hj (tail_waits hs hc hn inv _ i rfl hin (mem_ready.1 hi).1 j h)
theorem AheadQ.first {i : Nat} {oi : Oper} {v : Value} {T : Array Bool → Act → Prop} (hi : ops[i]? = some oi) (hsel : ∀ (j : Nat) (o : Oper) cs b, ops[j]? = some o → o.op ≠ .select cs b)
    (hs : Region.sinkB md ops n = true) (hc : Region.chainB md ops n = true) (hn : n < ops.size) (hin : i < n) (hT : ∀ up a, T up a → ∀ j, j ∈ Region.ready md ops up → n ≤ j) :
    ∀ (f : Nat) (up : Array Bool) (a : Act), HeadInv md ops n up →
      (∀ j oj, ops[j]? = some oj → j ≠ i → up.getD j true = false → (∀ e ∈ oj.after, Region.binds md e = true → e.on ≠ i) → oi.apart ops oj = true) →
      i ∈ Region.ready md ops up → YieldsIn P ops C oi v a → AheadQ P md ops C n T f (up.setIfInBounds i true) (a.put oi.dst v) → AheadQ P md ops C n T (f + 1) up a := by
  intro f
  induction f with
  | zero =>
    intro up a inv _ hr hy H
    refine ⟨List.ne_nil_of_mem hr, fun j hj => ⟨ready_ahead hs hc hn inv hin hr hj, ?_⟩⟩
    by_cases hji : j = i
    · subst hji; exact hy.qOp hi H
    · have h1 := hT _ _ H j (ready_mono hj hji)
      have h2 := ready_ahead hs hc hn inv hin hr hj
      omega
  | succ f ih =>
    intro up a inv hfree hr hy H
    refine ⟨List.ne_nil_of_mem hr, fun j hj => ?_⟩
    have hjn := ready_ahead hs hc hn inv hin hr hj
    refine ⟨hjn, ?_⟩
    by_cases hji : j = i
    · subst hji; exact hy.qOp hi H
    obtain ⟨hju, oj, hoj, hall⟩ := mem_ready.1 hj
    have hiu := (mem_ready.1 hr).1
    have hfj := hfree j oj hoj hji hju fun e he hb heq => by
      have h1 := hall e he hb
      rw [heq, getD_both hiu] at h1
      exact Bool.noConfusion h1
    have h2 := qOp_put hoj hfj (fun cs b => hsel i oi cs b hi) (fun cs b => hsel j oj cs b hoj) hy (H.2 j (ready_mono hj hji)).2
    refine qOp_mono (fun a' h3 => ih (up.setIfInBounds j true) a' (inv.set hj hjn) (fun k ok hk hki hku hno => ?_) (ready_mono hr (Ne.symm hji)) h3.1 ?_) h2
    · refine hfree k ok hk hki ?_ hno
      by_cases hjk : j = k
      · subst hjk; exact hju
      · rwa [getD_set_ne true hjk] at hku
    · rw [Array.setIfInBounds_comm _ _ hji]; exact h3.2
theorem AheadQ.lex {g : Nat} {R : Act → Prop} (hsel : Region.noSelect ops = true) (hs : Region.sinkB md ops n = true) (hc : Region.chainB md ops n = true) (hn : n < ops.size) :
    ∀ (l : List Oper) (k : Nat) (up : Array Bool) (a : Act), (∀ j, j < l.length → l[j]? = ops[k + j]?) → k + l.length = n → HeadInv md ops n up →
    Region.lexHead md ops g l.length k up = true → wpQuiet P ops C R l a → AheadQ P md ops C n (fun up' a' => Region.seqB md ops g n up' = true ∧ R a') l.length up a
  | [], k, up, a, _, hk, _, hB, h => by
    obtain rfl : k = n := by simpa using hk
    exact ⟨by simpa [Region.lexHead] using hB, h⟩
  | o :: l, k, up, a, hl, hk, inv, hB, h => by
    have h0 : ops[k]? = some o := by simpa using (hl 0 (by simp)).symm
    simp only [List.length_cons] at hk
    simp only [List.length_cons, Region.lexHead, Bool.and_eq_true] at hB
    have hr : k ∈ Region.ready md ops up := by simpa using hB.1.1
    have hq : qOp P ops C k (wpQuiet P ops C R l) a := by unfold qOp; simp only [h0]; exact h
    obtain ⟨v, hy, hK⟩ := yieldsIn_of_qOp h0 hq
    refine AheadQ.first h0 (Region.noSelect_spec hsel) hs hc hn (by omega) (fun up' a' hT => seqB_ready hT.1) l.length up a inv (Region.free_spec h0 hB.1.2) hr hy ?_
    refine AheadQ.lex hsel hs hc hn l (k + 1) _ _ (fun j hj => ?_) (by omega) (inv.set hr (by omega)) hB.2 hK
    have := hl (j + 1) (by simp; omega)
    simpa [Nat.add_assoc, Nat.add_comm 1 j] using this
/-- One operation without a guard, its value given outright. -/
theorem quiet_put {R : Act → Prop} {a : Act} {o : Oper} {rest : List Oper} (hg : o.guard = none) (v : Value) (hq : ∀ W, C W → o.quietAt P a C W v) (h : wpQuiet P ops C R rest (a.put o.dst v)) : wpQuiet P ops C R (o :: rest) a := by
  have hw : Region.wanted o (yielded ops a.tmps) = true := by simp [Region.wanted, hg]
  show if Region.wanted o (yielded ops a.tmps) then o.quiet P a C (wpQuiet P ops C R rest) else wpQuiet P ops C R rest (a.put o.dst undef)
  rw [hw]
  exact ⟨v, hq, h⟩
/-- All but the last operations are quiet in the class C, the last ones follow in whatever world of C. -/
theorem wp_region_quiet_tail {id : Nat} {Q : Exit → Act → World → Prop} {a : Act} {w : World} {l : List Oper} (C : World → Prop) (n : Nat) (hm : P.follows .mixedOrders = true) (hB : Region.lexTailB .any l.toArray n = true) (hC : C w.drew)
    (h : wpQuiet P l.toArray C (fun a' => ∀ w', C w' → wpList P l.toArray Q (l.drop n) a' w') (l.take n) a) : (Code.region id l.toArray true).wp P Q a w := by
  simp only [Region.lexTailB, Bool.and_eq_true, decide_eq_true_eq] at hB
  obtain ⟨⟨⟨⟨hsel, hn⟩, hs⟩, hc⟩, hlex⟩ := hB
  have hn' : n < l.length := by simpa using hn
  have ht : (l.take n).length = n := by rw [List.length_take]; omega
  have hd : (l.drop n).length = l.length - n := List.length_drop
  have inv : HeadInv .any l.toArray n (Array.replicate l.toArray.size false) :=
    ⟨by simp, fun j oj _ hl => (by rw [getD_replicate_false] at hl; exact Bool.noConfusion hl), fun t _ ht => getD_in (by simpa using ht) (getD_replicate_false _ _)⟩
  have H := AheadQ.lex (g := l.length - n) hsel hs hc hn (l.take n) 0 _ a (fun j hj => by
    rw [ht] at hj
    simp [hj]) (by omega) inv (by rw [ht]; simpa using hlex) h
  refine wp_region_any hm ?_
  have H2 := AheadQ.any (Q := Q) (g := l.length - n) (fun up a' w' hC' hT => by
    have := wpAny_of_seq (md := .any) (Q' := Q) (l.drop n) n up a' w' (fun j => by simp [List.getElem?_drop]) (by rw [hd]; exact hT.1) (hT.2 w' hC')
    rwa [hd] at this) _ _ _ w.drew hC H
  rw [ht] at H2
  have e : n + (l.length - n) = l.toArray.size := by simp; omega
  rwa [e] at H2
/-- All operations are quiet in the class C. -/
theorem wp_region_quiet_in {id : Nat} {Q : Exit → Act → World → Prop} {a : Act} {w : World} {l : List Oper} (C : World → Prop) (hm : P.follows .mixedOrders = true) (hB : Region.lexB .any l.toArray = true) (hC : C w.drew)
    (h : wpQuiet P l.toArray C (fun a' => ∀ w', C w' → Q .normal a' w') l a) : (Code.region id l.toArray true).wp P Q a w :=
  wp_region_quiet (C := C) hm hB hC (by simpa using h)
end
end Go.Proofs.Ytndlhmnablefpaa

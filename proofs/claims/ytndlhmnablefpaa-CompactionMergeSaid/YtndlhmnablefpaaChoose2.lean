/- What ref41.Choose answers. -/
import Derived.Test.YtndlhmnablefpaaChoose1
namespace Go.Proofs.Ytndlhmnablefpaa
open Go.RowKit
set_option linter.unusedSimpArgs false
set_option linter.unusedVariables false
def seg (xs : List Int) (i j : Nat) : List Int := (xs.take j).drop i
theorem seg_len (xs : List Int) {i j : Nat} (h : j ≤ xs.length) : (seg xs i j).length = j - i := by simp [seg]; omega
theorem bal_len {xs : List Int} (h : bal xs = true) : 2 ≤ xs.length := by
  unfold bal at h; simp at h; exact h.1
/-- The longest balanced range, the first of these. -/
inductive Best (xs : List Int) : Nat → Nat → Prop where
  | none (h : ∀ i j, j ≤ xs.length → bal (seg xs i j) = false) : Best xs 0 0
  | some (f t : Nat) (ht : t ≤ xs.length) (hb : bal (seg xs f t) = true) (h : ∀ i j, j ≤ xs.length → bal (seg xs i j) = true → j - i < t - f ∨ (j - i = t - f ∧ f ≤ i)) : Best xs f t
theorem Best.uniq {xs : List Int} {f t f' t' : Nat} (h : Best xs f t) (h' : Best xs f' t') : f = f' ∧ t = t' := by
  cases h with
  | none h =>
    cases h' with
    | none => exact ⟨rfl, rfl⟩
    | some _ _ ht hb _ => rw [h _ _ ht] at hb; cases hb
  | some _ _ ht hb h =>
    cases h' with
    | none h' => rw [h' _ _ ht] at hb; cases hb
    | some _ _ ht' hb' h' =>
      have h1 := h _ _ ht' hb'
      have h2 := h' _ _ ht hb
      have l1 := bal_len hb
      have l2 := bal_len hb'
      rw [seg_len _ ht] at l1
      rw [seg_len _ ht'] at l2
      omega
/-- l[i:j] -/
theorem sub_inv {w : World} {s : Sl Int} {b o : Nat} (h : kInt.Inv w s) (hA : s.A = some ⟨b, o, none⟩) (i j : Nat) (hij : i ≤ j) (hj : j ≤ s.xs.length) : kInt.Inv w ⟨some ⟨b, o + i, none⟩, s.cap - i, seg s.xs i j⟩ := by
  refine ⟨?_, Nat.le_trans (Nat.sub_le _ _) h.mx, (fun h => by cases h), fun hx => ⟨b, o + i, rfl, fun k x hk m u hu => ?_⟩, fun _ _ => trivial⟩
  · have := h.le
    show (seg s.xs i j).length ≤ _
    rw [seg_len _ hj]; simp only; omega
  · have hkl : k < (seg s.xs i j).length := (List.getElem?_eq_some_iff.1 hk).1
    rw [seg_len _ hj] at hkl
    obtain ⟨b', o', hA', hc⟩ := h.at' (by intro e; rw [e] at hj; simp at hj; omega)
    rw [hA] at hA'
    simp only [Option.some.injEq, Addr.mk.injEq, and_true] at hA'
    obtain ⟨rfl, rfl⟩ := hA'
    have h1 : s.xs[i + k]? = some x := by
      rw [seg, List.getElem?_drop, List.getElem?_take] at hk
      rw [if_pos (by omega)] at hk
      exact hk
    have := hc (i + k) x h1 m u hu
    rwa [show o + (i + k) * kInt.sz + m = o + i + k * kInt.sz + m by simp [kInt, Kd.flat]; omega] at this
theorem add_none (b o k : Nat) : (⟨b, o, none⟩ : Addr).add k = ⟨b, o + k, none⟩ := by
  unfold Addr.add; split
  · rename_i h; subst h; rfl
  · rfl
theorem balSub {w : World} {s : Sl Int} (h : kInt.Inv w s) (hs : Small s.xs) (k m : Nat) (hk : k + m ≤ s.xs.length) (h2 : 2 ≤ m) :
    Ans Try.prog 12 #[.slice (Option.map (fun x => x.add k) s.A) m (s.cap - k)] w (.bool (bal (seg s.xs k (k + m)))) := by
  obtain ⟨b, o, hA, _⟩ := h.at' (by intro e; rw [e] at hk; simp at hk; omega)
  have h1 := balanced_any ⟨some ⟨b, o + k, none⟩, s.cap - k, seg s.xs k (k + m)⟩ w (sub_inv h hA k (k + m) (by omega) hk) (hs.take _ _)
  have e1 : (#[.slice (some ⟨b, o + k, none⟩) (seg s.xs k (k + m)).length (s.cap - k)] : Array Value) = #[.slice (Option.map (fun x => x.add k) s.A) m (s.cap - k)] := by
    rw [seg_len s.xs hk, hA, Nat.add_sub_cancel_left, Option.map_some, add_none]
  exact e1 ▸ h1
/-- The walk's results behind a name. -/
def ChPost (w : World) (xs : List Int) (e : Ending) (w' : World) : Prop := ∃ f t : Nat, e = .returned (.tuple #[.int .i64 f, .int .i64 t]) ∧ Best xs f t ∧ Below w.heap.size w w'
theorem ret_pair {a b a' b' : Int} (h : a = a') (k : b = b') : Ending.returned (.tuple #[.int .i64 a, .int .i64 b]) = .returned (.tuple #[.int .i64 a', .int .i64 b']) := by rw [h, k]
set_option maxRecDepth 100000 in
set_option maxHeartbeats 1000000 in
theorem refChoose_any (s : Sl Int) (w : World) (h : kInt.Inv w s) (hs : Small s.xs) :
    Calls Try.prog 11 #[.slice s.A s.xs.length s.cap] w (ChPost w s.xs) := by
  have HI := Lib.hid h
  have HS := Lib.hid hs
  have hmx : s.xs.length ≤ 60 := hs.len
  have hcap := h.le
  clear h hs
  go_enter Try.func11, Try.ntmps11
  go_wp2_with fail
  go_loopw [4, 5] (fun n _ wr => ∃ (m : Nat), m ≤ s.xs.length ∧ n = .int .i64 m ∧ Hid (∀ i j, j ≤ s.xs.length → bal (seg s.xs i j) = true → j - i ≤ m) ∧ BW w wr) (fun n _ _ => (intOf n).toNat)
  case atStart => exact ⟨s.xs.length, Nat.le_refl _, rfl, fun i j hj _ => by omega, BW.refl w⟩
  case round =>
    obtain ⟨m, hm, rfl, HP, HB⟩ := hrel
    by_cases hlt : 2 ≤ m
    · have h2 : (2 : Int) ≤ (m : Int) := by omega
      go_wp2_with fail
      go_loopw [5] (fun i wq => ∃ (k : Nat), k + m ≤ s.xs.length + 1 ∧ i = .int .i64 k ∧ Hid (∀ i', i' < k → bal (seg s.xs i' (i' + m)) = false) ∧ BW w wq) (fun i _ => s.xs.length + 1 - (intOf i).toNat)
      case atStart => exact ⟨0, by omega, rfl, fun i' h => by omega, HB⟩
      case round =>
        clear HB
        obtain ⟨k, hk, rfl, HQ, HB⟩ := hrel
        by_cases hlk : k + m ≤ s.xs.length
        · have h3 : (k : Int) + (m : Int) ≤ (s.xs.length : Int) := by omega
          go_wp2_with fail
          have hcall := balSub (HI.out.below HB.out) HS.out k m hlk hlt
          go_wp2_with (refine (hcall).mono ?_; rintro e w1 ⟨rfl, hb1⟩; replace HB := BW.next hb1)
          case _ =>
            trace_state
            go_ret2
            exact ⟨k, k + m, ret_pair rfl (by simp), Best.some _ _ hlk ‹bal _ = true› (fun i j hj hb => by
              have h1 := HP.out i j hj hb
              rw [Nat.add_sub_cancel_left]
              rcases Nat.lt_or_ge (j - i) m with h | h
              · exact .inl h
              · refine .inr ⟨by omega, Nat.le_of_not_lt fun hik => ?_⟩
                have h4 := bal_len hb
                rw [seg_len _ hj] at h4
                have h5 := HQ.out i hik
                rw [show i + m = j by omega, hb] at h5
                cases h5), HB.out⟩
          case _ =>
            go_roundw
            case rel => exact ⟨k + 1, by omega, by go_num, fun i' hi' => by rcases Nat.lt_or_ge i' k with h | h; exact HQ.out i' h; rw [show i' = k by omega]; assumption, HB⟩
            case measure => simp [intOf]; omega
        · have h3 : ¬ (k : Int) + (m : Int) ≤ (s.xs.length : Int) := by omega
          go_wp2_with fail
          go_roundw
          case rel =>
            refine ⟨m - 1, by omega, by go_num, fun i j hj hb => ?_, HB⟩
            have h1 := HP.out i j hj hb
            have h4 := bal_len hb
            rw [seg_len _ hj] at h4
            rcases Nat.lt_or_ge (j - i) m with h | h
            · omega
            · have h5 := HQ.out i (by omega)
              rw [show i + m = j by omega, hb] at h5
              cases h5
          case measure => simp [intOf]; omega
    · have h2 : ¬ (2 : Int) ≤ (m : Int) := by omega
      go_wp2
      go_ret2
      exact ⟨0, 0, rfl, Best.none fun i j hj => Bool.eq_false_iff.2 fun hb => by
        have h1 := HP.out i j hj hb
        have h4 := bal_len hb
        rw [seg_len _ hj] at h4
        omega, HB.out⟩
end Go.Proofs.Ytndlhmnablefpaa

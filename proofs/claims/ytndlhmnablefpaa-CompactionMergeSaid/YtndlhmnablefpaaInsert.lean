/- One version after the other into a list in order: the plain law behind the reference's merge. No program in sight. -/
import Derived.Test.YtndlhmnablefpaaMerge
namespace Go.Proofs.Ytndlhmnablefpaa
open Go.RowKit
set_option linter.unusedSimpArgs false
set_option linter.unusedVariables false
/-- The first n are in order, no two in the same place. -/
def Strict (n : Nat) (ys : List Ver) : Prop := ∀ p q, p < q → q < n → before (el ys p).p (el ys q).p = true
/-- What has been merged so far. -/
structure Mg (done ys : List Ver) : Prop where
  perm : ys.Perm done
  strict : Strict ys.length ys
theorem Mg.nil : Mg [] [] := ⟨.refl _, fun p q _ h => by simp at h⟩
theorem before_trans {a b c : PVer} (h : before a b = true) (k : before b c = true) : before a c = true := by
  rw [before_iff] at *; omega
/-- v on its way down: behind place i all stand one place higher. -/
structure Gap (ys zs : List Ver) (v : Ver) (i : Nat) : Prop where
  len : zs.length = ys.length + 1
  hi : i ≤ ys.length
  lo : ∀ k, k < i → el zs k = el ys k
  up : ∀ k, i < k → k ≤ ys.length → el zs k = el ys (k - 1)
  less : ∀ k, i ≤ k → k < ys.length → before v.p (el ys k).p = true
theorem el_append_lt {ys zs : List Ver} {k : Nat} (h : k < ys.length) : el (ys ++ zs) k = el ys k := by
  simp [el, List.getD, List.getElem?_append_left h]
theorem Gap.start {ys : List Ver} (v : Ver) : Gap ys (ys ++ [v]) v ys.length :=
  ⟨by simp, Nat.le_refl _, fun k hk => el_append_lt hk, fun k h1 h2 => by omega, fun k h1 h2 => by omega⟩
theorem Gap.step {ys zs : List Ver} {v : Ver} {i : Nat} (h : Gap ys zs v i) (h0 : 0 < i) (hb : before v.p (el zs (i - 1)).p = true) : Gap ys (zs.set i (el zs (i - 1))) v (i - 1) := by
  have hl := h.len
  have hi := h.hi
  have hlt : i < zs.length := by omega
  refine ⟨by rw [List.length_set]; exact hl, by omega, fun k hk => ?_, fun k h1 h2 => ?_, fun k h1 h2 => ?_⟩
  · rw [el_set hlt, if_neg (by omega)]; exact h.lo k (by omega)
  · rw [el_set hlt]
    split
    · rename_i e; subst e; exact h.lo _ (by omega)
    · exact h.up k (by omega) h2
  · rcases Nat.lt_or_ge k i with h' | h'
    · rw [show k = i - 1 by omega, ← h.lo (i - 1) (by omega)]; exact hb
    · exact h.less k h' h2
theorem Gap.eq {ys zs : List Ver} {v : Ver} {i : Nat} (h : Gap ys zs v i) : zs.set i v = ys.take i ++ v :: ys.drop i := by
  have hl := h.len
  have hi := h.hi
  have hlt : i < zs.length := by omega
  have htl : (ys.take i).length = i := by rw [List.length_take]; omega
  refine List.ext_getElem (by simp; omega) fun k h1 h2 => ?_
  rw [List.length_set] at h1
  rw [el_at (xs := zs.set i v) (by rw [List.length_set]; exact h1), el_set hlt]
  rcases Nat.lt_trichotomy k i with h' | h' | h'
  · rw [if_neg (by omega), h.lo k h', List.getElem_append_left (by omega), List.getElem_take, el_at]
  · subst h'
    rw [if_pos rfl, List.getElem_append_right (by omega)]
    simp [htl]
  · rw [if_neg (by omega), h.up k h' (by omega), List.getElem_append_right (by omega), List.getElem_cons]
    simp only [htl]
    rw [dif_neg (by omega), List.getElem_drop, ← el_at (xs := ys) (i := k - 1) (by omega)]
    congr 1
    omega
theorem Gap.el {ys zs : List Ver} {v : Ver} {i : Nat} (h : Gap ys zs v i) (k : Nat) : Go.Proofs.Ytndlhmnablefpaa.el (zs.set i v) k = if k = i then v else Go.Proofs.Ytndlhmnablefpaa.el zs k := el_set (by have := h.len; have := h.hi; omega) v k
theorem Gap.perm {ys zs : List Ver} {v : Ver} {i : Nat} (h : Gap ys zs v i) : (zs.set i v).Perm (ys ++ [v]) := by
  rw [h.eq]
  refine List.perm_middle.trans ?_
  rw [List.take_append_drop]
  exact (List.perm_append_singleton v ys).symm
/-- v stands where it belongs. -/
theorem Gap.mg {done ys zs : List Ver} {v : Ver} {i : Nat} (h : Gap ys zs v i) (hm : Mg done ys) (hb : 0 < i → before (Go.Proofs.Ytndlhmnablefpaa.el zs (i - 1)).p v.p = true) : Mg (done ++ [v]) (zs.set i v) := by
  have hl := h.len
  have hi := h.hi
  refine ⟨h.perm.trans (hm.perm.append_right _), fun p q hpq hq => ?_⟩
  rw [List.length_set] at hq
  have hlast : ∀ p, p < i → before (Go.Proofs.Ytndlhmnablefpaa.el zs p).p v.p = true := fun p hp => by
    rcases Nat.lt_or_ge p (i - 1) with h' | h'
    · refine before_trans ?_ (hb (by omega))
      rw [h.lo p hp, h.lo (i - 1) (by omega)]
      exact hm.strict p (i - 1) h' (by omega)
    · rw [show p = i - 1 by omega]; exact hb (by omega)
  rw [h.el, h.el]
  rcases Nat.lt_trichotomy q i with h' | h' | h'
  · rw [if_neg (by omega), if_neg (by omega), h.lo p (by omega), h.lo q h']
    exact hm.strict p q hpq (by omega)
  · rw [if_neg (by omega), if_pos h']; exact hlast p (by omega)
  · rw [if_neg (show ¬ q = i by omega), h.up q h' (by omega)]
    rcases Nat.lt_trichotomy p i with h'' | h'' | h''
    · rw [if_neg (by omega), h.lo p h'']; exact hm.strict p (q - 1) (by omega) (by omega)
    · rw [if_pos h'']; exact h.less _ (by omega) (by omega)
    · rw [if_neg (by omega), h.up p h'' (by omega)]; exact hm.strict _ _ (by omega) (by omega)
/-- Neither comes ahead of the other: they have the same place. -/
theorem ord_none {a b : PVer} (h : before a b = false) (k : before b a = false) : ord a b = 0 := by
  rw [← Bool.not_eq_true, before_iff] at h k
  rw [ord_iff]; omega
theorem Gap.twice {done ys zs : List Ver} {v : Ver} {i : Nat} (h : Gap ys zs v i) (hm : Mg done ys) (h0 : 0 < i) (h1 : before v.p (Go.Proofs.Ytndlhmnablefpaa.el zs (i - 1)).p = false) (h2 : before (Go.Proofs.Ytndlhmnablefpaa.el zs (i - 1)).p v.p = false) (rest : List Ver) : ¬ Distinct (pv (done ++ v :: rest)) := by
  have hi := h.hi
  intro hd
  have hmem : Go.Proofs.Ytndlhmnablefpaa.el zs (i - 1) ∈ done := by
    rw [h.lo (i - 1) (by omega), ← el_at (by omega)]
    exact hm.perm.subset (List.getElem_mem _)
  unfold Distinct pv at hd
  rw [List.map_append, List.map_cons, List.pairwise_append] at hd
  exact hd.2.2 _ (List.mem_map_of_mem hmem) _ (List.mem_cons_self ..) (ord_none h2 h1)
theorem Mg.sorted {done ys : List Ver} (h : Mg done ys) : (pv ys).Pairwise fun x y => before x y = true := by
  rw [List.pairwise_iff_getElem]
  intro i j hi hj hij
  rw [pv_at, pv_at]
  exact h.strict i j hij (by rwa [pv_len] at hj)
end Go.Proofs.Ytndlhmnablefpaa

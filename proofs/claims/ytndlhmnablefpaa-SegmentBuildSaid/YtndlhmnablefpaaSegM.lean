/- Small facts that the walks of the segment lean on: names, one and two versions, blocks as elements. No function in sight. -/
import Derived.Test.YtndlhmnablefpaaSegP
import Derived.Test.YtndlhmnablefpaaRec2
import Derived.Test.YtndlhmnablefpaaClone
namespace Go.Proofs.Ytndlhmnablefpaa
open Go.RowKit
set_option linter.unusedSimpArgs false
set_option linter.unusedVariables false
def okChar (c : UInt8) : Bool := nameChar c || digit c
theorem digit_char {c : UInt8} (h : digit c = true) : nameChar c = false := by
  unfold digit nameChar at *
  simp only [Bool.and_eq_true, decide_eq_true_eq] at h
  simp only [Bool.or_eq_false_iff, beq_eq_false_iff_ne, Bool.and_eq_false_iff, decide_eq_false_iff_not]
  omega
theorem okName_nil : okName [] = false := rfl
theorem okName_long {l : List UInt8} (h : 24 < l.length) : okName l = false := by
  cases l with
  | nil => rfl
  | cons c t =>
    unfold okName
    have : decide ((c :: t).length ≤ 24) = false := by rw [decide_eq_false_iff_not]; omega
    simp only [this, Bool.false_and]
theorem okName_digit {l : List UInt8} (h0 : 0 < l.length) (h : digit l[0] = true) : okName l = false := by
  cases l with
  | nil => rfl
  | cons c t =>
    unfold okName
    simp only [digit_char (c := c) h, Bool.false_and, Bool.and_false]
theorem okName_all {l : List UInt8} (h0 : 0 < l.length) (h1 : l.length ≤ 24) (h : digit l[0] = false) : okName l = l.all okChar := by
  cases l with
  | nil => simp at h0
  | cons c t =>
    have h' : digit c = false := h
    have : decide ((c :: t).length ≤ 24) = true := decide_eq_true h1
    unfold okName
    simp only [this, Bool.true_and, List.all_cons, okChar, h', Bool.or_false]
    rfl
theorem enc_one (v : PVer) : (encodeVers [v]).2 = if okVer v = true then 0 else 8 := by
  unfold encodeVers
  rw [if_neg (by simp)]
  have hc : chk okVer none [v] = if okVer v = true then 0 else 8 := by
    rw [chk_cons]
    cases okVer v <;> simp [ahead, chk]
  rw [hc]
  cases h : okVer v with
  | false => simp
  | true =>
    have h1 := encVer_len h
    have h2 := encInt_len (I64.nat (n := 1) (by omega))
    have : (encVers [v]).length = (encInt ((1 : Nat) : Int)).length + (encVer v).length := by simp [encVers]
    rw [if_neg (by simp), if_neg (by omega)]
    rfl
theorem enc_two {u v : PVer} (hu : okVer u = true) (hv : okVer v = true) : (encodeVers [u, v]).2 = if before u v = true then 0 else 9 := by
  unfold encodeVers
  rw [if_neg (by simp)]
  have hc : chk okVer none [u, v] = if before u v = true then 0 else 9 := by
    rw [chk_cons, chk_cons]
    cases h : before u v <;> simp [ahead, chk, hu, hv, h]
  rw [hc]
  cases h : before u v with
  | false => simp
  | true =>
    have h1 := encVer_len hu
    have h3 := encVer_len hv
    have h2 := encInt_len (I64.nat (n := 2) (by omega))
    have : (encVers [u, v]).length = (encInt ((2 : Nat) : Int)).length + ((encVer u).length + (encVer v).length) := by simp [encVers]
    rw [if_neg (by simp), if_neg (by omega)]
    rfl
def Rc.cells (r : Rc) : List Value := [.int .i64 r.vf, .int .i64 r.vt, .int .i64 r.sf, .int .i64 r.st]
/-- Blocks as elements: the bounding rectangle, the versions. -/
def kBlc : Kd (Sl Ver) where
  sz := 5
  cells x := (bnd (pv x.xs)).cells ++ [.slice x.A x.xs.length x.cap]
  foot x := x.foot kVer
  inv w x := kVer.Inv w x
  pos := by decide
  hsz _ := rfl
  one x v h := by simp [Rc.cells] at h; rcases h with rfl | rfl | rfl | rfl | rfl <;> rfl
  lt w x h := h.lt
  move w w' x h hm := h.move hm
theorem blc_at {w : World} {s : Sl (Sl Ver)} (h : kBlc.Inv w s) (i : Nat) (hi : i < s.xs.length) : ∃ b o, s.A = some ⟨b, o, none⟩ ∧ b < w.heap.size ∧ w.cell? ⟨b, o + i * 5, none⟩ = some (.int .i64 (bnd (pv s.xs[i].xs)).vf) ∧ w.cell? ⟨b, o + i * 5 + 1, none⟩ = some (.int .i64 (bnd (pv s.xs[i].xs)).vt) ∧ w.cell? ⟨b, o + i * 5 + 2, none⟩ = some (.int .i64 (bnd (pv s.xs[i].xs)).sf) ∧ w.cell? ⟨b, o + i * 5 + 3, none⟩ = some (.int .i64 (bnd (pv s.xs[i].xs)).st) ∧ w.cell? ⟨b, o + i * 5 + 4, none⟩ = some (.slice s.xs[i].A s.xs[i].xs.length s.xs[i].cap) ∧ kVer.Inv w s.xs[i] := by
  obtain ⟨b, o, hA, hb, hc, hr⟩ := h.get i hi
  exact ⟨b, o, hA, hb, hc 0 _ rfl, hc 1 _ rfl, hc 2 _ rfl, hc 3 _ rfl, hc 4 _ rfl, hr⟩
/-- The data of blocks. -/
def bl (s : List (Sl Ver)) : List (List PVer) := s.map fun x => pv x.xs
theorem pv_drop (l : List Ver) (k : Nat) : pv (l.drop k) = (pv l).drop k := by simp [pv]
theorem pv_take' (l : List Ver) (k : Nat) : pv (l.take k) = (pv l).take k := by simp [pv]
theorem bl_flat (l : List (Sl Ver)) : (bl l).flatten = pv (l.flatMap (·.xs)) := by
  induction l with
  | nil => rfl
  | cons x t ih => simp only [bl, List.map_cons, List.flatten_cons, List.flatMap_cons] at *; rw [ih]; simp [pv]
theorem bl_append (a b : List (Sl Ver)) : bl (a ++ b) = bl a ++ bl b := by simp [bl]
theorem bl_len (a : List (Sl Ver)) : (bl a).length = a.length := by simp [bl]
/-- The block ahead. -/
theorem cut_next {n : Nat} (hn : 0 < n) {xs : List PVer} {k : Nat} (hk : k < xs.length) : chunks n (xs.drop k) = ((xs.drop k).take n) :: chunks n (xs.drop (k + n)) := by
  rw [chunks_cons hn (by intro e; have := congrArg List.length e; rw [List.length_drop, List.length_nil] at this; omega), List.drop_drop]
theorem cut_end {n : Nat} {xs : List PVer} {k : Nat} (hk : xs.length ≤ k) : chunks n (xs.drop k) = [] := by rw [List.drop_of_length_le hk, chunks_nil]
end Go.Proofs.Ytndlhmnablefpaa

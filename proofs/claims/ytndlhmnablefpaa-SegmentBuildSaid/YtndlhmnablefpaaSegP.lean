/- A segment's file as plain lists: what is built, what is opened, what a search finds. No program in sight. -/
import Derived.Test.YtndlhmnablefpaaDec
namespace Go.Proofs.Ytndlhmnablefpaa
open Go.RowKit
set_option linter.unusedSimpArgs false
set_option linter.unusedVariables false
/-- A rectangle: valid from, to; system from, to. -/
structure Rc where
  vf : Int
  vt : Int
  sf : Int
  st : Int
def rc (v : PVer) : Rc := ⟨v.vf, v.vt, v.sf, v.st⟩
def joinR (a b : Rc) : Rc := ⟨min a.vf b.vf, max a.vt b.vt, min a.sf b.sf, max a.st b.st⟩
/-- The bounding rectangle of versions, of which there is at least one. -/
def bnd : List PVer → Rc
  | [] => ⟨0, 0, 0, 0⟩
  | v :: l => (v :: l).foldl (fun r x => joinR r (rc x)) (rc v)
def chunksF {α : Type} (n : Nat) : Nat → List α → List (List α)
  | 0, _ => []
  | f + 1, l => if l = [] then [] else l.take n :: chunksF n f (l.drop n)
/-- A list in pieces of n. -/
def chunks {α : Type} (n : Nat) (l : List α) : List (List α) := chunksF n l.length l
theorem chunksF_nil {α : Type} (n f : Nat) : chunksF n f ([] : List α) = [] := by cases f <;> simp [chunksF]
theorem chunksF_more {α : Type} {n : Nat} (hn : 0 < n) : ∀ (f : Nat) (l : List α), l.length ≤ f → chunksF n f l = chunks n l
  | 0, l, h => by
    obtain rfl : l = [] := List.eq_nil_of_length_eq_zero (by omega)
    rfl
  | f + 1, l, h => by
    by_cases hl : l = []
    · subst hl; simp [chunks, chunksF]
    · have h0 := List.length_pos_iff.2 hl
      rw [chunks, show l.length = (l.length - 1) + 1 by omega, chunksF, chunksF, if_neg hl, if_neg hl, chunksF_more hn f _ (by rw [List.length_drop]; omega), chunksF_more hn (l.length - 1) _ (by rw [List.length_drop]; omega)]
theorem chunks_nil {α : Type} (n : Nat) : chunks n ([] : List α) = [] := rfl
theorem chunks_cons {α : Type} {n : Nat} (hn : 0 < n) {l : List α} (hl : l ≠ []) : chunks n l = l.take n :: chunks n (l.drop n) := by
  have h0 := List.length_pos_iff.2 hl
  rw [chunks, show l.length = (l.length - 1) + 1 by omega, chunksF, if_neg hl, chunksF_more hn (l.length - 1) _ (by rw [List.length_drop]; omega)]
theorem chunks_flat {α : Type} {n : Nat} (hn : 0 < n) : ∀ (f : Nat) (l : List α), l.length ≤ f → (chunks n l).flatten = l
  | 0, l, h => by
    obtain rfl : l = [] := List.eq_nil_of_length_eq_zero (by omega)
    rfl
  | f + 1, l, h => by
    by_cases hl : l = []
    · subst hl; rfl
    · have h0 := List.length_pos_iff.2 hl
      rw [chunks_cons hn hl, List.flatten_cons, chunks_flat hn f _ (by rw [List.length_drop]; omega), List.take_append_drop]
theorem chunks_len {α : Type} {n : Nat} (hn : 0 < n) : ∀ (f : Nat) (l : List α), l.length ≤ f → (chunks n l).length = (l.length + n - 1) / n
  | 0, l, h => by
    obtain rfl : l = [] := List.eq_nil_of_length_eq_zero (by omega)
    rw [chunks_nil, List.length_nil, List.length_nil, Nat.div_eq_of_lt (by omega)]
  | f + 1, l, h => by
    by_cases hl : l = []
    · subst hl; rw [chunks_nil, List.length_nil, List.length_nil, Nat.div_eq_of_lt (by omega)]
    · have h0 := List.length_pos_iff.2 hl
      rw [chunks_cons hn hl, List.length_cons, chunks_len hn f _ (by rw [List.length_drop]; omega), List.length_drop]
      rcases Nat.lt_or_ge l.length n with h1 | h1
      · rw [show l.length - n + n - 1 = n - 1 by omega, Nat.div_eq_of_lt (by omega), show l.length + n - 1 = (l.length - 1) + n by omega, Nat.add_div_right _ hn, Nat.div_eq_of_lt (by omega)]
      · rw [show l.length + n - 1 = (l.length - n + n - 1) + n by omega, Nat.add_div_right _ hn]
theorem chunks_ne {α : Type} {n : Nat} (hn : 0 < n) : ∀ (f : Nat) (l : List α), l.length ≤ f → ∀ x, x ∈ chunks n l → x ≠ [] ∧ x.length ≤ n ∧ x.length ≤ l.length
  | 0, l, h, x, hx => by
    obtain rfl : l = [] := List.eq_nil_of_length_eq_zero (by omega)
    simp [chunks, chunksF] at hx
  | f + 1, l, h, x, hx => by
    by_cases hl : l = []
    · subst hl; simp [chunks, chunksF] at hx
    · have h0 := List.length_pos_iff.2 hl
      rw [chunks_cons hn hl] at hx
      rcases List.mem_cons.1 hx with rfl | hx
      · refine ⟨fun e => ?_, by rw [List.length_take]; omega, by rw [List.length_take]; omega⟩
        have := congrArg List.length e
        rw [List.length_take, List.length_nil] at this
        omega
      · obtain ⟨h1, h2, h3⟩ := chunks_ne hn f (l.drop n) (by rw [List.length_drop]; omega) x hx
        rw [List.length_drop] at h3
        exact ⟨h1, h2, by omega⟩
/-- A closed version that may be stored. -/
def okStored (v : PVer) : Bool := okVer v && v.st != 1099511627776
def nameChar (c : UInt8) : Bool := c.toNat == 95 || (decide (97 ≤ c.toNat) && decide (c.toNat ≤ 122))
def digit (c : UInt8) : Bool := decide (48 ≤ c.toNat) && decide (c.toNat ≤ 57)
/-- A name: 1 to 24 letters, digits and underscores, no digit ahead. -/
def okName (s : List UInt8) : Bool := match s with
  | [] => false
  | c :: t => decide (s.length ≤ 24) && (nameChar c && t.all fun c => nameChar c || digit c)
def encRc (r : Rc) : List UInt8 := encPer r.vf r.vt ++ encPer r.sf r.st
/-- The body of the first frame. -/
def encHead (table : List UInt8) (n : Nat) (blocks : List (List PVer)) : List UInt8 := encText table ++ (encInt n ++ (encInt blocks.length ++ blocks.flatMap fun x => encRc (bnd x)))
/-- The frames of the blocks behind what is there. -/
def encBlocks : List (List PVer) → List UInt8 → List UInt8 × Int
  | [], out => (out, 0)
  | x :: t, out => if (encodeVers x).2 ≠ 0 then ([], (encodeVers x).2) else encBlocks t (out ++ frameOf (encodeVers x).1)
/-- The file of a segment, or the error. -/
def segBuild (table : List UInt8) (l : List PVer) (size : Int) : List UInt8 × Int :=
  if okName table = false then ([], 8) else if size < 1 ∨ 4096 < size then ([], 6) else if chk okStored none l ≠ 0 then ([], chk okStored none l)
  else if 1048576 < (encHead table l.length (chunks size.toNat l)).length then ([], 5)
  else encBlocks (chunks size.toNat l) (frameOf (encHead table l.length (chunks size.toNat l)))
/-- n pairs of periods. -/
def dPers (b : List UInt8) : Nat → Nat → Except Int Nat
  | 0, p => .ok p
  | n + 1, p => match dPer b p with
    | .error e => .error e
    | .ok (_, k) => match dPer b k with
      | .error e => .error e
      | .ok (_, k') => dPers b n k'
/-- The name of the table and the number of blocks of a first body. -/
def dHead (b : List UInt8) : Except Int (List UInt8 × Nat) :=
  match dText b 0 200 with
  | .error e => .error e
  | .ok (t, p) => match dInt b p with
    | .error e => .error e
    | .ok (n, k) => if n < 0 then .error 1 else match dInt b k with
      | .error e => .error e
      | .ok (m, k') => if m < 0 then .error 1 else match dPers b m.toNat k' with
        | .error e => .error e
        | .ok q => if q < b.length then .error 3 else .ok (t, m.toNat)
/-- The blocks behind p. -/
def dBlocks (b : List UInt8) : Nat → Nat → List (List PVer) → Rd (List (List PVer))
  | 0, p, acc => .ok (acc, p)
  | n + 1, p, acc => match dFrame b p with
    | .error e => .error e
    | .ok (x, k) => match decVers x with
      | .error e => .error e
      | .ok l => dBlocks b n k (acc ++ [l])
def sizeOfBlocks (bl : List (List PVer)) : Nat := match bl with
  | [] => 1
  | x :: _ => max 1 x.length
/-- The table and the blocks of a segment's file, or the error. -/
def segOpen (b : List UInt8) : Except Int (List UInt8 × List (List PVer)) :=
  match dFrame b 0 with
  | .error e => .error e
  | .ok (h, p) => match dHead h with
    | .error e => .error e
    | .ok (t, n) => match dBlocks b n p [] with
      | .error e => .error e
      | .ok (bl, q) => if q < b.length then .error 3 else if segBuild t bl.flatten (sizeOfBlocks bl) = (b, 0) then .ok (t, bl) else .error 24
end Go.Proofs.Ytndlhmnablefpaa
/-! What is built as a segment's file is opened as what was built. No program in sight. -/
namespace Go.Proofs.Ytndlhmnablefpaa
open Go.RowKit
set_option linter.unusedSimpArgs false
set_option linter.unusedVariables false
theorem encodeVers_eq {x : List PVer} (h : (encodeVers x).2 = 0) : x.length ≤ 4096 ∧ chk okVer none x = 0 ∧ (encVers x).length ≤ 1048576 ∧ encodeVers x = (encVers x, 0) := by
  unfold encodeVers at *
  by_cases h1 : 4096 < x.length
  · rw [if_pos h1] at h; simp at h
  rw [if_neg h1] at h ⊢
  by_cases h2 : chk okVer none x ≠ 0
  · rw [if_pos h2] at h; exact absurd h h2
  rw [if_neg h2] at h ⊢
  by_cases h3 : 1048576 < (encVers x).length
  · rw [if_pos h3] at h; simp at h
  rw [if_neg h3]
  exact ⟨by omega, by simpa using h2, by omega, rfl⟩
theorem encBlocks_ok : ∀ {bl : List (List PVer)} {out b : List UInt8}, encBlocks bl out = (b, 0) → b = out ++ (bl.flatMap fun x => frameOf (encVers x)) ∧ ∀ x, x ∈ bl → (encodeVers x).2 = 0
  | [], out, b, h => by
    simp only [encBlocks, Prod.mk.injEq, and_true] at h
    exact ⟨by simp [h], fun x hx => by simp at hx⟩
  | x :: t, out, b, h => by
    rw [encBlocks] at h
    by_cases hx : (encodeVers x).2 = 0
    · rw [if_neg (by simpa using hx)] at h
      obtain ⟨h1, h2⟩ := encBlocks_ok h
      rw [(encodeVers_eq hx).2.2.2] at h1
      refine ⟨by rw [h1, List.flatMap_cons, List.append_assoc], fun y hy => ?_⟩
      rcases List.mem_cons.1 hy with rfl | hy
      · exact hx
      · exact h2 y hy
    · rw [if_pos hx] at h
      simp only [Prod.mk.injEq] at h
      exact absurd h.2 hx
theorem dBlocks_ok {b : List UInt8} : ∀ (bl : List (List PVer)) (p : Nat) (acc : List (List PVer)), HoldsAt b p (bl.flatMap fun x => frameOf (encVers x)) → (∀ x, x ∈ bl → (encodeVers x).2 = 0) → dBlocks b bl.length p acc = .ok (acc ++ bl, p + (bl.flatMap fun x => frameOf (encVers x)).length)
  | [], p, acc, _, _ => by simp [dBlocks]
  | x :: t, p, acc, h, hx => by
    rw [List.flatMap_cons] at h ⊢
    obtain ⟨h1, h2, h3, _⟩ := encodeVers_eq (hx x (by simp))
    rw [List.length_cons, dBlocks, h.left.frame h3]
    simp only
    rw [decVers_enc h1 h2 h3]
    simp only
    rw [dBlocks_ok t _ _ h.right fun y hy => hx y (by simp [hy])]
    simp [Nat.add_assoc]
structure RcOk (r : Rc) : Prop where
  v : okPer r.vf r.vt = true
  s : okPer r.sf r.st = true
theorem okPer_iff (a b : Int) : okPer a b = true ↔ 0 ≤ a ∧ a < b ∧ b ≤ 1099511627776 := by
  unfold okPer
  simp only [Bool.and_eq_true, decide_eq_true_eq]
theorem RcOk.join {a b : Rc} (h : RcOk a) (k : RcOk b) : RcOk (joinR a b) := by
  obtain ⟨h1, h2⟩ := h
  obtain ⟨k1, k2⟩ := k
  rw [okPer_iff] at h1 h2 k1 k2
  refine ⟨(okPer_iff _ _).2 ?_, (okPer_iff _ _).2 ?_⟩ <;> simp only [joinR] <;> omega
theorem rc_ok {v : PVer} (h : okVer v = true) : RcOk (rc v) := by
  unfold okVer at h
  simp only [Bool.and_eq_true] at h
  exact ⟨h.2.2.2.2.1, h.2.2.2.2.2.1⟩
theorem fold_ok : ∀ (l : List PVer) (r : Rc), RcOk r → (∀ v, v ∈ l → okVer v = true) → RcOk (l.foldl (fun r x => joinR r (rc x)) r)
  | [], r, h, _ => h
  | v :: l, r, h, hl => fold_ok l _ (h.join (rc_ok (hl v (by simp)))) fun x hx => hl x (by simp [hx])
theorem bnd_ok {l : List PVer} (h0 : l ≠ []) (h : ∀ v, v ∈ l → okVer v = true) : RcOk (bnd l) := by
  cases l with
  | nil => exact absurd rfl h0
  | cons v l => exact fold_ok _ _ (rc_ok (h v (by simp))) h
theorem dPers_ok {b : List UInt8} : ∀ (bl : List (List PVer)) (p : Nat), HoldsAt b p (bl.flatMap fun x => encRc (bnd x)) → (∀ x, x ∈ bl → RcOk (bnd x)) → dPers b bl.length p = .ok (p + (bl.flatMap fun x => encRc (bnd x)).length)
  | [], p, _, _ => by simp [dPers]
  | x :: t, p, h, hx => by
    rw [List.flatMap_cons] at h ⊢
    obtain ⟨h1, h2⟩ := hx x (by simp)
    have h3 := h.left
    unfold encRc at h3
    rw [List.length_cons, dPers, h3.left.per h1]
    simp only
    rw [h3.right.per h2]
    simp only
    have h4 := h.right
    rw [show p + (encPer (bnd x).vf (bnd x).vt).length + (encPer (bnd x).sf (bnd x).st).length = p + (encRc (bnd x)).length by simp [encRc, Nat.add_assoc], dPers_ok t _ h4 fun y hy => hx y (by simp [hy])]
    simp [Nat.add_assoc]
theorem okName_len {t : List UInt8} (h : okName t = true) : t.length ≤ 24 := by
  unfold okName at h
  split at h
  · simp at h
  · simp only [Bool.and_eq_true, decide_eq_true_eq] at h; exact h.1
theorem dHead_ok {t : List UInt8} {n : Nat} {bl : List (List PVer)} (ht : t.length ≤ 24) (hn : n ≤ 1000000000) (hb : bl.length ≤ 1000000000) (hx : ∀ x, x ∈ bl → RcOk (bnd x)) : dHead (encHead t n bl) = .ok (t, bl.length) := by
  have h : HoldsAt (encHead t n bl) 0 (encText t ++ (encInt n ++ (encInt bl.length ++ bl.flatMap fun x => encRc (bnd x)))) := ⟨[], [], by simp [encHead], rfl⟩
  have hl : (encHead t n bl).length = (encText t).length + ((encInt n).length + ((encInt bl.length).length + (bl.flatMap fun x => encRc (bnd x)).length)) := by simp [encHead]
  unfold dHead
  rw [h.left.text 200 (by omega) (by omega)]
  simp only
  rw [h.right.left.int (I64.nat (by omega))]
  simp only
  rw [if_neg (by omega), h.right.right.left.int (I64.nat (by omega))]
  simp only
  rw [if_neg (by omega), Int.toNat_natCast, dPers_ok bl _ h.right.right.right hx]
  simp only
  rw [if_neg (by omega)]
theorem chunks_same {l : List PVer} {n : Nat} (hn : 0 < n) : chunks (sizeOfBlocks (chunks n l)) l = chunks n l ∧ 1 ≤ sizeOfBlocks (chunks n l) ∧ sizeOfBlocks (chunks n l) ≤ n := by
  by_cases hl : l = []
  · subst hl
    exact ⟨rfl, by simp [chunks_nil, sizeOfBlocks], by simp [chunks_nil, sizeOfBlocks]; omega⟩
  · have h0 := List.length_pos_iff.2 hl
    have h1 : sizeOfBlocks (chunks n l) = min n l.length := by
      rw [chunks_cons hn hl]
      simp only [sizeOfBlocks, List.length_take]
      omega
    rw [h1]
    refine ⟨?_, by omega, by omega⟩
    rcases Nat.lt_or_ge l.length n with h | h
    · rw [Nat.min_eq_right (by omega), chunks_cons h0 hl, chunks_cons hn hl, List.take_of_length_le (Nat.le_refl _), List.take_of_length_le (by omega), List.drop_of_length_le (Nat.le_refl _), List.drop_of_length_le (by omega), chunks_nil, chunks_nil]
    · rw [Nat.min_eq_left h]
theorem chk_mono {ok ok' : PVer → Bool} (hk : ∀ v, ok v = true → ok' v = true) : ∀ (l : List PVer) (p : Option PVer), chk ok p l = 0 → chk ok' p l = 0
  | [], _, _ => rfl
  | v :: l, p, h => by
    rw [chk_cons] at h ⊢
    by_cases h1 : ok v = false
    · rw [if_pos h1] at h; simp at h
    rw [if_neg h1] at h
    by_cases h2 : ahead p v = false
    · rw [if_pos h2] at h; simp at h
    rw [if_neg h2] at h
    rw [if_neg (by rw [hk v (by simpa using h1)]; simp), if_neg h2]
    exact chk_mono hk l _ h
theorem okStored_ok {v : PVer} (h : okStored v = true) : okVer v = true := by
  unfold okStored at h
  simp only [Bool.and_eq_true] at h
  exact h.1
/-- What a file that was built tells. -/
structure Built (t : List UInt8) (l : List PVer) (size : Int) (b : List UInt8) : Prop where
  name : okName t = true
  lo : 1 ≤ size
  hi : size ≤ 4096
  chk : chk okStored none l = 0
  head : (encHead t l.length (chunks size.toNat l)).length ≤ 1048576
  body : b = frameOf (encHead t l.length (chunks size.toNat l)) ++ ((chunks size.toNat l).flatMap fun x => frameOf (encVers x))
  fine : ∀ x, x ∈ chunks size.toNat l → (encodeVers x).2 = 0
theorem segBuild_ok {t : List UInt8} {l : List PVer} {size : Int} {b : List UInt8} (h : segBuild t l size = (b, 0)) : Built t l size b := by
  unfold segBuild at h
  by_cases h1 : okName t = false
  · rw [if_pos h1] at h; simp at h
  rw [if_neg h1] at h
  by_cases h2 : size < 1 ∨ 4096 < size
  · rw [if_pos h2] at h; simp at h
  rw [if_neg h2] at h
  by_cases h3 : chk okStored none l ≠ 0
  · rw [if_pos h3] at h
    simp only [Prod.mk.injEq] at h
    exact absurd h.2 h3
  rw [if_neg h3] at h
  by_cases h4 : 1048576 < (encHead t l.length (chunks size.toNat l)).length
  · rw [if_pos h4] at h; simp at h
  rw [if_neg h4] at h
  obtain ⟨h5, h6⟩ := encBlocks_ok h
  exact ⟨by simpa using h1, by omega, by omega, by simpa using h3, by omega, h5, h6⟩
theorem Built.okAll {t : List UInt8} {l : List PVer} {size : Int} {b : List UInt8} (h : Built t l size b) : ∀ v, v ∈ l → okVer v = true := fun v hv => okStored_ok (chk_all l none h.chk v hv)
theorem Built.rects {t : List UInt8} {l : List PVer} {size : Int} {b : List UInt8} (h : Built t l size b) : ∀ x, x ∈ chunks size.toNat l → RcOk (bnd x) := fun x hx => by
  have hn : 0 < size.toNat := by have := h.lo; omega
  refine bnd_ok (chunks_ne hn _ l (Nat.le_refl _) x hx).1 fun v hv => h.okAll v ?_
  rw [← chunks_flat hn _ l (Nat.le_refl _)]
  exact List.mem_flatten.2 ⟨x, hx, hv⟩
/-- A built file is opened as what was built. -/
theorem segOpen_build {t : List UInt8} {l : List PVer} {size : Int} {b : List UInt8} (h : segBuild t l size = (b, 0)) (hl : l.length ≤ 1000000) : segOpen b = .ok (t, chunks size.toNat l) := by
  have hB := segBuild_ok h
  have hn : 0 < size.toNat := by have := hB.lo; omega
  have hcl : (chunks size.toNat l).length ≤ 1000000000 := by
    rw [chunks_len hn _ l (Nat.le_refl _)]
    exact Nat.le_trans (Nat.div_le_self _ _) (by have := hB.hi; omega)
  have hH : HoldsAt b 0 (frameOf (encHead t l.length (chunks size.toNat l)) ++ ((chunks size.toNat l).flatMap fun x => frameOf (encVers x))) := ⟨[], [], by rw [hB.body]; simp, rfl⟩
  unfold segOpen
  rw [hH.left.frame hB.head]
  simp only
  rw [dHead_ok (okName_len hB.name) (by omega) hcl hB.rects]
  simp only
  rw [dBlocks_ok _ _ _ hH.right hB.fine]
  simp only [List.nil_append]
  obtain ⟨e1, e2, e3⟩ := chunks_same (l := l) hn
  have hi := hB.hi
  have e4 : segBuild t l ((sizeOfBlocks (chunks size.toNat l) : Nat) : Int) = (b, 0) := by
    rw [← h]
    unfold segBuild
    rw [Int.toNat_natCast, e1, if_neg (show ¬ (((sizeOfBlocks (chunks size.toNat l) : Nat) : Int) < 1 ∨ 4096 < ((sizeOfBlocks (chunks size.toNat l) : Nat) : Int)) by omega), if_neg (show ¬ (size < 1 ∨ 4096 < size) by have := hB.lo; omega)]
  rw [if_neg (by rw [hB.body]; simp), chunks_flat hn _ l (Nat.le_refl _), if_pos e4]
end Go.Proofs.Ytndlhmnablefpaa
/-! What a search in a segment finds; that it does not depend on the blocks; files whose end is missing. No program in sight. -/
namespace Go.Proofs.Ytndlhmnablefpaa
open Go.RowKit
set_option linter.unusedSimpArgs false
set_option linter.unusedVariables false
def okRc (r : Rc) : Bool := okPer r.vf r.vt && okPer r.sf r.st
/-- Two rectangles have a point in common. -/
def over (a b : Rc) : Bool := okRc a && (okRc b && (decide (a.vf < b.vt) && (decide (b.vf < a.vt) && (decide (a.sf < b.st) && decide (b.sf < a.st)))))
theorem okRc_iff (r : Rc) : okRc r = true ↔ (0 ≤ r.vf ∧ r.vf < r.vt ∧ r.vt ≤ 1099511627776) ∧ (0 ≤ r.sf ∧ r.sf < r.st ∧ r.st ≤ 1099511627776) := by
  unfold okRc
  rw [Bool.and_eq_true, okPer_iff, okPer_iff]
theorem over_iff (a b : Rc) : over a b = true ↔ okRc a = true ∧ okRc b = true ∧ a.vf < b.vt ∧ b.vf < a.vt ∧ a.sf < b.st ∧ b.sf < a.st := by
  unfold over
  simp only [Bool.and_eq_true, decide_eq_true_eq]
def found (r : Rc) (l : List PVer) : List PVer := l.filter fun v => over (rc v) r
/-- What is found in blocks, and how many blocks are read. -/
def segSearch (bl : List (List PVer)) (r : Rc) : List PVer × Nat :=
  if okRc r = true then ((bl.filter fun x => over (bnd x) r).flatMap (found r), (bl.filter fun x => over (bnd x) r).length) else ([], 0)
theorem fold_in : ∀ (l : List PVer) (r : Rc), (l.foldl (fun r x => joinR r (rc x)) r).vf ≤ r.vf ∧ r.vt ≤ (l.foldl (fun r x => joinR r (rc x)) r).vt ∧ (l.foldl (fun r x => joinR r (rc x)) r).sf ≤ r.sf ∧ r.st ≤ (l.foldl (fun r x => joinR r (rc x)) r).st ∧
    ∀ v, v ∈ l → (l.foldl (fun r x => joinR r (rc x)) r).vf ≤ v.vf ∧ v.vt ≤ (l.foldl (fun r x => joinR r (rc x)) r).vt ∧ (l.foldl (fun r x => joinR r (rc x)) r).sf ≤ v.sf ∧ v.st ≤ (l.foldl (fun r x => joinR r (rc x)) r).st
  | [], r => ⟨Int.le_refl _, Int.le_refl _, Int.le_refl _, Int.le_refl _, fun _ h => by simp at h⟩
  | x :: l, r => by
    obtain ⟨h1, h2, h3, h4, h5⟩ := fold_in l (joinR r (rc x))
    rw [List.foldl_cons]
    simp only [joinR, rc] at h1 h2 h3 h4 h5
    simp only [joinR, rc]
    refine ⟨by omega, by omega, by omega, by omega, fun v hv => ?_⟩
    rcases List.mem_cons.1 hv with rfl | hv
    · exact ⟨by omega, by omega, by omega, by omega⟩
    · exact h5 v hv
theorem bnd_in {l : List PVer} {v : PVer} (hv : v ∈ l) : (bnd l).vf ≤ v.vf ∧ v.vt ≤ (bnd l).vt ∧ (bnd l).sf ≤ v.sf ∧ v.st ≤ (bnd l).st := by
  cases l with
  | nil => simp at hv
  | cons x l => exact (fold_in (x :: l) (rc x)).2.2.2.2 v hv
theorem over_bnd {l : List PVer} {v : PVer} {r : Rc} (hv : v ∈ l) (hl : ∀ v, v ∈ l → okVer v = true) (h : over (rc v) r = true) : over (bnd l) r = true := by
  rw [over_iff] at h ⊢
  obtain ⟨h1, h2, h3, h4, h5, h6⟩ := h
  obtain ⟨b1, b2, b3, b4⟩ := bnd_in hv
  have hb := bnd_ok (List.ne_nil_of_mem hv) hl
  simp only [rc] at h3 h4 h5 h6
  refine ⟨?_, h2, by omega, by omega, by omega, by omega⟩
  unfold okRc
  rw [hb.v, hb.s]; rfl
theorem found_none {l : List PVer} {r : Rc} (hl : ∀ v, v ∈ l → okVer v = true) (h : over (bnd l) r = false) : found r l = [] := by
  unfold found
  rw [List.filter_eq_nil_iff]
  intro v hv ho
  rw [over_bnd hv hl ho] at h
  exact absurd h (by simp)
theorem search_all {r : Rc} : ∀ (bl : List (List PVer)), (∀ x, x ∈ bl → ∀ v, v ∈ x → okVer v = true) → (bl.filter fun x => over (bnd x) r).flatMap (found r) = found r bl.flatten
  | [], _ => rfl
  | x :: t, h => by
    have ih := search_all (r := r) t fun y hy => h y (by simp [hy])
    rw [List.filter_cons, List.flatten_cons]
    have hf : found r (x ++ t.flatten) = found r x ++ found r t.flatten := by unfold found; rw [List.filter_append]
    rw [hf]
    split
    · rw [List.flatMap_cons, ih]
    · rename_i hn
      rw [ih, found_none (h x (by simp)) (by simpa using hn)]; rfl
theorem found_bad {r : Rc} (h : ¬ okRc r = true) (l : List PVer) : found r l = [] := by
  unfold found
  rw [List.filter_eq_nil_iff]
  intro v hv ho
  rw [over_iff] at ho
  exact h ho.2.1
/-- What is found does not depend on the blocks. -/
theorem search_flat (bl : List (List PVer)) (r : Rc) (h : ∀ x, x ∈ bl → ∀ v, v ∈ x → okVer v = true) : (segSearch bl r).1 = found r bl.flatten := by
  unfold segSearch
  split
  · exact search_all bl h
  · rename_i hn; exact (found_bad hn _).symm
theorem search_le (bl : List (List PVer)) (r : Rc) : (segSearch bl r).2 ≤ bl.length := by
  unfold segSearch
  split
  · exact List.length_filter_le _ _
  · exact Nat.zero_le _
theorem search_read (bl : List (List PVer)) (r : Rc) : 0 < (segSearch bl r).2 ∨ (segSearch bl r).1 = [] := by
  unfold segSearch
  split
  · rcases Nat.eq_zero_or_pos (bl.filter fun x => over (bnd x) r).length with h | h
    · right; rw [List.eq_nil_of_length_eq_zero h]; rfl
    · exact .inl h
  · exact .inr rfl
theorem search_bad (bl : List (List PVer)) (r : Rc) (h : okRc r = false) : (segSearch bl r).2 = 0 := by
  unfold segSearch
  rw [if_neg (by simp [h])]
theorem chunks_one {α : Type} : ∀ (l : List α), chunks 1 l = l.map fun x => [x]
  | [] => rfl
  | x :: l => by rw [chunks_cons (by decide) (by simp)]; simp [chunks_one l]
theorem bnd_one (v : PVer) : bnd [v] = rc v := by
  show joinR (rc v) (rc v) = rc v
  simp [joinR, rc]
/-- Blocks of one version are read only if it is found. -/
theorem search_one (l : List PVer) (r : Rc) : (segSearch (chunks 1 l) r).2 = (segSearch (chunks 1 l) r).1.length := by
  unfold segSearch
  split
  · rw [chunks_one]
    simp only
    induction l with
    | nil => rfl
    | cons x l ih =>
      rw [List.map_cons, List.filter_cons, bnd_one]
      split
      · rename_i ho
        rw [List.flatMap_cons, List.length_append, List.length_cons, ih]
        have : found r [x] = [x] := by unfold found; rw [List.filter_cons, if_pos ho]; rfl
        rw [this]; simp; omega
      · exact ih
  · rfl
/-- A rectangle around all. -/
def allRc : Rc := ⟨0, 1099511627776, 0, 1099511627776⟩
theorem over_all {r : Rc} (h : RcOk r) : over r allRc = true := by
  have h1 := (okPer_iff _ _).1 h.v
  have h2 := (okPer_iff _ _).1 h.s
  rw [over_iff]
  refine ⟨?_, by decide, ?_, ?_, ?_, ?_⟩
  · unfold okRc; rw [h.v, h.s]; rfl
  all_goals simp only [allRc]; omega
theorem found_all {l : List PVer} (h : ∀ v, v ∈ l → okVer v = true) : found allRc l = l := by
  unfold found
  rw [List.filter_eq_self]
  exact fun v hv => over_all (rc_ok (h v hv))
theorem search_everything (bl : List (List PVer)) (h0 : ∀ x, x ∈ bl → x ≠ []) (h : ∀ x, x ∈ bl → ∀ v, v ∈ x → okVer v = true) : segSearch bl allRc = (bl.flatten, bl.length) := by
  have h1 := search_flat bl allRc h
  rw [found_all fun v hv => by obtain ⟨x, hx, hv⟩ := List.mem_flatten.1 hv; exact h x hx v hv] at h1
  have h2 : (segSearch bl allRc).2 = bl.length := by
    unfold segSearch
    rw [if_pos (by decide)]
    rw [List.filter_eq_self.2 fun x hx => over_all (bnd_ok (h0 x hx) (h x hx))]
  rw [← h1, ← h2]
/-! few versions: the error does not depend on the size of the blocks -/
theorem chk_append {ok : PVer → Bool} : ∀ (a b : List PVer) (p : Option PVer), chk ok p (a ++ b) = 0 → chk ok p a = 0
  | [], _, _, _ => rfl
  | x :: a, b, p, h => by
    rw [List.cons_append, chk_cons] at h
    rw [chk_cons]
    by_cases h1 : ok x = false
    · rw [if_pos h1] at h; simp at h
    rw [if_neg h1] at h ⊢
    by_cases h2 : ahead p x = false
    · rw [if_pos h2] at h; simp at h
    rw [if_neg h2] at h ⊢
    exact chk_append a b _ h
theorem chk_first {ok : PVer → Bool} (l : List PVer) (p : Option PVer) (h : chk ok p l = 0) : chk ok none l = 0 := by
  cases l with
  | nil => rfl
  | cons x l =>
    rw [chk_cons] at h ⊢
    by_cases h1 : ok x = false
    · rw [if_pos h1] at h; simp at h
    rw [if_neg h1] at h ⊢
    by_cases h2 : ahead p x = false
    · rw [if_pos h2] at h; simp at h
    rw [if_neg h2] at h
    rw [if_neg (by simp [ahead])]; exact h
theorem chk_behind {ok : PVer → Bool} : ∀ (a b : List PVer) (p : Option PVer), chk ok p (a ++ b) = 0 → chk ok none b = 0
  | [], b, p, h => chk_first b p h
  | x :: a, b, p, h => by
    rw [List.cons_append, chk_cons] at h
    by_cases h1 : ok x = false
    · rw [if_pos h1] at h; simp at h
    rw [if_neg h1] at h
    by_cases h2 : ahead p x = false
    · rw [if_pos h2] at h; simp at h
    rw [if_neg h2] at h
    exact chk_behind a b _ h
theorem chk_chunks {ok : PVer → Bool} {n : Nat} (hn : 0 < n) : ∀ (f : Nat) (l : List PVer), l.length ≤ f → chk ok none l = 0 → ∀ x, x ∈ chunks n l → chk ok none x = 0
  | 0, l, h, _, x, hx => by
    obtain rfl : l = [] := List.eq_nil_of_length_eq_zero (by omega)
    simp [chunks, chunksF] at hx
  | f + 1, l, h, hc, x, hx => by
    by_cases hl : l = []
    · subst hl; simp [chunks, chunksF] at hx
    · have h0 := List.length_pos_iff.2 hl
      rw [chunks_cons hn hl] at hx
      have he : l = l.take n ++ l.drop n := (List.take_append_drop _ _).symm
      rw [he] at hc
      rcases List.mem_cons.1 hx with rfl | hx
      · exact chk_append _ _ _ hc
      · exact chk_chunks hn f (l.drop n) (by rw [List.length_drop]; omega) (chk_behind _ _ _ hc) x hx
theorem encVers_small {l : List PVer} (hl : l.length ≤ 100) (h : ∀ v, v ∈ l → okVer v = true) : (encVers l).length ≤ 1048576 := by
  have h1 := encInt_len (I64.nat (n := l.length) (by omega))
  have h2 := flatMap_len encVer 2622 l fun v hv => encVer_len (h v hv)
  unfold encVers
  rw [List.length_append]
  omega
theorem encBlocks_few : ∀ (bl : List (List PVer)) (out : List UInt8), (∀ x, x ∈ bl → (encodeVers x).2 = 0) → encBlocks bl out = (out ++ (bl.flatMap fun x => frameOf (encVers x)), 0)
  | [], out, _ => by simp [encBlocks]
  | x :: t, out, h => by
    have hx := h x (by simp)
    rw [encBlocks, if_neg (by simpa using hx), encBlocks_few t _ fun y hy => h y (by simp [hy]), (encodeVers_eq hx).2.2.2, List.flatMap_cons, List.append_assoc]
theorem encRc_len {r : Rc} (h : RcOk r) : (encRc r).length ≤ 40 := by
  have h1 := okPer_i64 h.v
  have h2 := okPer_i64 h.s
  have h3 := encPer_len h1.1 h1.2
  have h4 := encPer_len h2.1 h2.2
  unfold encRc
  rw [List.length_append]
  omega
/-- Few versions that may be stored, under a name: a file, whatever the blocks. -/
theorem segBuild_few {t : List UInt8} {l : List PVer} {size : Int} (ht : okName t = true) (hs : 1 ≤ size) (hs2 : size ≤ 4096) (hc : chk okStored none l = 0) (hl : l.length ≤ 100) : (segBuild t l size).2 = 0 := by
  have hn : 0 < size.toNat := by omega
  have hok : ∀ v, v ∈ l → okVer v = true := fun v hv => okStored_ok (chk_all l none hc v hv)
  have hin : ∀ x, x ∈ chunks size.toNat l → ∀ v, v ∈ x → v ∈ l := fun x hx v hv => by
    rw [← chunks_flat hn _ l (Nat.le_refl _)]
    exact List.mem_flatten.2 ⟨x, hx, hv⟩
  have hfine : ∀ x, x ∈ chunks size.toNat l → (encodeVers x).2 = 0 := fun x hx => by
    obtain ⟨h1, h2, h3⟩ := chunks_ne hn _ l (Nat.le_refl _) x hx
    have h4 := chk_mono (fun v => okStored_ok (v := v)) _ _ (chk_chunks hn _ l (Nat.le_refl _) hc x hx)
    have h5 := encVers_small (l := x) (by omega) fun v hv => hok v (hin x hx v hv)
    unfold encodeVers
    rw [if_neg (by omega), if_neg (by simpa using h4), if_neg (by omega)]
  have hcl : (chunks size.toNat l).length ≤ 100 := by
    rcases Nat.lt_or_ge 100 (chunks size.toNat l).length with h | h
    · have h1 := chunks_len hn _ l (Nat.le_refl _)
      rw [h1] at h
      have h2 : (l.length + size.toNat - 1) / size.toNat ≤ l.length := by
        rw [Nat.div_le_iff_le_mul_add_pred hn]
        have := Nat.mul_le_mul_right l.length hn
        rw [Nat.one_mul] at this
        omega
      omega
    · exact h
  have hhead : (encHead t l.length (chunks size.toNat l)).length ≤ 1048576 := by
    have h1 := encInt_len (I64.nat (n := l.length) (by omega))
    have h2 := encInt_len (I64.nat (n := (chunks size.toNat l).length) (by omega))
    have h3 := okName_len ht
    have h4 := encInt_len (I64.nat (n := t.length) (by omega))
    have h5 := flatMap_len (fun x => encRc (bnd x)) 40 (chunks size.toNat l) fun x hx => encRc_len (bnd_ok (chunks_ne hn _ l (Nat.le_refl _) x hx).1 fun v hv => hok v (hin x hx v hv))
    unfold encHead encText
    simp only [List.length_append]
    omega
  unfold segBuild
  rw [if_neg (by simp [ht]), if_neg (by omega), if_neg (by simpa using hc), if_neg (by omega), encBlocks_few _ _ hfine]
/-- The error of few versions does not depend on the size of the blocks. -/
theorem segBuild_err {t : List UInt8} {l : List PVer} {m n : Int} (hm : 1 ≤ m) (hm2 : m ≤ 4096) (hn : 1 ≤ n) (hn2 : n ≤ 4096) (hl : l.length ≤ 100) : (segBuild t l m).2 = (segBuild t l n).2 := by
  by_cases ht : okName t = true
  · by_cases hc : chk okStored none l = 0
    · rw [segBuild_few ht hm hm2 hc hl, segBuild_few ht hn hn2 hc hl]
    · unfold segBuild
      rw [if_neg (by simp [ht]), if_neg (by omega), if_pos hc, if_neg (by simp [ht]), if_neg (by omega), if_pos hc]
  · unfold segBuild
    rw [if_pos (by simpa using ht), if_pos (by simpa using ht)]
theorem encBlocks_err : ∀ (bl : List (List PVer)) (out : List UInt8), (encBlocks bl out).2 ≠ 0 → (encBlocks bl out).1 = []
  | [], out, h => absurd rfl h
  | x :: t, out, h => by
    rw [encBlocks] at h ⊢
    split
    · rfl
    · rename_i hx
      rw [if_neg hx] at h
      exact encBlocks_err t _ h
/-- Behind an error there is no file. -/
theorem segBuild_none {t : List UInt8} {l : List PVer} {n : Int} (h : (segBuild t l n).2 ≠ 0) : (segBuild t l n).1 = [] := by
  unfold segBuild at h ⊢
  repeat' split
  all_goals first | rfl | skip
  rename_i h1 h2 h3 h4
  rw [if_neg h1, if_neg h2, if_neg h3, if_neg h4] at h
  exact encBlocks_err _ _ h
/-! files whose end is missing -/
theorem dFrame_take {b : List UInt8} {p : Nat} {x : List UInt8} {k : Nat} (h : HoldsAt b p (frameOf x)) (hx : x.length ≤ 1048576) (hk : p + (frameOf x).length ≤ k) : dFrame (b.take k) p = .ok (x, p + (frameOf x).length) := by
  obtain ⟨pre, rest, rfl, rfl⟩ := h
  refine HoldsAt.frame ⟨pre, rest.take (k - pre.length - (frameOf x).length), ?_, rfl⟩ hx
  rw [List.take_append, List.take_of_length_le (by omega), List.take_append, List.take_of_length_le (l := frameOf x) (by omega)]
theorem dFrame_torn {b : List UInt8} {p : Nat} {x : List UInt8} {k : Nat} (h : HoldsAt b p (frameOf x)) (hx : x.length ≤ 1048576) (h1 : p ≤ k) (h2 : k < p + (frameOf x).length) : dFrame (b.take k) p = .error 2 := by
  obtain ⟨pre, rest, rfl, rfl⟩ := h
  have hl := frameOf_len x
  have e0 : (pre ++ (frameOf x ++ rest)).take k = pre ++ (frameOf x).take (k - pre.length) := by
    rw [List.take_append, List.take_of_length_le (by omega), List.take_append_of_le_length (by omega)]
  have e1 : (pre ++ (frameOf x).take (k - pre.length)).length = k := by rw [List.length_append, List.length_take]; omega
  rw [e0]
  unfold dFrame
  rw [e1, if_neg (by omega)]
  by_cases h8 : k - pre.length < 8
  · rw [if_pos h8]
  have e2 : num4 ((frameOf x).take (k - pre.length)) = x.length := by
    rw [frameOf, List.take_append, List.take_of_length_le (l := four _) (by rw [four_len]; omega)]
    exact num4_four (by omega) _
  rw [if_neg h8, List.drop_left, e2, if_neg (by omega), if_pos (by omega)]
theorem dBlocks_torn {b : List UInt8} {k : Nat} (hk : k < b.length) : ∀ (bl : List (List PVer)) (p : Nat) (acc : List (List PVer)), HoldsAt b p (bl.flatMap fun x => frameOf (encVers x)) → p + (bl.flatMap fun x => frameOf (encVers x)).length = b.length → p ≤ k → (∀ x, x ∈ bl → (encodeVers x).2 = 0) → dBlocks (b.take k) bl.length p acc = .error 2
  | [], p, acc, _, he, hp, _ => by simp at he; omega
  | x :: t, p, acc, h, he, hp, hx => by
    rw [List.flatMap_cons] at h he
    obtain ⟨h1, h2, h3, _⟩ := encodeVers_eq (hx x (by simp))
    rw [List.length_append] at he
    rw [List.length_cons, dBlocks]
    rcases Nat.lt_or_ge k (p + (frameOf (encVers x)).length) with hlt | hge
    · rw [dFrame_torn h.left h3 hp hlt]
    · rw [dFrame_take h.left h3 hge]
      simp only
      rw [decVers_enc h1 h2 h3]
      simp only
      exact dBlocks_torn hk t _ _ h.right (by omega) hge fun y hy => hx y (by simp [hy])
/-- A file whose end is missing is told as torn. -/
theorem segOpen_torn {t : List UInt8} {l : List PVer} {size : Int} {b : List UInt8} {k : Nat} (h : segBuild t l size = (b, 0)) (hl : l.length ≤ 1000000) (hk : k < b.length) : segOpen (b.take k) = .error 2 := by
  have hB := segBuild_ok h
  have hn : 0 < size.toNat := by have := hB.lo; omega
  have hcl : (chunks size.toNat l).length ≤ 1000000000 := by
    rw [chunks_len hn _ l (Nat.le_refl _)]
    exact Nat.le_trans (Nat.div_le_self _ _) (by have := hB.hi; omega)
  have hH : HoldsAt b 0 (frameOf (encHead t l.length (chunks size.toNat l)) ++ ((chunks size.toNat l).flatMap fun x => frameOf (encVers x))) := ⟨[], [], by rw [hB.body]; simp, rfl⟩
  unfold segOpen
  rcases Nat.lt_or_ge k (0 + (frameOf (encHead t l.length (chunks size.toNat l))).length) with hlt | hge
  · rw [dFrame_torn hH.left hB.head (Nat.zero_le _) hlt]
  · rw [dFrame_take hH.left hB.head hge]
    simp only
    rw [dHead_ok (okName_len hB.name) (by omega) hcl hB.rects]
    simp only
    rw [dBlocks_torn hk _ _ _ hH.right (by have := congrArg List.length hB.body; rw [List.length_append] at this; omega) hge hB.fine]
/-- What Open takes is a file of the blocks that it tells. -/
theorem segOpen_chunks {b t : List UInt8} {bl : List (List PVer)} (h : segOpen b = .ok (t, bl)) (hl : bl.flatten.length ≤ 1000000) : bl = chunks (sizeOfBlocks bl) bl.flatten ∧ segBuild t bl.flatten (sizeOfBlocks bl) = (b, 0) := by
  have h0 := h
  unfold segOpen at h
  split at h
  · simp at h
  split at h
  · simp at h
  split at h
  · simp at h
  split at h
  · simp at h
  split at h
  · rename_i hb
    simp only [Except.ok.injEq, Prod.mk.injEq] at h
    obtain ⟨rfl, rfl⟩ := h
    have h1 := segOpen_build hb hl
    rw [h0] at h1
    simp only [Except.ok.injEq, Prod.mk.injEq, true_and, Int.toNat_natCast] at h1
    exact ⟨h1, hb⟩
  · simp at h
end Go.Proofs.Ytndlhmnablefpaa

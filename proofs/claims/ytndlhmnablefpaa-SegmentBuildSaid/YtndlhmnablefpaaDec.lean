/- How numbers, texts, values, rows, periods and versions are read from bytes, as plain lists; what was written is read back. No program in sight. -/
import Derived.Test.YtndlhmnablefpaaCode
namespace Go.Proofs.Ytndlhmnablefpaa
open Go.RowKit
set_option linter.unusedSimpArgs false
set_option linter.unusedVariables false
/-- A reader's result: an error, or what was read and the offset after it. -/
abbrev Rd (α : Type) := Except Int (α × Nat)
/-- Byte i of a number is not what it may be. -/
def badU (i : Nat) (c : UInt8) : Bool := (i == 9 && decide (1 < c.toNat)) || (decide (0 < i) && c.toNat == 0)
def dU : List UInt8 → Nat → Nat → Except Int (Nat × Nat)
  | [], _, _ => .error 2
  | c :: cs, i, z => if badU i c = true then .error 1 else if c.toNat < 128 then .ok (z + c.toNat % 128 * 128 ^ i, i + 1) else dU cs (i + 1) (z + c.toNat % 128 * 128 ^ i)
def zag (u : Nat) : Int := if u % 2 = 0 then ((u / 2 : Nat) : Int) else -((u / 2 : Nat) : Int) - 1
def dInt (b : List UInt8) (p : Nat) : Rd Int :=
  if b.length < p then .error 6 else match dU (b.drop p) 0 0 with
    | .error e => .error e
    | .ok (u, k) => .ok (zag u, p + k)
def dText (b : List UInt8) (p : Nat) (most : Int) : Rd (List UInt8) :=
  match dInt b p with
  | .error e => .error e
  | .ok (n, k) => if n < 0 then .error 1 else if max most 0 < n then .error 5 else if ((b.length - k : Nat) : Int) < n then .error 2 else .ok ((b.drop k).take n.toNat, k + n.toNat)
def noText : ByteArray := ⟨#[]⟩
def dVal (b : List UInt8) (p : Nat) : Rd Vl :=
  if b.length < p then .error 6 else match b[p]? with
    | none => .error 2
    | some c =>
      if c.toNat = 0 then .ok (⟨0, 0, noText⟩, p + 1)
      else if c.toNat = 1 then match dInt b (p + 1) with
        | .error e => .error e
        | .ok (n, k) => if n < -1125899906842624 ∨ 1125899906842624 < n then .error 6 else .ok (⟨1, n, noText⟩, k)
      else if c.toNat = 2 then match dText b (p + 1) 200 with
        | .error e => .error e
        | .ok (s, k) => if printable s = true then .ok (⟨2, 0, ⟨s.toArray⟩⟩, k) else .error 1
      else if c.toNat = 3 ∨ c.toNat = 4 then .ok (⟨3, (c.toNat : Int) - 3, noText⟩, p + 1)
      else .error 1
/-- n things, one after the other. -/
def dMany {α : Type} (d : Nat → Rd α) : Nat → Nat → List α → Rd (List α)
  | 0, p, acc => .ok (acc, p)
  | n + 1, p, acc => match d p with
    | .error e => .error e
    | .ok (v, k) => dMany d n k (acc ++ [v])
def dRow (b : List UInt8) (p : Nat) : Rd (List Vl) :=
  match dInt b p with
  | .error e => .error e
  | .ok (n, k) => if n < 0 then .error 1 else if 12 < n then .error 5 else dMany (dVal b) n.toNat k []
def dPer (b : List UInt8) (p : Nat) : Rd (Int × Int) :=
  match dInt b p with
  | .error e => .error e
  | .ok (f, k) => match dInt b k with
    | .error e => .error e
    | .ok (t, k') => if okPer f t = true then .ok ((f, t), k') else .error 6
def dVer (b : List UInt8) (p : Nat) : Rd PVer :=
  match dInt b p with
  | .error e => .error e
  | .ok (id, p1) => match dInt b p1 with
    | .error e => .error e
    | .ok (sch, p2) => match dRow b p2 with
      | .error e => .error e
      | .ok (row, p3) => match dPer b p3 with
        | .error e => .error e
        | .ok (v, p4) => match dPer b p4 with
          | .error e => .error e
          | .ok (s, p5) => match dInt b p5 with
            | .error e => .error e
            | .ok (by', p6) => match dInt b p6 with
              | .error e => .error e
              | .ok (un, p7) => .ok (⟨id, sch, row, v.1, v.2, s.1, s.2, by', un⟩, p7)
/-- The versions with an encoding, or the error. -/
def decVers (b : List UInt8) : Except Int (List PVer) :=
  if 1048576 < b.length then .error 5 else match dInt b 0 with
    | .error e => .error e
    | .ok (n, k) => if n < 0 then .error 1 else match dMany (dVer b) n.toNat k [] with
      | .error e => .error e
      | .ok (l, p) => if p < b.length then .error 3 else if 4096 < l.length then .error 5 else if chk okVer none l ≠ 0 then .error (chk okVer none l) else .ok l

/-! What was written is read back. -/
theorem pow128_le {i : Nat} (h : i ≤ 9) : 128 ^ i ≤ 9223372036854775808 := Nat.le_trans (Nat.pow_le_pow_right (by decide) h) (by decide)
theorem lo_nat {n : Nat} (h : n < 128) : (loByte n).toNat = n := by unfold loByte; simp only [UInt8.toNat_ofNat']; omega
theorem hi_nat (n : Nat) : (hiByte n).toNat = n % 128 + 128 := by unfold hiByte; simp only [UInt8.toNat_ofNat']; omega
theorem dU_uvar (rest : List UInt8) : ∀ (f n i z : Nat), n < f → i ≤ 9 → n * 128 ^ i < 18446744073709551616 → (0 < i → 0 < n) → dU (uvar n ++ rest) i z = .ok (z + n * 128 ^ i, i + (uvar n).length)
  | 0, n, i, z, hf, _, _, _ => by omega
  | f + 1, n, i, z, hf, hi, hn, h0 => by
    by_cases hs : n < 128
    · rw [uvar_small hs]
      have hb : badU i (loByte n) = false := by
        unfold badU
        rw [lo_nat hs]
        simp only [Bool.or_eq_false_iff, Bool.and_eq_false_iff, beq_eq_false_iff_ne, decide_eq_false_iff_not]
        refine ⟨?_, ?_⟩
        · by_cases h9 : i = 9
          · subst h9
            exact .inr (by omega)
          · exact .inl h9
        · by_cases hi0 : 0 < i
          · exact .inr (by have := h0 hi0; omega)
          · exact .inl hi0
      simp only [List.cons_append, List.nil_append, dU, hb, lo_nat hs, List.length_singleton]
      rw [if_neg (by simp), if_pos hs, Nat.mod_eq_of_lt hs]
    · rw [uvar_big hs]
      have hi8 : i < 9 := by
        rcases Nat.lt_or_ge i 9 with h | h
        · exact h
        · obtain rfl : i = 9 := by omega
          have : (128 : Nat) ^ 9 = 9223372036854775808 := by decide
          omega
      have hb : badU i (hiByte n) = false := by
        unfold badU
        rw [hi_nat]
        simp only [Bool.or_eq_false_iff, Bool.and_eq_false_iff, beq_eq_false_iff_ne, decide_eq_false_iff_not]
        exact ⟨.inl (by omega), .inr (by omega)⟩
      have hp : n / 128 * 128 ^ (i + 1) ≤ n * 128 ^ i := by
        rw [Nat.pow_succ, Nat.mul_comm (128 ^ i) 128, ← Nat.mul_assoc]
        exact Nat.mul_le_mul_right _ (Nat.div_mul_le_self n 128)
      have ih := dU_uvar rest f (n / 128) (i + 1) (z + n % 128 * 128 ^ i) (by omega) (by omega) (by omega) (by omega)
      simp only [List.cons_append, dU, hb, hi_nat]
      rw [if_neg (by simp), if_neg (by omega), show (n % 128 + 128) % 128 = n % 128 by omega, ih, List.length_cons]
      congr 2
      · rw [Nat.pow_succ, Nat.mul_comm (128 ^ i) 128, ← Nat.mul_assoc, Nat.add_assoc, ← Nat.add_mul]
        congr 2
        omega
      · omega
theorem zag_zig (n : Int) : zag (zig n) = n := by
  unfold zag zig
  repeat' split
  all_goals omega
theorem dInt_enc {pre rest : List UInt8} {n : Int} (h : I64 n) : dInt (pre ++ (encInt n ++ rest)) pre.length = .ok (n, pre.length + (encInt n).length) := by
  unfold dInt
  rw [if_neg (by simp), List.drop_left, encInt, dU_uvar rest (zig n + 1) (zig n) 0 0 (by omega) (by decide) (by have := (zig_lt h).lt; simpa using this) (by omega)]
  simp [zag_zig]
/-- b holds x at p. -/
def HoldsAt (b : List UInt8) (p : Nat) (x : List UInt8) : Prop := ∃ pre rest, b = pre ++ (x ++ rest) ∧ p = pre.length
theorem HoldsAt.left {b x y : List UInt8} {p : Nat} (h : HoldsAt b p (x ++ y)) : HoldsAt b p x := by
  obtain ⟨pre, rest, rfl, rfl⟩ := h
  exact ⟨pre, y ++ rest, by simp, rfl⟩
theorem HoldsAt.right {b x y : List UInt8} {p : Nat} (h : HoldsAt b p (x ++ y)) : HoldsAt b (p + x.length) y := by
  obtain ⟨pre, rest, rfl, rfl⟩ := h
  exact ⟨pre ++ x, rest, by simp, by simp⟩
theorem HoldsAt.int {b : List UInt8} {p : Nat} {n : Int} (h : HoldsAt b p (encInt n)) (hn : I64 n) : dInt b p = .ok (n, p + (encInt n).length) := by
  obtain ⟨pre, rest, rfl, rfl⟩ := h
  exact dInt_enc hn
theorem HoldsAt.text {b : List UInt8} {p : Nat} {s : List UInt8} (h : HoldsAt b p (encText s)) (most : Int) (hs : (s.length : Int) ≤ most) (hl : s.length ≤ 9223372036854775807) : dText b p most = .ok (s, p + (encText s).length) := by
  unfold encText at h
  unfold dText
  rw [h.left.int (I64.nat hl)]
  obtain ⟨pre, rest, hb, hp⟩ := h.right
  simp only
  rw [if_neg (by omega), if_neg (by omega), if_neg (by rw [hb, hp]; simp only [List.length_append]; omega), hb, hp]
  simp [encText, hp.symm, Nat.add_assoc]
theorem HoldsAt.get {b x : List UInt8} {p : Nat} {c : UInt8} (h : HoldsAt b p (c :: x)) : b[p]? = some c ∧ p < b.length ∧ HoldsAt b (p + 1) x := by
  obtain ⟨pre, rest, rfl, rfl⟩ := h
  exact ⟨by simp, by simp, pre ++ [c], rest, by simp, by simp⟩
theorem bytes_ext {t : ByteArray} (h : t.data.toList = []) : t = noText := by
  obtain ⟨⟨l⟩⟩ := t
  simp at h
  subst h
  rfl
theorem bytes_none {t : ByteArray} (h : t.toList.isEmpty = true) : t = noText := by
  have h2 := bytes_empty h
  refine bytes_ext (List.eq_nil_of_length_eq_zero ?_)
  simpa using h2
theorem HoldsAt.val {b : List UInt8} {p : Nat} {v : Vl} (h : HoldsAt b p (encVal v)) (hv : okVal v = true) : dVal b p = .ok (v, p + (encVal v).length) := by
  obtain ⟨k, n, t⟩ := v
  unfold okVal at hv
  unfold encVal at h ⊢
  simp only at hv h ⊢
  split at hv
  · rename_i h0
    simp only [beq_iff_eq] at h0
    subst h0
    simp only [Bool.and_eq_true, beq_iff_eq] at hv
    obtain ⟨rfl, ht⟩ := hv
    rw [bytes_none ht]
    simp only [show ((0 : Int) == 1) = false from rfl, show ((0 : Int) == 2) = false from rfl, show ((0 : Int) == 3) = false from rfl, Bool.false_eq_true, if_false] at h ⊢
    obtain ⟨h1, h2, h3⟩ := h.get
    unfold dVal
    rw [if_neg (by omega), h1]
    rfl
  split at hv
  · rename_i h0
    simp only [beq_iff_eq] at h0
    subst h0
    simp only [Bool.and_eq_true, decide_eq_true_eq] at hv
    rw [bytes_none hv.1]
    simp only [show ((1 : Int) == 1) = true from rfl, if_true] at h ⊢
    obtain ⟨h1, h2, h3⟩ := h.get
    unfold dVal
    rw [if_neg (by omega), h1]
    simp only [show (1 : UInt8).toNat = 1 from rfl]
    rw [if_neg (by decide), if_pos trivial, h3.int ⟨by omega, by omega⟩]
    simp only
    rw [if_neg (by omega)]
    congr 2
    simp [Nat.add_assoc, Nat.add_comm]
  split at hv
  · rename_i h0
    simp only [beq_iff_eq] at h0
    subst h0
    simp only [Bool.and_eq_true, beq_iff_eq, decide_eq_true_eq] at hv
    obtain ⟨rfl, hs, hp⟩ := hv
    simp only [show ((2 : Int) == 1) = false from rfl, show ((2 : Int) == 2) = true from rfl, Bool.false_eq_true, if_false, if_true] at h ⊢
    obtain ⟨h1, h2, h3⟩ := h.get
    unfold dVal
    rw [if_neg (by omega), h1]
    simp only [show (2 : UInt8).toNat = 2 from rfl]
    have hl : t.data.toList.length = t.size := by simp
    rw [if_neg (by decide), if_neg (by decide), if_pos trivial, h3.text 200 (by omega) (by omega)]
    simp only
    rw [if_pos hp]
    congr 2
    simp [Nat.add_assoc, Nat.add_comm]
  split at hv
  · rename_i h0
    simp only [beq_iff_eq] at h0
    subst h0
    simp only [Bool.and_eq_true, Bool.or_eq_true, beq_iff_eq] at hv
    rw [bytes_none hv.1]
    simp only [show ((3 : Int) == 1) = false from rfl, show ((3 : Int) == 2) = false from rfl, show ((3 : Int) == 3) = true from rfl, Bool.false_eq_true, if_false, if_true] at h ⊢
    obtain ⟨h1, h2, h3⟩ := h.get
    unfold dVal
    rw [if_neg (by omega), h1]
    rcases hv.2 with rfl | rfl
    · rfl
    · rfl
  · simp at hv
theorem dMany_enc {α : Type} {b : List UInt8} (enc : α → List UInt8) (d : Nat → Rd α) : ∀ (l : List α) (p : Nat) (acc : List α), HoldsAt b p (l.flatMap enc) → (∀ x p, x ∈ l → HoldsAt b p (enc x) → d p = .ok (x, p + (enc x).length)) → dMany d l.length p acc = .ok (acc ++ l, p + (l.flatMap enc).length)
  | [], p, acc, _, _ => by simp [dMany]
  | x :: l, p, acc, h, hd => by
    rw [List.flatMap_cons] at h ⊢
    rw [List.length_cons, dMany, hd x p (by simp) h.left]
    simp only
    rw [dMany_enc enc d l _ _ h.right fun y q hy => hd y q (by simp [hy])]
    simp [Nat.add_assoc]
theorem HoldsAt.row {b : List UInt8} {p : Nat} {r : List Vl} (h : HoldsAt b p (encRow r)) (hr : okRow r = true) : dRow b p = .ok (r, p + (encRow r).length) := by
  obtain ⟨h1, h2⟩ := okRow_all hr
  unfold encRow at h
  unfold dRow
  rw [h.left.int (I64.nat (by omega))]
  simp only
  rw [if_neg (by omega), if_neg (by omega), Int.toNat_natCast, dMany_enc encVal (dVal b) r _ [] h.right fun v q hv hq => hq.val (h2 v hv)]
  simp [encRow, Nat.add_assoc]
theorem HoldsAt.per {b : List UInt8} {p : Nat} {f t : Int} (h : HoldsAt b p (encPer f t)) (ho : okPer f t = true) : dPer b p = .ok ((f, t), p + (encPer f t).length) := by
  obtain ⟨hf, ht⟩ := okPer_i64 ho
  unfold encPer at h
  unfold dPer
  rw [h.left.int hf]
  simp only
  rw [h.right.int ht]
  simp only
  rw [if_pos ho]
  simp [encPer, Nat.add_assoc]
theorem HoldsAt.ver {b : List UInt8} {p : Nat} {v : PVer} (h : HoldsAt b p (encVer v)) (hv : okVer v = true) : dVer b p = .ok (v, p + (encVer v).length) := by
  obtain ⟨h1, h2, h3, h4, h5, h6, h7, h8, h9⟩ := okVer_parts hv
  have hv' := hv
  unfold okVer at hv'
  simp only [Bool.and_eq_true] at hv'
  unfold encVer at h
  unfold dVer
  rw [h.left.int h1]
  simp only
  rw [h.right.left.int h2]
  simp only
  rw [h.right.right.left.row h3]
  simp only
  rw [h.right.right.right.left.per hv'.2.2.2.2.1]
  simp only
  rw [h.right.right.right.right.left.per hv'.2.2.2.2.2.1]
  simp only
  rw [h.right.right.right.right.right.left.int h8]
  simp only
  rw [h.right.right.right.right.right.right.int h9]
  simp [encVer, Nat.add_assoc]
/-- Versions are read back from their encoding. -/
theorem decVers_enc {l : List PVer} (h1 : l.length ≤ 4096) (h2 : chk okVer none l = 0) (h3 : (encVers l).length ≤ 1048576) : decVers (encVers l) = .ok l := by
  have h : HoldsAt (encVers l) 0 (encVers l) := ⟨[], [], by simp, rfl⟩
  have hlen : (encVers l).length = (encInt (l.length : Int)).length + (l.flatMap encVer).length := by simp [encVers]
  have hh : HoldsAt (encVers l) 0 (encInt (l.length : Int) ++ l.flatMap encVer) := h
  unfold decVers
  rw [if_neg (by omega), hh.left.int (I64.nat (by omega))]
  simp only
  rw [if_neg (by omega), Int.toNat_natCast, dMany_enc encVer (dVer _) l _ [] hh.right fun v q hv hq => hq.ver (chk_all l none h2 v hv)]
  simp only [List.nil_append]
  rw [if_neg (by omega), if_neg (by omega), if_neg (by simpa using h2)]
end Go.Proofs.Ytndlhmnablefpaa
/-! Checksums and frames as plain lists of bytes; what was framed is read back. No program in sight. -/
namespace Go.Proofs.Ytndlhmnablefpaa
open Go.RowKit
set_option linter.unusedSimpArgs false
set_option linter.unusedVariables false
def crc1 (r : Nat) : Nat := if r % 2 = 1 then (r / 2) ^^^ 2197175160 else r / 2
def crcN : Nat → Nat → Nat
  | 0, r => r
  | n + 1, r => crcN n (crc1 r)
def crcB (r : Nat) (c : UInt8) : Nat := crcN 8 (r ^^^ c.toNat)
def crcL (r : Nat) (l : List UInt8) : Nat := l.foldl crcB r
def crcSum (l : List UInt8) : Nat := 4294967295 - crcL 4294967295 l
def byteOf (n : Nat) : UInt8 := UInt8.ofNat n
def four (n : Nat) : List UInt8 := [byteOf (n / 16777216), byteOf (n / 65536), byteOf (n / 256), byteOf n]
def num4 (l : List UInt8) : Nat := (l.getD 0 0).toNat * 16777216 + (l.getD 1 0).toNat * 65536 + (l.getD 2 0).toNat * 256 + (l.getD 3 0).toNat
theorem four_len (n : Nat) : (four n).length = 4 := rfl
theorem num4_four {n : Nat} (h : n < 4294967296) (rest : List UInt8) : num4 (four n ++ rest) = n := by
  simp only [num4, four, byteOf, List.cons_append, List.getD_cons_zero, List.getD_cons_succ, UInt8.toNat_ofNat']
  omega
theorem num4_lt (l : List UInt8) : num4 l < 4294967296 := by
  unfold num4
  have h0 := (l.getD 0 0).toNat_lt
  have h1 := (l.getD 1 0).toNat_lt
  have h2 := (l.getD 2 0).toNat_lt
  have h3 := (l.getD 3 0).toNat_lt
  omega
theorem crcSum_lt (l : List UInt8) : crcSum l < 4294967296 := by unfold crcSum; omega
theorem xor_lt32 {a b : Nat} (ha : a < 4294967296) (hb : b < 4294967296) : a ^^^ b < 4294967296 := Nat.xor_lt_two_pow (n := 32) ha hb
theorem crc1_lt {r : Nat} (h : r < 4294967296) : crc1 r < 4294967296 := by
  unfold crc1
  split
  · exact xor_lt32 (by omega) (by decide)
  · omega
theorem crcN_lt : ∀ (n r : Nat), r < 4294967296 → crcN n r < 4294967296
  | 0, _, h => h
  | n + 1, r, h => crcN_lt n _ (crc1_lt h)
theorem crcB_lt {r : Nat} (h : r < 4294967296) (c : UInt8) : crcB r c < 4294967296 := crcN_lt 8 _ (xor_lt32 h (Nat.lt_trans c.toNat_lt (by decide)))
theorem crcL_lt : ∀ (l : List UInt8) (r : Nat), r < 4294967296 → crcL r l < 4294967296
  | [], _, h => h
  | c :: l, r, h => crcL_lt l _ (crcB_lt h c)
theorem crcL_append (r : Nat) (a b : List UInt8) : crcL r (a ++ b) = crcL (crcL r a) b := by unfold crcL; rw [List.foldl_append]
/-- A frame with a body. -/
def frameOf (body : List UInt8) : List UInt8 := four body.length ++ (four (crcSum (four body.length ++ body)) ++ body)
def encFrame (body : List UInt8) : List UInt8 × Int := if 1048576 < body.length then ([], 5) else (frameOf body, 0)
/-- The body of the frame at p, and the offset after it. -/
def dFrame (b : List UInt8) (p : Nat) : Rd (List UInt8) :=
  if b.length < p then .error 6 else if b.length - p < 8 then .error 2 else if 1048576 < num4 (b.drop p) then .error 5
  else if b.length - p - 8 < num4 (b.drop p) then .error 2
  else if num4 (b.drop (p + 4)) ≠ crcSum ((b.drop p).take 4 ++ (b.drop (p + 8)).take (num4 (b.drop p))) then .error 4
  else .ok ((b.drop (p + 8)).take (num4 (b.drop p)), p + 8 + num4 (b.drop p))
theorem frameOf_len (body : List UInt8) : (frameOf body).length = body.length + 8 := by simp [frameOf, four_len]; omega
theorem HoldsAt.frame {b : List UInt8} {p : Nat} {x : List UInt8} (h : HoldsAt b p (frameOf x)) (hx : x.length ≤ 1048576) : dFrame b p = .ok (x, p + (frameOf x).length) := by
  obtain ⟨pre, rest, rfl, rfl⟩ := h
  have e1 : (pre ++ (frameOf x ++ rest)).drop pre.length = frameOf x ++ rest := List.drop_left
  have e2 : (pre ++ (frameOf x ++ rest)).drop (pre.length + 4) = four (crcSum (four x.length ++ x)) ++ (x ++ rest) := by
    rw [← List.drop_drop, e1, frameOf]
    simp [four]
  have e3 : (pre ++ (frameOf x ++ rest)).drop (pre.length + 8) = x ++ rest := by
    rw [← List.drop_drop, e1, frameOf]
    simp [four]
  have e4 : num4 (frameOf x ++ rest) = x.length := by
    rw [frameOf, List.append_assoc]
    exact num4_four (by omega) _
  unfold dFrame
  rw [e1, e2, e3, e4, num4_four (crcSum_lt _), if_neg (by simp), if_neg (by simp [frameOf_len]; omega), if_neg (by omega), if_neg (by simp [frameOf_len]; omega)]
  have e5 : (frameOf x ++ rest).take 4 = four x.length := by rw [frameOf, List.append_assoc]; simp [four]
  rw [e5, List.take_left, if_neg (by simp), frameOf_len]
  congr 2
  omega
end Go.Proofs.Ytndlhmnablefpaa

/- How numbers, texts, values, rows, periods and versions are written as bytes, as plain lists. No program in sight. -/
import Derived.Test.YtndlhmnablefpaaData
import Derived.Laws.BitsAllLaws
namespace Go.Proofs.Ytndlhmnablefpaa
open Go.RowKit
/-- n is an int. -/
structure I64 (n : Int) : Prop where
  lo : -9223372036854775808 ≤ n
  hi : n ≤ 9223372036854775807
/-- n is a uint64. -/
structure U64 (n : Nat) : Prop where
  lt : n < 18446744073709551616
/-- The byte 128 + u % 128, the byte u. -/
def hiByte (u : Nat) : UInt8 := UInt8.ofNat (u % 128 + 128)
def loByte (u : Nat) : UInt8 := UInt8.ofNat u
theorem U64.div {n : Nat} (h : U64 n) (k : Nat) : U64 (n / k) := ⟨Nat.lt_of_le_of_lt (Nat.div_le_self _ _) h.lt⟩
theorem I64.nat {n : Nat} (h : n ≤ 9223372036854775807) : I64 (n : Int) := ⟨by omega, by omega⟩
def uvar (n : Nat) : List UInt8 := if n < 128 then [loByte n] else hiByte n :: uvar (n / 128)
termination_by n
decreasing_by omega
theorem uvar_small {n : Nat} (h : n < 128) : uvar n = [loByte n] := by rw [uvar, if_pos h]
theorem uvar_big {n : Nat} (h : ¬ n < 128) : uvar n = hiByte n :: uvar (n / 128) := by rw [uvar, if_neg h]
def zig (n : Int) : Nat := if 0 ≤ n then (2 * n).toNat else (-2 * n - 1).toNat
def encInt (n : Int) : List UInt8 := uvar (zig n)
theorem zig_lt {n : Int} (h : I64 n) : U64 (zig n) := by
  refine ⟨?_⟩
  have h1 := h.lo
  have h2 := h.hi
  unfold zig
  split <;> omega
theorem uvar_len (k : Nat) : ∀ n, n < 128 ^ (k + 1) → (uvar n).length ≤ k + 1 := by
  induction k with
  | zero => intro n h; rw [uvar_small (by simpa using h)]; simp
  | succ k ih =>
    intro n h
    by_cases hs : n < 128
    · rw [uvar_small hs]; simp
    · rw [uvar_big hs, List.length_cons]
      have := ih (n / 128) (by rw [Nat.div_lt_iff_lt_mul (by decide)]; rw [Nat.pow_succ] at h; exact h)
      omega
theorem uvar_len10 {n : Nat} (h : U64 n) : (uvar n).length ≤ 10 := uvar_len 9 n (Nat.lt_of_lt_of_le h.lt (by decide))
theorem encInt_len {n : Int} (h : I64 n) : (encInt n).length ≤ 10 := uvar_len10 (zig_lt h)
theorem uvar_ne (n : Nat) : uvar n ≠ [] := by rw [uvar]; split <;> simp

theorem wrap_u64 (n : Int) : IntKind.u64.wrap n = n % 18446744073709551616 := by simp [IntKind.wrap, IntKind.bits, IntKind.signed]
theorem wrap_u8 (n : Int) : IntKind.u8.wrap n = n % 256 := by simp [IntKind.wrap, IntKind.bits, IntKind.signed]
theorem xor_ones (x : Nat) (h : x < 18446744073709551616) : x ^^^ 18446744073709551615 = 18446744073709551615 - x := by
  have h2 : (BitVec.ofNat 64 x ^^^ BitVec.allOnes 64) = ~~~ (BitVec.ofNat 64 x) := BitVec.xor_allOnes
  have h3 := congrArg BitVec.toNat h2
  rw [BitVec.toNat_xor, BitVec.toNat_not, BitVec.toNat_allOnes, BitVec.toNat_ofNat] at h3
  rw [Nat.mod_eq_of_lt (by simpa using h)] at h3
  simpa using h3
theorem zig_bits {n : Int} (h : I64 n) : bits .xor .u64 (IntKind.u64.wrap (IntKind.u64.wrap n * 2)) (IntKind.u64.wrap (n / 9223372036854775808)) = (zig n : Int) := by
  have h1 := h.lo
  have h2 := h.hi
  rw [wrap_u64, wrap_u64, wrap_u64, u64_xor _ _ (by omega) (by omega) (by omega) (by omega)]
  unfold zig
  by_cases h0 : 0 ≤ n
  · rw [if_pos h0]
    have e1 : (n / 9223372036854775808 % 18446744073709551616).toNat = 0 := by omega
    rw [e1, Nat.xor_zero]
    omega
  · rw [if_neg h0]
    have e1 : (n / 9223372036854775808 % 18446744073709551616).toNat = 18446744073709551615 := by omega
    rw [e1, xor_ones _ (by omega)]
    omega
set_option maxRecDepth 100000 in
theorem or128 : ∀ a, a < 256 → a ||| 128 = a % 128 + 128 := by decide
theorem byte_or (u : Nat) : bits .or .u8 (IntKind.u8.wrap (u : Int)) 128 = ((hiByte u).toNat : Int) := by
  unfold hiByte
  rw [wrap_u8, show ((u : Int) % 256) = ((u % 256 : Nat) : Int) by omega, show (128 : Int) = ((128 : Nat) : Int) from rfl, u8_or_nat _ _ (by omega) (by omega), or128 _ (by omega)]
  simp only [UInt8.toNat_ofNat']
  omega
theorem byte_or' (u : Nat) : bits .or .u8 ((u : Int) % 256) 128 = ((hiByte u).toNat : Int) := by rw [← wrap_u8, byte_or]
theorem byte_wrap (u : Nat) : IntKind.u8.wrap (u : Int) = ((loByte u).toNat : Int) := by
  unfold loByte
  rw [wrap_u8]
  simp only [UInt8.toNat_ofNat']
  omega

def encText (s : List UInt8) : List UInt8 := encInt s.length ++ s
def encVal (v : Vl) : List UInt8 :=
  if v.k == 1 then 1 :: encInt v.n else if v.k == 2 then 2 :: encText v.t.data.toList else if v.k == 3 then [UInt8.ofNat (3 + v.n % 2).toNat] else [0]
def encRow (r : List Vl) : List UInt8 := encInt r.length ++ r.flatMap encVal
def encPer (a b : Int) : List UInt8 := encInt a ++ encInt b
def encVer (v : PVer) : List UInt8 := encInt v.id ++ (encInt v.sch ++ (encRow v.row ++ (encPer v.vf v.vt ++ (encPer v.sf v.st ++ (encInt v.by' ++ encInt v.un)))))
def encVers (l : List PVer) : List UInt8 := encInt l.length ++ l.flatMap encVer

theorem bytes_empty {t : ByteArray} (h : t.toList.isEmpty = true) : t.size = 0 := by
  have h2 : t = ByteArray.empty := @of_decide_eq_true _ (Classical.propDecidable _) ((@decide_eq_emptyBytes t (Classical.propDecidable _)).trans h)
  rw [h2]; rfl
theorem okVal_i64 {v : Vl} (h : okVal v = true) : I64 v.n ∧ v.t.size ≤ 200 := by
  unfold okVal at h
  split at h
  · simp at h; have := bytes_empty (t := v.t) (by simp [h.2]); exact ⟨⟨by omega, by omega⟩, by omega⟩
  split at h
  · simp at h; have := bytes_empty (t := v.t) (by simp [h.1]); exact ⟨⟨by omega, by omega⟩, by omega⟩
  split at h
  · simp at h; exact ⟨⟨by omega, by omega⟩, by omega⟩
  split at h
  · simp at h; have := bytes_empty (t := v.t) (by simp [h.1]); exact ⟨⟨by omega, by omega⟩, by omega⟩
  · simp at h
theorem encVal_len {v : Vl} (h : okVal v = true) : (encVal v).length ≤ 211 := by
  obtain ⟨h1, h2⟩ := okVal_i64 h
  have h3 := encInt_len h1
  have h4 := encInt_len (I64.nat (n := v.t.size) (by omega))
  unfold encVal encText
  repeat' split
  all_goals simp at *
  all_goals omega
theorem flatMap_len {α : Type} (f : α → List UInt8) (m : Nat) (l : List α) (h : ∀ x, x ∈ l → (f x).length ≤ m) : (l.flatMap f).length ≤ l.length * m := by
  induction l with
  | nil => simp
  | cons x l ih =>
    rw [List.flatMap_cons, List.length_append, List.length_cons, Nat.add_mul]
    have := h x (by simp)
    have := ih fun y hy => h y (by simp [hy])
    omega
theorem okRow_all {r : List Vl} (h : okRow r = true) : r.length ≤ 12 ∧ ∀ v, v ∈ r → okVal v = true := by
  unfold okRow at h
  simp only [Bool.and_eq_true, decide_eq_true_eq, List.all_eq_true] at h
  exact h
theorem encRow_len {r : List Vl} (h : okRow r = true) : (encRow r).length ≤ 2542 := by
  obtain ⟨h1, h2⟩ := okRow_all h
  have h3 := encInt_len (I64.nat (n := r.length) (by omega))
  have h4 := flatMap_len encVal 211 r fun v hv => encVal_len (h2 v hv)
  unfold encRow
  rw [List.length_append]
  omega
theorem take_flat {α β : Type} (f : α → List β) (l : List α) (k : Nat) (hk : k < l.length) : (l.take (k + 1)).flatMap f = (l.take k).flatMap f ++ f l[k] := by
  rw [List.take_succ_eq_append_getElem hk, List.flatMap_append]; simp

theorem within_i64 {n a b : Int} (h : within n a b = true) (ha : -9223372036854775808 ≤ a) (hb : b ≤ 9223372036854775807) : I64 n := by
  unfold within at h
  simp only [Bool.and_eq_true, decide_eq_true_eq] at h
  exact ⟨by omega, by omega⟩
theorem okPer_i64 {a b : Int} (h : okPer a b = true) : I64 a ∧ I64 b := by
  unfold okPer at h
  simp only [Bool.and_eq_true, decide_eq_true_eq] at h
  exact ⟨⟨by omega, by omega⟩, ⟨by omega, by omega⟩⟩
structure VerOk (v : PVer) : Prop where
  id : I64 v.id
  sch : I64 v.sch
  row : okRow v.row = true
  vf : I64 v.vf
  vt : I64 v.vt
  sf : I64 v.sf
  st : I64 v.st
  by' : I64 v.by'
  un : I64 v.un
theorem okVer_parts {v : PVer} (h : okVer v = true) : VerOk v := by
  unfold okVer at h
  simp only [Bool.and_eq_true] at h
  obtain ⟨h1, h2, h3, h4, h5, h6, h7⟩ := h
  exact ⟨within_i64 h1 (by decide) (by decide), within_i64 h3 (by decide) (by decide), h4, (okPer_i64 h5).1, (okPer_i64 h5).2, (okPer_i64 h6).1, (okPer_i64 h6).2, within_i64 h2 (by decide) (by decide), within_i64 h7 (by decide) (by decide)⟩
theorem encPer_len {a b : Int} (ha : I64 a) (hb : I64 b) : (encPer a b).length ≤ 20 := by
  have := encInt_len ha; have := encInt_len hb; simp [encPer]; omega
theorem encVer_len {v : PVer} (h : okVer v = true) : (encVer v).length ≤ 2622 := by
  obtain ⟨h1, h2, h3, h4, h5, h6, h7, h8, h9⟩ := okVer_parts h
  have := encInt_len h1; have := encInt_len h2; have := encRow_len h3; have := encPer_len h4 h5; have := encPer_len h6 h7; have := encInt_len h8; have := encInt_len h9
  simp only [encVer, List.length_append]
  omega
/-- The encoding of versions, or the error. -/
def encodeVers (l : List PVer) : List UInt8 × Int :=
  if 4096 < l.length then ([], 5) else if chk okVer none l ≠ 0 then ([], chk okVer none l) else if 1048576 < (encVers l).length then ([], 5) else (encVers l, 0)
theorem chk_all {ok : PVer → Bool} : ∀ (l : List PVer) (p : Option PVer), chk ok p l = 0 → ∀ v, v ∈ l → ok v = true
  | [], _, _, _, h => by simp at h
  | x :: l, p, h, v, hv => by
    rw [chk_cons] at h
    by_cases hx : ok x = false
    · rw [if_pos hx] at h; simp at h
    · rw [if_neg hx] at h
      by_cases ha : ahead p x = false
      · rw [if_pos ha] at h; simp at h
      · rw [if_neg ha] at h
        rcases List.mem_cons.1 hv with rfl | hv
        · simpa using hx
        · exact chk_all l _ h v hv
end Go.Proofs.Ytndlhmnablefpaa

/- What codec's Int answers. -/
import Derived.Test.YtndlhmnablefpaaEnc1
import Derived.Test.YtndlhmnablefpaaDec
namespace Go.Proofs.Ytndlhmnablefpaa
open Go.RowKit
set_option linter.unusedSimpArgs false
set_option linter.unusedVariables false
/-- A reader's answer: what was read and the offset after it, or zeros and the error. -/
def rdV {α : Type} (f : α → Value) (z : Value) (r : Rd α) : Value := match r with
  | .error e => .tuple #[z, .int .i64 0, .int .i64 e]
  | .ok (v, k) => .tuple #[f v, .int .i64 (k : Int), .int .i64 0]
def vInt (n : Int) : Value := .int .i64 n
theorem byte_at {w : World} {s : Sl UInt8} (h : kByte.Inv w s) (i : Nat) (hi : i < s.xs.length) : ∃ b o, s.A = some ⟨b, o, none⟩ ∧ b < w.heap.size ∧ w.cell? ⟨b, o + i, none⟩ = some (.int .u8 (s.xs[i].toNat : Int)) := by
  obtain ⟨b, o, hA, hb, hc, _⟩ := h.get i hi
  refine ⟨b, o, hA, hb, ?_⟩
  have := hc 0 _ rfl
  simpa [kByte, Kd.flat] using this
theorem pow7 (k : Nat) : 2 ^ (7 * k) = 128 ^ k := by rw [Nat.pow_mul]
theorem c_and (c : Nat) (h : c < 256) : bits .and .u8 (c : Int) 127 = ((c % 128 : Nat) : Int) := by
  rw [show (127 : Int) = ((127 : Nat) : Int) from rfl, u8_and_nat _ _ h (by decide), nat_mask7]
/-- The next seven bits. -/
theorem or_next {z k c : Nat} (hz : z < 128 ^ k) (hk : k ≤ 9) (hc : c < 256) (h9 : k = 9 → c ≤ 1) : bits .or .u64 (z : Int) (IntKind.u64.wrap (IntKind.u64.wrap (bits .and .u8 (c : Int) 127) * 2 ^ (7 * k))) = ((z + c % 128 * 128 ^ k : Nat) : Int) ∧ z + c % 128 * 128 ^ k < 128 ^ (k + 1) ∧ z + c % 128 * 128 ^ k < 18446744073709551616 := by
  have hp : 128 ^ k ≤ 9223372036854775808 := pow128_le hk
  have hp1 : 0 < 128 ^ k := Nat.pow_pos (by decide)
  have h1 : z + c % 128 * 128 ^ k < 128 ^ (k + 1) := by
    have h2 : (c % 128 + 1) * 128 ^ k ≤ 128 * 128 ^ k := Nat.mul_le_mul_right _ (by omega)
    rw [Nat.add_mul, Nat.one_mul] at h2
    rw [Nat.pow_succ, Nat.mul_comm (128 ^ k)]
    omega
  have h3 : z + c % 128 * 128 ^ k < 18446744073709551616 := by
    rcases Nat.lt_or_ge k 9 with h | h
    · have h4 : 128 ^ (k + 1) ≤ 128 ^ 9 := Nat.pow_le_pow_right (by decide) (by omega)
      have h5 : (128 : Nat) ^ 9 = 9223372036854775808 := by decide
      omega
    · obtain rfl : k = 9 := by omega
      have h5 : (128 : Nat) ^ 9 = 9223372036854775808 := by decide
      have h6 := h9 rfl
      rw [Nat.mod_eq_of_lt (by omega)]
      rw [h5] at hz ⊢
      rcases (show c = 0 ∨ c = 1 by omega) with rfl | rfl <;> omega
  refine ⟨?_, h1, h3⟩
  rw [c_and c hc, wrap_u64, wrap_u64, show ((2 : Int) ^ (7 * k)) = ((128 ^ k : Nat) : Int) by rw [← pow7]; push_cast; rfl]
  have e1 : (((c % 128 : Nat) : Int) % 18446744073709551616) = ((c % 128 : Nat) : Int) := by omega
  have e2 : ((c % 128 : Nat) : Int) * ((128 ^ k : Nat) : Int) = ((c % 128 * 128 ^ k : Nat) : Int) := by push_cast; rfl
  rw [e1, e2]
  generalize hy : c % 128 * 128 ^ k = y at *
  have e3 : ((y : Nat) : Int) % 18446744073709551616 = (y : Int) := by omega
  rw [e3, u64_or_nat z y (by omega) (by omega), Nat.or_comm, nat_join (7 * k) y z (by rw [pow7, ← hy]; exact Nat.mul_mod_left _ _) (by rw [pow7]; exact hz), Nat.add_comm]
theorem xor_i64_0 (a : Nat) (ha : a < 9223372036854775808) : bits .xor .i64 (a : Int) 0 = (a : Int) := by
  show IntKind.i64.wrap ((BitVec.ofInt 64 (a : Int) ^^^ BitVec.ofInt 64 0).toNat : Int) = _
  have h1 : BitVec.ofInt 64 0 = 0#64 := by decide
  rw [h1, BitVec.xor_zero, ofInt_u64 a (by omega)]
  simp [IntKind.wrap, IntKind.bits, IntKind.signed]
  omega
theorem xor_i64_1 (a : Nat) (ha : a < 9223372036854775808) : bits .xor .i64 (a : Int) (-1) = -(a : Int) - 1 := by
  show IntKind.i64.wrap ((BitVec.ofInt 64 (a : Int) ^^^ BitVec.ofInt 64 (-1)).toNat : Int) = _
  have h1 : BitVec.ofInt 64 (-1) = BitVec.allOnes 64 := by decide
  rw [h1, BitVec.xor_allOnes, BitVec.toNat_not, ofInt_u64 a (by omega)]
  simp [IntKind.wrap, IntKind.bits, IntKind.signed]
  omega
theorem zag_bits (u : Nat) (hu : u < 18446744073709551616) : bits .xor .i64 (RowKit.wrap64 ((u : Int) / 2)) (RowKit.wrap64 (-RowKit.wrap64 (bits .and .u64 (u : Int) 1))) = zag u := by
  have e1 : bits .and .u64 (u : Int) 1 = ((u % 2 : Nat) : Int) := by
    rw [show (1 : Int) = ((1 : Nat) : Int) from rfl, u64_and_nat _ _ hu (by decide), nat_mask1]
  have e2 : RowKit.wrap64 ((u : Int) / 2) = ((u / 2 : Nat) : Int) := by
    unfold RowKit.wrap64
    omega
  rw [e1, e2]
  unfold zag
  split
  · rename_i h
    rw [h]
    have : RowKit.wrap64 (-RowKit.wrap64 ((0 : Nat) : Int)) = 0 := by unfold RowKit.wrap64; omega
    rw [this]
    exact xor_i64_0 _ (by omega)
  · rename_i h
    have h1 : u % 2 = 1 := by omega
    rw [h1]
    have : RowKit.wrap64 (-RowKit.wrap64 ((1 : Nat) : Int)) = -1 := by unfold RowKit.wrap64; omega
    rw [this]
    exact xor_i64_1 _ (by omega)
theorem zag_bits2 (u : Nat) (hu : u < 18446744073709551616) : bits .xor .i64 ((u : Int) / 2) (RowKit.wrap64 (-RowKit.wrap64 (bits .and .u64 (u : Int) 1))) = zag u := by
  rw [← zag_bits u hu]
  congr 1
  unfold RowKit.wrap64
  omega
theorem dU_cons {c : UInt8} {cs : List UInt8} {k z : Nat} : dU (c :: cs) k z = if badU k c = true then .error 1 else if c.toNat < 128 then .ok (z + c.toNat % 128 * 128 ^ k, k + 1) else dU cs (k + 1) (z + c.toNat % 128 * 128 ^ k) := rfl
theorem badU_iff (k : Nat) (c : UInt8) : badU k c = true ↔ (k = 9 ∧ 1 < c.toNat) ∨ (0 < k ∧ c.toNat = 0) := by
  unfold badU
  simp
set_option maxRecDepth 100000 in
set_option maxHeartbeats 1000000 in
theorem cInt_any (s : Sl UInt8) (p : Nat) (w : World) (h : kByte.Inv w s) (hp : p ≤ 9223372036854775807) :
    Ans Try.prog 86 #[.slice s.A s.xs.length s.cap, .int .i64 (p : Int)] w (rdV vInt (vInt 0) (dInt s.xs p)) := by
  unfold Ans
  have HI := Lib.hid h
  have hle := h.le
  have hmx : s.cap ≤ 9223372036854775807 := h.mx
  clear h
  by_cases hpl : s.xs.length < p
  · have hpl' : (s.xs.length : Int) < (p : Int) := by omega
    have hd : dInt s.xs p = .error 6 := by unfold dInt; rw [if_pos hpl]
    have HD := Lib.hid hd
    clear hd
    go_enter Try.func86, Try.ntmps86
    go_wp2_with fail
    go_ret3
    exact ⟨by rw [HD.out]; rfl, BW.fin⟩
  · have hpl' : ¬ (s.xs.length : Int) < (p : Int) := by omega
    have hp0 : 0 ≤ (p : Int) := by omega
    rcases Nat.lt_or_ge p s.xs.length with hlt | hge
    · obtain ⟨b, o, hA, _, _⟩ := byte_at HI.out p hlt
      have HA := Lib.hid hA
      rw [hA]
      have hcp : ¬ s.cap = p := by omega
      clear hA
      go_enter Try.func86, Try.ntmps86
      go_wp2_with fail
      go_loopw [7, 8, 9, 22] (fun u _ _ i wr => ∃ (k z : Nat), k ≤ s.xs.length - p ∧ k ≤ 9 ∧ i = .int .i64 k ∧ u = .int .u64 z ∧ Hid (dU (s.xs.drop p) 0 0 = dU (s.xs.drop (p + k)) k z) ∧ Hid (z < 128 ^ k) ∧ wr = w) (fun _ _ _ i _ => s.xs.length - (intOf i).toNat)
      case atStart => exact ⟨0, 0, Nat.zero_le _, Nat.zero_le _, rfl, rfl, rfl, by show (0 : Nat) < 128 ^ 0; decide, rfl⟩
      case round =>
        obtain ⟨k, z, hk, hk9, rfl, rfl, HD, HZ, rfl⟩ := hrel
        by_cases hkl : k < s.xs.length - p
        · obtain ⟨b', o', hA', hb', c0⟩ := byte_at HI.out (p + k) (by omega)
          have hA2 := hA'.symm.trans HA.out
          simp only [Option.some.injEq, Addr.mk.injEq, and_true] at hA2
          obtain ⟨rfl, rfl⟩ := hA2
          have c0' : wr.cell? ⟨b', o' + p + k, none⟩ = some (.int .u8 (s.xs[p + k].toNat : Int)) := by rw [Nat.add_assoc]; exact c0
          obtain ⟨c, hc⟩ : ∃ c, c = s.xs[p + k] := ⟨_, rfl⟩
          rw [← hc] at c0'
          clear c0
          have hc8 := c.toNat_lt
          have hdr : s.xs.drop (p + k) = c :: s.xs.drop (p + (k + 1)) := by rw [List.drop_eq_getElem_cons (by omega), ← hc]; rfl
          have HDR := Lib.hid hdr
          have HB := Lib.hid (badU_iff k c)
          clear hdr hc
          by_cases hbad : badU k c = true
          · have HBT := Lib.hid hbad
            have HX : Hid (dInt s.xs p = .error 1) := by
              show _ = _
              unfold dInt
              rw [if_neg hpl, HD.out, HDR.out, dU_cons, if_pos hbad]
            clear hbad
            go_wp2_with fail
            all_goals first
              | (go_ret3; exact ⟨by rw [HX.out]; rfl, BW.fin⟩)
              | (exfalso; have h := HB.out.1 HBT.out; simp at *; omega)
          · have HBT := Lib.hid hbad
            have h9 : k = 9 → c.toNat ≤ 1 := fun h => by
              rcases Nat.lt_or_ge 1 c.toNat with h' | h'
              · exact absurd (HB.out.2 (.inl ⟨h, h'⟩)) hbad
              · exact h'
            obtain ⟨n1, n2, n3⟩ := or_next HZ.out hk9 hc8 h9
            obtain ⟨y, hy⟩ : ∃ y, y = z + c.toNat % 128 * 128 ^ k := ⟨_, rfl⟩
            rw [← hy] at n1 n2 n3
            have HY := Lib.hid hy
            have HN2 := Lib.hid n2
            have zb := zag_bits y n3
            have zb2 := zag_bits2 y n3
            have h1 : 0 < k → c.toNat ≠ 0 := fun h h' => hbad (HB.out.2 (.inr ⟨h, h'⟩))
            have H1 := Lib.hid h1
            have H9 := Lib.hid h9
            clear hy n2 hbad h9 h1
            by_cases hc128 : c.toNat < 128
            · have HX : Hid (dInt s.xs p = .ok (zag y, p + (k + 1))) := by
                show _ = _
                unfold dInt
                rw [if_neg hpl, HD.out, HDR.out, dU_cons, if_neg (by simpa using HBT.out), if_pos hc128, ← HY.out]
              have HE : Hid (((p : Int) + (k : Int) + 1) = ((p + (k + 1) : Nat) : Int)) := by show _ = _; omega
              have hc128' : (c.toNat : Int) < 128 := by omega
              by_cases hk9' : k = 9
              · subst hk9'
                have e9 : (2 : Int) ^ (7 * 9) = 9223372036854775808 := by decide
                rw [e9] at n1
                clear e9
                have hc1 : (c.toNat : Int) ≤ 1 := by have := H9.out rfl; omega
                have hc2 : ((c.toNat : Int) == 0) = false := by have := H1.out (by decide); simpa using this
                go_wp2_with fail
                go_ret3
                exact ⟨by rw [HX.out]; show _ = Ending.returned (.tuple #[.int .i64 (zag y), .int .i64 ((p + (9 + 1) : Nat) : Int), .int .i64 0]); rw [← HE.out]; rfl, BW.fin⟩
              · have hk9i : ¬ (k : Int) = 9 := by omega
                by_cases hk0 : 0 < k
                · have hc2 : ((c.toNat : Int) == 0) = false := by have := H1.out hk0; simpa using this
                  go_wp2_with fail
                  go_ret3
                  exact ⟨by rw [HX.out]; show _ = Ending.returned (.tuple #[.int .i64 (zag y), .int .i64 ((p + (k + 1) : Nat) : Int), .int .i64 0]); rw [← HE.out]; rfl, BW.fin⟩
                · have hk0' : decide (0 < k) = false := by simpa using hk0
                  go_wp2_with fail
                  go_ret3
                  exact ⟨by rw [HX.out]; show _ = Ending.returned (.tuple #[.int .i64 (zag y), .int .i64 ((p + (k + 1) : Nat) : Int), .int .i64 0]); rw [← HE.out]; rfl, BW.fin⟩
            · have hc128' : ¬ (c.toNat : Int) < 128 := by omega
              have hk9' : ¬ k = 9 := fun h => by have := H9.out h; omega
              have hk9i : ¬ (k : Int) = 9 := by omega
              have HX : Hid (dU (s.xs.drop p) 0 0 = dU (s.xs.drop (p + (k + 1))) (k + 1) y) := by
                show _ = _
                rw [HD.out, HDR.out, dU_cons, if_neg (by simpa using HBT.out), if_neg hc128, ← HY.out]
              have hc0 : ((c.toNat : Int) == 0) = false := by simp; omega
              clear zb zb2
              go_wp2_with fail
              all_goals
                go_roundw
                case rel => exact ⟨k + 1, y, by omega, by omega, by go_num, rfl, HX, HN2, by trivial⟩
                case measure => simp [intOf]; omega
        · have HX : Hid (dInt s.xs p = .error 2) := by
            show _ = _
            unfold dInt
            rw [if_neg hpl, HD.out, List.drop_of_length_le (by omega)]
            rfl
          go_wp2_with fail
          go_ret3
          exact ⟨by rw [HX.out]; rfl, BW.fin⟩
    · have HX : Hid (dInt s.xs p = .error 2) := by
        show _ = _
        unfold dInt
        rw [if_neg hpl, List.drop_of_length_le (by omega)]
        rfl
      by_cases hcp : s.cap = p
      · have hl0 : s.xs.length = p := by omega
        go_enter Try.func86, Try.ntmps86
        go_wp2_with fail
        go_loopw [7, 8, 9, 22] (fun _ _ _ i wr => i = .int .i64 0 ∧ wr = w) (fun _ _ _ i _ => (intOf i).toNat)
        case atStart => exact ⟨rfl, rfl⟩
        case round =>
          obtain ⟨rfl, rfl⟩ := hrel
          go_wp2_with fail
          go_ret3
          exact ⟨by rw [HX.out]; rfl, BW.fin⟩
      · have hl0 : s.xs.length - p = 0 := by omega
        go_enter Try.func86, Try.ntmps86
        go_wp2_with fail
        go_loopw [7, 8, 9, 22] (fun _ _ _ i wr => i = .int .i64 0 ∧ wr = w) (fun _ _ _ i _ => (intOf i).toNat)
        case atStart => exact ⟨rfl, rfl⟩
        case round =>
          obtain ⟨rfl, rfl⟩ := hrel
          go_wp2_with fail
          go_ret3
          exact ⟨by rw [HX.out]; rfl, BW.fin⟩
end Go.Proofs.Ytndlhmnablefpaa

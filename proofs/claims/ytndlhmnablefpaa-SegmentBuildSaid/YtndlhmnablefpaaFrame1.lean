/- What frame's update, sum and get answer. -/
import Derived.Test.YtndlhmnablefpaaDecI
import Derived.Test.YtndlhmnablefpaaDec
import Derived.Test.YtndlhmnablefpaaSub
import Derived.Test.YtndlhmnablefpaaElem
import Derived.Laws.CopyOwn
import Derived.Deep.RegionHeld3
namespace Go.Proofs.Ytndlhmnablefpaa
open Go.RowKit
set_option linter.unusedSimpArgs false
set_option linter.unusedVariables false
theorem crcN_snoc : ∀ (n r : Nat), crcN (n + 1) r = crc1 (crcN n r)
  | 0, r => rfl
  | n + 1, r => by rw [crcN, crcN_snoc n (crc1 r)]; rfl
theorem crcL_take {l : List UInt8} {k : Nat} (hk : k < l.length) (r : Nat) : crcL r (l.take (k + 1)) = crcB (crcL r (l.take k)) l[k] := by
  rw [List.take_succ_eq_append_getElem hk, crcL_append]; rfl
theorem u32_one (r : Nat) (h : r < 4294967296) : bits .and .u32 (r : Int) 1 = ((r % 2 : Nat) : Int) := by
  rw [show (1 : Int) = ((1 : Nat) : Int) from rfl, u32_and_nat _ _ h (by decide), nat_mask1]
theorem u32_poly (r : Nat) (h : r < 4294967296) : bits .xor .u32 ((r : Int) / 2) 2197175160 = (((r / 2) ^^^ 2197175160 : Nat) : Int) := by
  rw [show (2197175160 : Int) = ((2197175160 : Nat) : Int) from rfl, show ((r : Int) / 2) = ((r / 2 : Nat) : Int) by omega, u32_xor_nat _ _ (by omega) (by decide)]
theorem u32_byte (r : Nat) (c : UInt8) (h : r < 4294967296) : bits .xor .u32 (r : Int) (c.toNat : Int) = ((r ^^^ c.toNat : Nat) : Int) := by
  rw [u32_xor_nat _ _ h (Nat.lt_trans c.toNat_lt (by decide))]
theorem crc1_odd {r : Nat} (h : r % 2 = 1) : crc1 r = (r / 2) ^^^ 2197175160 := by rw [crc1, if_pos h]
theorem crc1_even {r : Nat} (h : ¬ r % 2 = 1) : crc1 r = r / 2 := by rw [crc1, if_neg h]
set_option maxRecDepth 100000 in
set_option maxHeartbeats 1000000 in
theorem update_any (r : Nat) (hr : r < 4294967296) (s : Sl UInt8) (w : World) (h : kByte.Inv w s) :
    Ans Try.prog 98 #[.int .u32 (r : Int), .slice s.A s.xs.length s.cap] w (.int .u32 (crcL r s.xs : Int)) := by
  unfold Ans
  have HI := Lib.hid h
  have hmx : s.xs.length ≤ 9223372036854775807 := Nat.le_trans h.le h.mx
  clear h
  go_enter Try.func98, Try.ntmps98
  go_wp2_with fail
  go_loopw [0, 6, 9] (fun u _ i wr => ∃ k : Nat, k ≤ s.xs.length ∧ i = .int .i64 k ∧ u = .int .u32 (crcL r (s.xs.take k) : Int) ∧ BW w wr) (fun _ _ i _ => s.xs.length - (intOf i).toNat)
  case atStart => exact ⟨0, Nat.zero_le _, rfl, rfl, BW.refl w⟩
  case round =>
    obtain ⟨k, hk, rfl, rfl, HB⟩ := hrel
    by_cases hlt : k < s.xs.length
    · obtain ⟨b, o, hA, hb, c0⟩ := byte_at (HI.out.below HB.out) k hlt
      have HA := Lib.hid hA
      have HT := Lib.hid (crcL_take hlt r)
      rw [hA]
      clear hA
      obtain ⟨q, hq⟩ : ∃ q, q = crcL r (s.xs.take k) := ⟨_, rfl⟩
      have hq0 : q < 4294967296 := by rw [hq]; exact crcL_lt _ _ hr
      rw [← hq] at HT ⊢
      obtain ⟨c, hc⟩ : ∃ c, c = s.xs[k] := ⟨_, rfl⟩
      rw [← hc] at HT c0
      clear hq hc
      have e1 := u32_byte q c hq0
      have e0 : ((c.toNat : Int) % 4294967296) = (c.toNat : Int) := by have := c.toNat_lt; omega
      go_wp2_with fail
      clear e0 e1
      go_loopw [0, 17] (fun u j wq => ∃ (m v : Nat), m ≤ 8 ∧ j = .int .i64 m ∧ u = .int .u32 (v : Int) ∧ v < 4294967296 ∧ Hid (crcN (8 - m) v = crcB q c) ∧ BW w wq) (fun _ j _ => 8 - (intOf j).toNat)
      case atStart => exact ⟨0, _, Nat.zero_le _, rfl, rfl, xor_lt32 hq0 (Nat.lt_trans c.toNat_lt (by decide)), rfl, HB⟩
      case round =>
        clear HB
        obtain ⟨m, v, hm, rfl, rfl, hv, HV, HB⟩ := hrel
        by_cases hm8 : m < 8
        · have HS : Hid (crcN (8 - (m + 1)) (crc1 v) = crcB q c) := by
            have := HV.out
            rw [show 8 - m = (8 - (m + 1)) + 1 by omega] at this
            exact this
          have a1 := u32_one v hv
          have a2 := u32_poly v hv
          have HLT := Lib.hid (crc1_lt hv)
          by_cases hodd : v % 2 = 1
          · have HC := Lib.hid (crc1_odd hodd)
            go_wp2_with fail
            go_roundw
            case rel => exact ⟨m + 1, crc1 v, by omega, by go_num, by rw [HC.out], HLT.out, HS, HB⟩
            case measure => simp [intOf]; omega
          · have HC := Lib.hid (crc1_even hodd)
            go_wp2_with fail
            go_roundw
            case rel => exact ⟨m + 1, crc1 v, by omega, by go_num, by rw [HC.out]; first | rfl | (congr 1; done) | (congr 1; omega), HLT.out, HS, HB⟩
            case measure => simp [intOf]; omega
        · have HE : Hid (v = crcB q c) := by
            have := HV.out
            rw [show 8 - m = 0 by omega] at this
            exact this
          go_wp2_with fail
          go_roundw
          case rel => exact ⟨k + 1, by omega, by go_num, by rw [HT.out, HE.out], HB⟩
          case measure => simp [intOf]; omega
    · have HT : Hid (s.xs.take k = s.xs) := by show _ = _; exact List.take_of_length_le (by omega)
      go_wp2_with fail
      go_ret
      exact ⟨by rw [HT.out]; rfl, HB.out⟩
end Go.Proofs.Ytndlhmnablefpaa
/-! What frame's get, sum and put answer. -/
namespace Go.Proofs.Ytndlhmnablefpaa
open Go.RowKit
set_option linter.unusedSimpArgs false
set_option linter.unusedVariables false
theorem xor32_ones (x : Nat) (h : x < 4294967296) : x ^^^ 4294967295 = 4294967295 - x := by
  have h2 : (BitVec.ofNat 32 x ^^^ BitVec.allOnes 32) = ~~~ (BitVec.ofNat 32 x) := BitVec.xor_allOnes
  have h3 := congrArg BitVec.toNat h2
  rw [BitVec.toNat_xor, BitVec.toNat_not, BitVec.toNat_allOnes, BitVec.toNat_ofNat] at h3
  rw [Nat.mod_eq_of_lt (by simpa using h)] at h3
  simpa using h3
theorem not32 (v : Nat) (h : v < 4294967296) : bits .xor .u32 IntKind.u32.max (v : Int) = ((4294967295 - v : Nat) : Int) := by
  have e : IntKind.u32.max = ((4294967295 : Nat) : Int) := by decide
  rw [e, u32_xor_nat _ _ (by decide) h, Nat.xor_comm, xor32_ones v h]
theorem or4 {a b c d : Nat} (ha : a < 256) (hb : b < 256) (hc : c < 256) (hd : d < 256) :
    bits .or .u32 (bits .or .u32 (bits .or .u32 ((a : Int) % 4294967296 * 16777216 % 4294967296) ((b : Int) % 4294967296 * 65536 % 4294967296)) ((c : Int) % 4294967296 * 256 % 4294967296)) ((d : Int) % 4294967296) = ((a * 16777216 + b * 65536 + c * 256 + d : Nat) : Int) := by
  have e1 : (a : Int) % 4294967296 * 16777216 % 4294967296 = ((a * 16777216 : Nat) : Int) := by omega
  have e2 : (b : Int) % 4294967296 * 65536 % 4294967296 = ((b * 65536 : Nat) : Int) := by omega
  have e3 : (c : Int) % 4294967296 * 256 % 4294967296 = ((c * 256 : Nat) : Int) := by omega
  have e4 : (d : Int) % 4294967296 = (d : Int) := by omega
  rw [e1, e2, e3, e4, u32_or_nat _ _ (by omega) (by omega), nat_join 24 _ _ (by omega) (by omega), u32_or_nat _ _ (by omega) (by omega), nat_join 16 _ _ (by omega) (by omega), u32_or_nat _ _ (by omega) (by omega), nat_join 8 _ _ (by omega) (by omega)]
set_option maxRecDepth 100000 in
set_option maxHeartbeats 1000000 in
theorem get_any (s : Sl UInt8) (w : World) (h : kByte.Inv w s) (h4 : 4 ≤ s.xs.length) :
    Ans Try.prog 84 #[.slice s.A s.xs.length s.cap] w (.int .u32 (num4 s.xs : Int)) := by
  unfold Ans
  obtain ⟨b, o, hA, _, c0⟩ := byte_at h 0 (by omega)
  obtain ⟨b1, o1, hA1, _, c1⟩ := byte_at h 1 (by omega)
  obtain ⟨b2, o2, hA2, _, c2⟩ := byte_at h 2 (by omega)
  obtain ⟨b3, o3, hA3, _, c3⟩ := byte_at h 3 (by omega)
  rw [hA] at hA1 hA2 hA3
  simp only [Option.some.injEq, Addr.mk.injEq, and_true] at hA1 hA2 hA3
  obtain ⟨rfl, rfl⟩ := hA1
  obtain ⟨rfl, rfl⟩ := hA2
  obtain ⟨rfl, rfl⟩ := hA3
  have hN : Hid (num4 s.xs = s.xs[0].toNat * 16777216 + s.xs[1].toNat * 65536 + s.xs[2].toNat * 256 + s.xs[3].toNat) := by
    show _ = _
    simp [num4, List.getD, List.getElem?_eq_getElem (show 0 < s.xs.length by omega), List.getElem?_eq_getElem (show 1 < s.xs.length by omega), List.getElem?_eq_getElem (show 2 < s.xs.length by omega), List.getElem?_eq_getElem (show 3 < s.xs.length by omega)]
  have l0 : (0 : Int) < (s.xs.length : Int) := by omega
  have l1 : (1 : Int) < (s.xs.length : Int) := by omega
  have l2 : (2 : Int) < (s.xs.length : Int) := by omega
  have l3 : (3 : Int) < (s.xs.length : Int) := by omega
  have n0 : 0 < s.xs.length := by omega
  have n1 : 1 < s.xs.length := by omega
  have n2 : 2 < s.xs.length := by omega
  have n3 : 3 < s.xs.length := by omega
  rw [Nat.add_zero] at c0
  rw [hA]
  clear hA h
  have HO := Lib.hid (or4 (s.xs[0].toNat_lt) (s.xs[1].toNat_lt) (s.xs[2].toNat_lt) (s.xs[3].toNat_lt))
  go_enter Try.func84, Try.ntmps84
  go_wp2_with fail
  go_quiet (fail)
  go_wp2_with fail
  go_ret
  refine ⟨?_, BW.fin⟩
  rw [hN.out, ← HO.out]
  rfl
set_option maxRecDepth 100000 in
set_option maxHeartbeats 1000000 in
theorem fsum_any (s t : Sl UInt8) (w : World) (h : kByte.Inv w s) (h' : kByte.Inv w t) :
    Ans Try.prog 70 #[.slice s.A s.xs.length s.cap, .slice t.A t.xs.length t.cap] w (.int .u32 (crcSum (s.xs ++ t.xs) : Int)) := by
  unfold Ans
  have HI := Lib.hid h
  have HJ := Lib.hid h'
  have hq := crcL_lt s.xs 4294967295 (by decide)
  have HQ := Lib.hid (crcL_append 4294967295 s.xs t.xs)
  clear h h'
  obtain ⟨q, hq1⟩ : ∃ q, q = crcL 4294967295 s.xs := ⟨_, rfl⟩
  rw [← hq1] at hq HQ
  have HE := Lib.hid hq1
  obtain ⟨v, hv⟩ : ∃ v, v = crcL q t.xs := ⟨_, rfl⟩
  have hv1 : v < 4294967296 := by rw [hv]; exact crcL_lt _ _ hq
  have HV := Lib.hid hv
  have HR : Hid (crcSum (s.xs ++ t.xs) = 4294967295 - v) := by show _ = _; unfold crcSum; rw [HQ.out, hv]
  clear hq1 hv
  go_enter Try.func70, Try.ntmps70
  have HB := BW.refl w
  go_wp2_with fail
  refine Calls.mono (update_any 4294967295 (by decide) s _ (HI.out.below HB.out)) ?_
  rintro e1 w1 ⟨rfl, b1⟩
  replace HB := BW.next b1
  rw [← HE.out]
  go_wp2_with fail
  refine Calls.mono (update_any q hq t _ (HJ.out.below HB.out)) ?_
  rintro e2 w2 ⟨rfl, b2⟩
  replace HB := BW.next b2
  rw [← HV.out]
  go_wp2_with fail
  go_ret
  refine ⟨?_, HB.out⟩
  rw [HR.out, ← not32 v hv1]
  rfl
end Go.Proofs.Ytndlhmnablefpaa
/-! What frame's put and Append do. -/
namespace Go.Proofs.Ytndlhmnablefpaa
open Go.RowKit
set_option linter.unusedSimpArgs false
set_option linter.unusedVariables false
/-- Block g holds the bytes xs, and nothing else. -/
def Blk (w : World) (g : Nat) (xs : List UInt8) : Prop := w.heap[g]? = some (.cells (xs.flatMap kByte.cells).toArray 5 (0, 0))
theorem Blk.lt {w : World} {g : Nat} {xs : List UInt8} (h : Blk w g xs) : g < w.heap.size := (Array.getElem?_eq_some_iff.1 h).1
theorem bytes_cells (xs : List UInt8) : xs.flatMap kByte.cells = xs.map fun c => (Value.int .u8 (c.toNat : Int)) := by
  induction xs with
  | nil => rfl
  | cons x t ih => rw [List.flatMap_cons, ih]; rfl
theorem Blk.cell {w : World} {g : Nat} {xs : List UInt8} (h : Blk w g xs) (i : Nat) (hi : i < xs.length) : w.cell? ⟨g, i, none⟩ = some (.int .u8 (xs[i].toNat : Int)) ∧ w.frozen? ⟨g, i, none⟩ = false := by
  refine ⟨?_, by have := h; unfold Blk at this; simp [World.frozen?, this]⟩
  rw [cell_of_row w g i _ _ _ h, bytes_cells]
  simp [hi]
theorem Blk.set {w : World} {g : Nat} {xs : List UInt8} (h : Blk w g xs) (i : Nat) (c : UInt8) : Blk (w.setCell ⟨g, i, none⟩ (.int .u8 (c.toNat : Int))) g (xs.set i c) := by
  unfold Blk at *
  rw [bytes_cells] at *
  simp [World.setCell, Array.getElem?_modify, h, List.map_set]
theorem Blk.below {w w' : World} {g : Nat} {xs : List UInt8} (h : Blk w g xs) (hb : Below w.heap.size w w') : Blk w' g xs := (hb.block g h.lt).trans h
theorem Blk.inv {w : World} {g : Nat} {xs : List UInt8} (h : Blk w g xs) (hl : xs.length ≤ 9223372036854775807) : kByte.Inv w ⟨some ⟨g, 0, none⟩, xs.length, xs⟩ := lit_inv kByte xs h rfl (fun _ _ => trivial) hl
theorem byteOf_wrap (n : Nat) : IntKind.u8.wrap (n : Int) = ((byteOf n).toNat : Int) := byte_wrap n
def putAt (xs : List UInt8) (o : Nat) (l : List UInt8) : List UInt8 := xs.take o ++ l ++ xs.drop (o + l.length)
theorem putAt_len {xs l : List UInt8} {o : Nat} (h : o + l.length ≤ xs.length) : (putAt xs o l).length = xs.length := by
  unfold putAt; simp; omega
theorem putAt_snoc {xs l : List UInt8} {o : Nat} {c : UInt8} (h : o + l.length < xs.length) : (putAt xs o l).set (o + l.length) c = putAt xs o (l ++ [c]) := by
  unfold putAt
  have h1 : (xs.take o ++ l).length = o + l.length := by simp; omega
  rw [List.set_append_right _ _ (by omega), h1, Nat.sub_self, List.drop_eq_getElem_cons h, List.set_cons_zero, List.length_append, List.length_singleton]
  simp [Nat.add_assoc]
theorem four_take (n k : Nat) (hk : k < 4) : (four n).take (k + 1) = (four n).take k ++ [byteOf (n / 2 ^ (24 - 8 * k))] := by
  rcases (show k = 0 ∨ k = 1 ∨ k = 2 ∨ k = 3 by omega) with rfl | rfl | rfl | rfl
  · rfl
  · rfl
  · rfl
  · show _ = _ ++ [byteOf (n / 1)]; rw [Nat.div_one]; rfl
theorem gr_set (w : World) (g o : Nat) (v : Value) : Gr w (w.setCell ⟨g, o, none⟩ v) (some g) (some g) :=
  ⟨⟨rfl, rfl, rfl, by simp, fun k _ hne => Below.heap_setCell _ _ _ _ (fun e => hne (by rw [e]))⟩, .inl rfl⟩
set_option maxRecDepth 100000 in
set_option maxHeartbeats 1000000 in
theorem put4_any (g o n L c : Nat) (xs : List UInt8) (w : World) (h : Blk w g xs) (hL : 4 ≤ L) (ho : o + L ≤ xs.length) (hn : n < 4294967296) (hx : xs.length ≤ 9223372036854775807) :
    Calls Try.prog 69 #[.slice (some ⟨g, o, none⟩) L c, .int .u32 (n : Int)] w fun e w' => e = .returned (.tuple #[]) ∧ Blk w' g (putAt xs o (four n)) ∧ Gr w w' (some g) (some g) := by
  have H := Lib.hid h
  clear h
  go_enter Try.func69, Try.ntmps69
  go_wp2_with fail
  go_loopw [4, 5] (fun _ i wr => ∃ k : Nat, k ≤ 4 ∧ i = .int .i64 k ∧ Hid (Blk wr g (putAt xs o ((four n).take k))) ∧ Gr w wr (some g) (some g)) (fun _ i _ => 4 - (intOf i).toNat)
  case atStart => exact ⟨0, Nat.zero_le _, rfl, (by show Blk _ _ _; have : putAt xs o ((four n).take 0) = xs := by simp [putAt]
                                                    rw [this]; exact H.out), Gr.refl _ _⟩
  case round =>
    obtain ⟨k, hk, rfl, HB, HG⟩ := hrel
    by_cases hk4 : k < 4
    · have hlen : ((four n).take k).length = k := by rw [List.length_take, four_len]; omega
      obtain ⟨c0', f0⟩ := HB.out.cell (o + k) (by rw [putAt_len (by omega)]; omega)
      obtain ⟨u, c0⟩ : ∃ u, wr.cell? ⟨g, o + k, none⟩ = some u := ⟨_, c0'⟩
      have HT := Lib.hid (four_take n k hk4)
      have hkL : (k : Int) < (L : Int) := by omega
      have hkL2 : k < L := by omega
      have hs := byteOf_wrap (n / 2 ^ (24 - 8 * k))
      have HN : Hid (Blk (wr.setCell ⟨g, o + k, none⟩ (.int .u8 ((byteOf (n / 2 ^ (24 - 8 * k))).toNat : Int))) g (putAt xs o ((four n).take (k + 1)))) := by
        show Blk _ _ _
        rw [HT.out, ← putAt_snoc (by omega), hlen]
        exact HB.out.set (o + k) _
      clear c0' hlen HT
      rcases (show k = 0 ∨ k = 1 ∨ k = 2 ∨ k = 3 by omega) with rfl | rfl | rfl | rfl
      · have he : Hid (((byteOf (n / 2 ^ (24 - 8 * 0))).toNat : Int) = (n : Int) / 16777216) := by
          show _ = _
          rw [← byteOf_wrap, wrap_u8]
          omega
        clear hk hk4 hs
        (try simp only [Nat.add_zero] at c0 f0)
        go_wp2_with fail
        go_roundw
        case rel => exact ⟨1, by decide, rfl, (by show Blk _ _ _; rw [← he.out]; exact HN.out), HG.trans (gr_set _ _ _ _)⟩
        case measure => decide
      · have he : Hid (((byteOf (n / 2 ^ (24 - 8 * 1))).toNat : Int) = (n : Int) / 65536 % 256) := by
          show _ = _
          rw [← byteOf_wrap, wrap_u8]
          omega
        clear hk hk4 hs
        (try simp only [Nat.add_zero] at c0 f0)
        go_wp2_with fail
        go_roundw
        case rel => exact ⟨2, by decide, rfl, (by show Blk _ _ _; rw [← he.out]; exact HN.out), HG.trans (gr_set _ _ _ _)⟩
        case measure => decide
      · have he : Hid (((byteOf (n / 2 ^ (24 - 8 * 2))).toNat : Int) = (n : Int) / 256 % 256) := by
          show _ = _
          rw [← byteOf_wrap, wrap_u8]
          omega
        clear hk hk4 hs
        (try simp only [Nat.add_zero] at c0 f0)
        go_wp2_with fail
        go_roundw
        case rel => exact ⟨3, by decide, rfl, (by show Blk _ _ _; rw [← he.out]; exact HN.out), HG.trans (gr_set _ _ _ _)⟩
        case measure => decide
      · have he : Hid (((byteOf (n / 2 ^ (24 - 8 * 3))).toNat : Int) = (n : Int) % 256) := by
          show _ = _
          rw [← byteOf_wrap, wrap_u8]
          omega
        clear hk hk4 hs
        (try simp only [Nat.add_zero] at c0 f0)
        go_wp2_with fail
        go_roundw
        case rel => exact ⟨4, by decide, rfl, (by show Blk _ _ _; rw [← he.out]; exact HN.out), HG.trans (gr_set _ _ _ _)⟩
        case measure => decide
    · go_wp2_with fail
      go_end0
      have h4 : k = 4 := by omega
      subst h4
      exact ⟨rfl, HB.out, HG⟩
end Go.Proofs.Ytndlhmnablefpaa
/-! What frame's Append does to no bytes and a body. -/
namespace Go.Proofs.Ytndlhmnablefpaa
open Go.RowKit
set_option linter.unusedSimpArgs false
set_option linter.unusedVariables false
theorem infoz_byte : InfoZ Try.prog 5 kByte 0 1 := ⟨.int .u8 0, by kernel_rfl, rfl⟩
/-- What framing leaves. -/
def FrPost (w : World) (r : List UInt8 × Int) (e : Ending) (w' : World) : Prop := Below w.heap.size w w' ∧ ((r.2 ≠ 0 ∧ e = .returned (.tuple #[.slice none 0 0, .int .i64 r.2])) ∨ (r.2 = 0 ∧ ∃ g, e = .returned (.tuple #[.slice (some ⟨g, 0, none⟩) r.1.length r.1.length, .int .i64 0]) ∧ w.heap.size ≤ g ∧ Blk w' g r.1))
theorem put4_int (g o n L c : Nat) (N : Int) (hN : N = (n : Int)) (xs : List UInt8) (w : World) (h : Blk w g xs) (hL : 4 ≤ L) (ho : o + L ≤ xs.length) (hn : n < 4294967296) (hx : xs.length ≤ 9223372036854775807) :
    Calls Try.prog 69 #[.slice (some ⟨g, o, none⟩) L c, .int .u32 N] w fun e w' => e = .returned (.tuple #[]) ∧ Blk w' g (putAt xs o (four n)) ∧ Gr w w' (some g) (some g) := by
  subst hN; exact put4_any g o n L c xs w h hL ho hn hx
theorem fsum_len {A : Option Addr} {L c : Nat} {xs : List UInt8} (hL : L = xs.length) (t : Sl UInt8) (w : World) (h : kByte.Inv w ⟨A, c, xs⟩) (h' : kByte.Inv w t) :
    Ans Try.prog 70 #[.slice A L c, .slice t.A t.xs.length t.cap] w (.int .u32 (crcSum (xs ++ t.xs) : Int)) := by
  subst hL; exact fsum_any ⟨A, c, xs⟩ t w h h'
theorem splice_put (zs xs : List UInt8) (o : Nat) : Go.splice (zs.flatMap kByte.cells) o (xs.flatMap kByte.cells) = (putAt zs o xs).flatMap kByte.cells := by
  unfold Go.splice putAt
  rw [bytes_cells, bytes_cells, bytes_cells]
  simp [List.map_take, List.map_drop]
theorem blk_heap {w : World} {g : Nat} {xs : List UInt8} (h : Blk w g xs) : w.heap[g]? = some (.cells (xs.flatMap kByte.cells).toArray 5 (0, 0)) := h
/-- The four parts of a frame. -/
theorem frame_parts {ys xs : List UInt8} (hl : ys.length = 8 + xs.length) (hy : ys = putAt (List.replicate (8 + xs.length) (0 : UInt8)) 0 (four xs.length)) : (putAt ys 4 (four (crcSum (four xs.length ++ xs)))).length = 8 + xs.length ∧ putAt (putAt ys 4 (four (crcSum (four xs.length ++ xs)))) 8 xs = frameOf xs := by
  refine ⟨by rw [putAt_len (by rw [four_len, hl]; omega), hl], ?_⟩
  have h4 : ys.take 4 = four xs.length := by rw [hy]; simp [putAt, four]
  unfold putAt frameOf
  rw [h4]
  have e1 : (four xs.length ++ four (crcSum (four xs.length ++ xs)) ++ ys.drop (4 + (four (crcSum (four xs.length ++ xs))).length)).take 8 = four xs.length ++ four (crcSum (four xs.length ++ xs)) := by
    rw [List.take_append_of_le_length (by simp [four_len])]
    exact List.take_of_length_le (by simp [four_len])
  rw [e1, List.drop_of_length_le (by simp [four_len, hl]; omega)]
  simp
theorem Blk.sub {w : World} {g : Nat} {xs : List UInt8} (h : Blk w g xs) (hl : xs.length ≤ 9223372036854775807) (o m c : Nat) (hm : o + m ≤ xs.length) (hc1 : m ≤ c) (hc2 : c ≤ 9223372036854775807) : kByte.Inv w ⟨some ⟨g, o, none⟩, c, (xs.drop o).take m⟩ := by
  have h1 := kByte_sub (h.inv hl) (b := g) (o := 0) rfl o m hm
  rw [Nat.zero_add] at h1
  exact h1.capTo (by simp only [List.length_take, List.length_drop]; omega) hc2 (fun h => by cases h)
set_option maxRecDepth 100000 in
set_option maxHeartbeats 2000000 in
theorem append_any (s : Sl UInt8) (w : World) (h : kByte.Inv w s) :
    Calls Try.prog 42 #[.slice none 0 0, .slice s.A s.xs.length s.cap] w (FrPost w (encFrame s.xs)) := by
  have HI := Lib.hid h
  have hle := h.le
  have hmx : s.cap ≤ 9223372036854775807 := h.mx
  clear h
  go_enter Try.func42, Try.ntmps42
  by_cases hl : 1048576 < s.xs.length
  · have hl' : (1048576 : Int) < (s.xs.length : Int) := by omega
    have HX : Hid (encFrame s.xs = ([], 5)) := by show _ = _; unfold encFrame; rw [if_pos hl]
    go_wp2_with fail
    go_ret2
    exact ⟨(BW.refl w).out, .inl ⟨by rw [HX.out]; decide, by rw [HX.out]; rfl⟩⟩
  have hl' : ¬ (1048576 : Int) < (s.xs.length : Int) := by omega
  have HX : Hid (encFrame s.xs = (frameOf s.xs, 0)) := by show _ = _; unfold encFrame; rw [if_neg hl]
  have hs8 : (8 : Int) + (s.xs.length : Int) = ((8 + s.xs.length : Nat) : Int) := by omega
  have HS8 := Lib.hid hs8
  clear hl hs8
  go_wp2_with (first
    | (at_make; refine list_make kByte 0 rfl (.tmp 16) (.tmp 16) 35 5 1 rfl Try.underlying35 infoz_byte (8 + s.xs.length) _ _ rfl rfl HS8.out HS8.out (by omega) (by omega) ?_)
    | (with_reducible refine wpList_copy_nothing rfl (.tmp 18) (.tmp 19) 35 35 rfl 5 Try.underlying35 (by kernel_rfl) _ _ _ _ _ _ rfl rfl (by simp) ?_))
  have HB0 : Hid (Blk (w.alloc (.cells ((List.replicate (8 + s.xs.length) (0 : UInt8)).flatMap kByte.cells).toArray 5)) w.heap.size (List.replicate (8 + s.xs.length) 0)) := heap_alloc_new w _
  have HG0 : Gr w (w.alloc (.cells ((List.replicate (8 + s.xs.length) (0 : UInt8)).flatMap kByte.cells).toArray 5)) none none := Gr.of_below _ ((BW.refl w).alloc _).out
  refine Calls.mono (put4_int w.heap.size 0 s.xs.length (8 + s.xs.length) (8 + s.xs.length) _ (by first | rfl | omega | (rw [IntKind.wrap_u32']; omega)) (List.replicate (8 + s.xs.length) 0) _ HB0.out (by omega) (by simp) (by omega) (by simp; omega)) ?_
  rintro e1 w1 ⟨rfl, hb1, hg1⟩
  have HB1 := Lib.hid hb1
  have HG1 : BW w w1 := ⟨((BW.refl w).alloc _).out.trans (hg1.below (by simp) (fun k hk => by have := Option.some.inj hk; omega))⟩
  clear hb1 hg1
  obtain ⟨ys, hys⟩ : ∃ ys, ys = putAt (List.replicate (8 + s.xs.length) (0 : UInt8)) 0 (four s.xs.length) := ⟨_, rfl⟩
  have HYL : Hid (ys.length = 8 + s.xs.length) := by show _ = _; rw [hys, putAt_len (by simp [four_len]; omega)]; simp
  have HY4 : Hid (ys.take 4 = four s.xs.length) := by show _ = _; rw [hys]; simp [putAt, four]
  rw [← hys] at HB1
  have HYS := Lib.hid hys
  clear hys
  have hn8 : ((8 + s.xs.length : Nat) : Int) = 8 + (s.xs.length : Int) := by omega
  have h4l : (4 : Int) ≤ ((8 + s.xs.length : Nat) : Int) := by omega
  have hc4 : ¬ 8 + s.xs.length = 4 := by omega
  have h4m : (4 : Int) ≤ 8 + (s.xs.length : Int) := by omega
  have h4n : 4 ≤ 8 + s.xs.length := by omega
  go_wp2_with fail
  have HSUM : Hid (ys.take 4 ++ s.xs = four s.xs.length ++ s.xs) := by show _ = _; rw [HY4.out]
  go_region_held3 (fun _ => True) (trivial) (first
    | (go_at_call 70; refine Calls.mono (fsum_len (A := some ⟨w.heap.size, 0, none⟩) (L := 4) (c := 8 + s.xs.length) (xs := ys.take 4) (by rw [List.length_take, HYL.out]; omega) s _ ?sa ?sb) ?_; (case sa => exact ((HB1.out.below (by exact BW.fin)).sub (by rw [HYL.out]; omega) 0 4 _ (by rw [HYL.out]; omega) (by omega) (by omega))); (case sb => exact (HI.out.below HG1.out).below (by exact BW.fin)); rintro e2 w2 ⟨rfl, b2⟩; rw [HSUM.out]; have HB2 := Lib.hid (HB1.out.below (BW.next (w := w1) b2).out); have HG2 := HG1.trans (BW.next (w := w1) b2); clear b2)
    | (go_at_call 69; refine Calls.mono (put4_any w.heap.size 4 _ _ _ ys _ (HB2.out.below (by exact BW.fin)) (by omega) (by rw [HYL.out]; omega) (crcSum_lt _) (by rw [HYL.out]; omega)) ?_; rintro e3 w3 ⟨rfl, hb3, hg3⟩; have HB3 := Lib.hid hb3; have HG3 : BW w w3 := ⟨(HG2.trans (BW.mk (by exact BW.fin))).out.trans (hg3.below (by exact (HG2.trans (BW.mk (by exact BW.fin))).out.size) (fun k hk => by have := Option.some.inj hk; omega))⟩; clear hb3 hg3))
  all_goals
    have HF := Lib.hid (frame_parts HYL.out HYS.out)
    obtain ⟨zs, hzs⟩ : ∃ zs, zs = putAt ys 4 (four (crcSum (four s.xs.length ++ s.xs))) := ⟨_, rfl⟩
    rw [← hzs] at HB3 HF
    clear hzs HYS HY4 HSUM HB2 HG2 HB1 HG1 HYL
    have hcf : ∀ ad, s.A = some ad → ∀ j v, (s.xs.flatMap kByte.cells)[j]? = some v → w3.cell? (ad.add j) = some v := (HI.out.below HG3.out).flat
    have HCF := Lib.hid hcf
    have HNA : Hid (s.A = none → s.xs = []) := fun h0 => by have h1 := HI.out.nil h0; exact List.eq_nil_of_length_eq_zero (by omega)
    clear hcf
    have hzl : (zs.flatMap kByte.cells).length = 8 + s.xs.length := by rw [length_cells, HF.out.1]; exact Nat.mul_one _
    have hxl : (s.xs.flatMap kByte.cells).length = s.xs.length := by rw [length_cells]; exact Nat.mul_one _
    have HZL := Lib.hid hzl
    have HXL := Lib.hid hxl
    clear hzl hxl
    by_cases hn0 : s.xs.length = 0
    · have hn8' : 8 + s.xs.length = 8 := by omega
      go_wp2_with (with_reducible refine wpList_copy_nothing rfl (.tmp 38) (.tmp 39) 35 35 rfl 5 Try.underlying35 (by kernel_rfl) _ _ _ _ _ _ rfl rfl (by simp [hn0]) ?_)
      go_ret2
      have hx0 : s.xs = [] := List.eq_nil_of_length_eq_zero hn0
      refine ⟨HG3.out, .inr ⟨by rw [HX.out], w.heap.size, by rw [HX.out, show ((frameOf s.xs, (0 : Int)).1).length = 8 by rw [frameOf_len, hn0]]; rfl, Nat.le_refl _, ?_⟩⟩
      rw [HX.out, ← HF.out.2]
      have : putAt zs 8 s.xs = zs := by rw [hx0]; simp [putAt]
      rw [this]; exact HB3.out
    · have hn8' : ¬ 8 + s.xs.length = 8 := by omega
      have h8n : (8 : Int) ≤ ((8 + s.xs.length : Nat) : Int) := by omega
      have HH3 := Lib.hid (blk_heap HB3.out)
      go_wp2_with ((with_reducible refine wpList_copy_splice rfl (.tmp 38) (.tmp 39) 35 35 rfl 5 Try.underlying35 (by kernel_rfl) _ _ _ _ _ _ rfl rfl w.heap.size 8 (zs.flatMap kByte.cells) 5 HH3.out (s.xs.flatMap kByte.cells) ?cn ?cp ?cf ?c1 w.heap.size w HG3.out (Nat.le_refl _) ?_); (case cn => rw [HXL.out]; show _ = min _ _; omega); (case cp => exact fun _ => ⟨rfl, by
          cases hA : s.A with
          | none => exact absurd (by rw [HNA.out hA]; rfl) hn0
          | some ad => exact ⟨ad, rfl, HCF.out ad hA⟩⟩); (case cf => rw [HXL.out, HZL.out]; exact Nat.le_refl _); (case c1 => exact fun v hv => by obtain ⟨y, _, hy⟩ := List.mem_flatMap.1 hv; exact kByte.one y v hy); intro w4 hb4 hlow; have HB4 := Lib.hid hb4; clear hb4)
      go_ret2
      refine ⟨hlow, .inr ⟨by rw [HX.out], w.heap.size, by rw [HX.out, frameOf_len, Nat.add_comm]; rfl, Nat.le_refl _, ?_⟩⟩
      rw [HX.out, ← HF.out.2]
      show Blk _ _ _
      unfold Blk
      rw [← splice_put]
      exact HB4.out.out
end Go.Proofs.Ytndlhmnablefpaa
/-! What frame's Next answers. -/
namespace Go.Proofs.Ytndlhmnablefpaa
open Go.RowKit
set_option linter.unusedSimpArgs false
set_option linter.unusedVariables false
/-- What reading a frame leaves. -/
def NxPost (w : World) (r : Rd (List UInt8)) (e : Ending) (w' : World) : Prop := Below w.heap.size w w' ∧ match r with
  | .error er => e = .returned (.tuple #[.slice none 0 0, .int .i64 0, .int .i64 er])
  | .ok (x, k) => ∃ g, e = .returned (.tuple #[.slice (some ⟨g, 0, none⟩) x.length x.length, .int .i64 (k : Int), .int .i64 0]) ∧ w.heap.size ≤ g ∧ Blk w' g x
theorem NxPost.err {w w' : World} {r : Rd (List UInt8)} {er : Int} (h : r = .error er) (hb : Below w.heap.size w w') : NxPost w r (.returned (.tuple #[.slice none 0 0, .int .i64 0, .int .i64 er])) w' := by
  subst h; exact ⟨hb, rfl⟩
theorem get_len {A : Option Addr} {L c : Nat} {xs : List UInt8} (hL : L = xs.length) (w : World) (h : kByte.Inv w ⟨A, c, xs⟩) (h4 : 4 ≤ L) :
    Ans Try.prog 84 #[.slice A L c] w (.int .u32 (num4 xs : Int)) := by
  subst hL; exact get_any ⟨A, c, xs⟩ w h h4
theorem fsum_len2 {A B : Option Addr} {L c M d : Nat} {xs ys : List UInt8} (hL : L = xs.length) (hM : M = ys.length) (w : World) (h : kByte.Inv w ⟨A, c, xs⟩) (h' : kByte.Inv w ⟨B, d, ys⟩) :
    Ans Try.prog 70 #[.slice A L c, .slice B M d] w (.int .u32 (crcSum (xs ++ ys) : Int)) := by
  subst hL hM; exact fsum_any ⟨A, c, xs⟩ ⟨B, d, ys⟩ w h h'
theorem kByte_from {w : World} {b o c : Nat} {xs : List UInt8} (h : kByte.Inv w ⟨some ⟨b, o, none⟩, c, xs⟩) (k : Nat) (hk : k ≤ xs.length) : kByte.Inv w ⟨some ⟨b, o + k, none⟩, c - k, xs.drop k⟩ := by
  have := kByte_sub h rfl k (xs.length - k) (by simp only; omega)
  rwa [List.take_of_length_le (by simp)] at this
theorem kByte_upto {w : World} {b o c : Nat} {xs : List UInt8} (h : kByte.Inv w ⟨some ⟨b, o, none⟩, c, xs⟩) (k : Nat) : kByte.Inv w ⟨some ⟨b, o, none⟩, c, xs.take k⟩ := by
  have h1 := kByte_sub h rfl 0 (min k xs.length) (by simp only; omega)
  rw [Nat.add_zero, Nat.sub_zero, List.drop_zero] at h1
  rwa [show xs.take (min k xs.length) = xs.take k by rw [← List.take_take, List.take_length]] at h1
set_option maxRecDepth 100000 in
set_option maxHeartbeats 2000000 in
theorem next_any (s : Sl UInt8) (p : Nat) (w : World) (h : kByte.Inv w s) (hp : p ≤ 9223372036854775000) (hsl : s.xs.length ≤ 9223372036854770000) :
    Calls Try.prog 53 #[.slice s.A s.xs.length s.cap, .int .i64 (p : Int)] w (NxPost w (dFrame s.xs p)) := by
  have HI := Lib.hid h
  have hle := h.le
  have hmx : s.cap ≤ 9223372036854775807 := h.mx
  have hp0 : 0 ≤ (p : Int) := by omega
  clear h
  by_cases hpl : s.xs.length < p
  · have hpl' : (s.xs.length : Int) < (p : Int) := by omega
    have HX : Hid (dFrame s.xs p = .error 6) := by show _ = _; unfold dFrame; rw [if_pos hpl]
    go_enter Try.func53, Try.ntmps53
    go_wp2_with fail
    go_ret3
    exact NxPost.err HX.out (BW.refl w).out
  have hpl' : ¬ (s.xs.length : Int) < (p : Int) := by omega
  by_cases h8 : s.xs.length - p < 8
  · have HX : Hid (dFrame s.xs p = .error 2) := by show _ = _; unfold dFrame; rw [if_neg hpl, if_pos h8]
    have h8' : ((s.xs.length - p : Nat) : Int) < 8 := by omega
    by_cases hcp : s.cap = p
    · have hl0 : s.xs.length = p := by omega
      go_enter Try.func53, Try.ntmps53
      go_wp2_with fail
      go_ret3
      exact NxPost.err HX.out (BW.refl w).out
    · go_enter Try.func53, Try.ntmps53
      go_wp2_with fail
      go_ret3
      exact NxPost.err HX.out (BW.refl w).out
  have h8' : ¬ ((s.xs.length - p : Nat) : Int) < 8 := by omega
  have hcp : ¬ s.cap = p := by omega
  obtain ⟨b, o, hA, _, _⟩ := byte_at HI.out p (by omega)
  have hF0 := kByte_sub HI.out hA p (s.xs.length - p) (by omega)
  rw [List.take_of_length_le (by simp)] at hF0
  obtain ⟨F, hF⟩ : ∃ F, F = s.xs.drop p := ⟨_, rfl⟩
  have HFL : Hid (F.length = s.xs.length - p) := by show _ = _; rw [hF]; simp
  rw [← hF] at hF0
  have HF := Lib.hid hF0
  have HX : Hid (dFrame s.xs p = if 1048576 < num4 F then .error 5 else if s.xs.length - p - 8 < num4 F then .error 2
      else if num4 (F.drop 4) ≠ crcSum (F.take 4 ++ (F.drop 8).take (num4 F)) then .error 4 else .ok ((F.drop 8).take (num4 F), p + 8 + num4 F)) := by
    show _ = _
    unfold dFrame
    rw [if_neg hpl, if_neg h8, hF, List.drop_drop, List.drop_drop]
  rw [hA]
  clear hA hF0 hF
  have HB := BW.refl w
  go_enter Try.func53, Try.ntmps53
  go_wp2_with fail
  refine Calls.mono (get_len HFL.out.symm _ HF.out (by omega)) ?_
  rintro e1 w1 ⟨rfl, b1⟩
  replace HB := BW.next b1
  have HF1 := Lib.hid (HF.out.below b1)
  clear b1
  have hn32 := num4_lt F
  obtain ⟨n, hn⟩ : ∃ n, n = num4 F := ⟨_, rfl⟩
  rw [← hn] at HX hn32 ⊢
  clear hn
  have hw64 : RowKit.wrap64 (n : Int) = (n : Int) := by unfold RowKit.wrap64; omega
  by_cases h5 : 1048576 < n
  · have h5' : (1048576 : Int) < (n : Int) := by omega
    have HX5 : Hid (dFrame s.xs p = .error 5) := by show _ = _; rw [HX.out, if_pos h5]
    go_wp2_with fail
    go_ret3
    exact NxPost.err HX5.out HB.out
  have h5' : ¬ (1048576 : Int) < (n : Int) := by omega
  by_cases h2 : s.xs.length - p - 8 < n
  · have h2' : ((s.xs.length - p : Nat) : Int) - 8 < (n : Int) := by omega
    have HX5 : Hid (dFrame s.xs p = .error 2) := by show _ = _; rw [HX.out, if_neg h5, if_pos h2]
    go_wp2_with fail
    go_ret3
    exact NxPost.err HX5.out HB.out
  have h2' : ¬ ((s.xs.length - p : Nat) : Int) - 8 < (n : Int) := by omega
  have HX4 : Hid (dFrame s.xs p = if num4 (F.drop 4) ≠ crcSum (F.take 4 ++ (F.drop 8).take n) then .error 4 else .ok ((F.drop 8).take n, p + 8 + n)) := by show _ = _; rw [HX.out, if_neg h5, if_neg h2]
  have HPL : Hid (p + (s.xs.length - p) = s.xs.length ∧ p + (s.cap - p) = s.cap ∧ s.cap ≤ 9223372036854775807 ∧ s.xs.length ≤ s.cap) := ⟨by omega, by omega, hmx, hle⟩
  clear HX
  go_wp2_with fail
  obtain ⟨L, hL⟩ : ∃ L, L = s.xs.length - p := ⟨_, rfl⟩
  obtain ⟨C, hC⟩ : ∃ C, C = s.cap - p := ⟨_, rfl⟩
  have hLC : L ≤ C := by omega
  have hnL : n + 8 ≤ L := by omega
  have hC63 : C ≤ 9223372036854775807 := by omega
  rw [← hL] at HFL ⊢
  rw [← hC] at HF1 HF ⊢
  have HLC := Lib.hid (And.intro hL hC)
  clear hL hC h2 h2' h5 h5' HF
  have i1 : (4 : Int) ≤ (L : Int) := by omega
  have i2 : (4 : Int) ≤ (C : Int) := by omega
  have i3 : IntKind.i64.wrap (8 + (n : Int)) = 8 + (n : Int) := IntWalk.i64_in _ (by omega)
  have i4 : (8 : Int) ≤ 8 + (n : Int) := by omega
  have i5 : 8 + (n : Int) ≤ (C : Int) := by omega
  have i6 : (8 + (n : Int)).toNat = 8 + n := by omega
  have i7 : ¬ C = 4 := by omega
  have HBH := Lib.hid HB
  clear HB
  have HC := BW.refl w1
  by_cases hC8 : C = 8
  · have hL8 : L = 8 := by omega
    have hn0 : n = 0 := by omega
    subst hC8 hL8 hn0
    have HZ : Hid (∀ v : World, kByte.Inv v ⟨some ⟨b, o + p, none⟩, 0, (F.drop 8).take 0⟩) := by
      intro v
      exact Kd.Inv.empty _ 0 (by omega) (fun _ => rfl)
    have HX5 : Hid (dFrame s.xs p = if num4 (F.drop 4) ≠ crcSum (F.take 4) then .error 4 else .ok ([], p + 8)) := by
      show _ = _
      rw [HX4.out, List.take_zero, List.append_nil]
    clear HX4 i3 i4 i5 i6
    have i3 : IntKind.i64.wrap (8 : Int) = 8 := IntWalk.i64_in _ (by omega)
    have i3b : IntKind.i64.wrap (8 + ((0 : Nat) : Int)) = 8 := IntWalk.i64_in _ (by omega)
    go_region_held3 (fun _ => True) (trivial) (first
      | (go_at_call 84; refine Calls.mono (get_len (xs := F.drop 4) ?ga _ ?gb ?gc) ?_; (case ga => rw [List.length_drop, HFL.out]); (case gb => exact kByte_from (HF1.out.below (by exact BW.fin)) 4 (by rw [HFL.out]; omega)); (case gc => omega); rintro e2 w2 ⟨rfl, b2⟩; replace HC := BW.next b2)
      | (go_at_call 70; refine Calls.mono (fsum_len2 (xs := F.take 4) (ys := []) ?sa ?sb _ ?sc ?sd) ?_; (case sa => rw [List.length_take, HFL.out]; omega); (case sb => rfl); (case sc => exact kByte_upto (HF1.out.below (by exact BW.fin)) 4); (case sd => exact HZ.out _); rintro e3 w3 ⟨rfl, b3⟩; replace HC := BW.next b3))
    have hq1 := num4_lt (F.drop 4)
    have hq2 := crcSum_lt (F.take 4)
    by_cases hq : num4 (F.drop 4) = crcSum (F.take 4)
    · have HX6 : Hid (dFrame s.xs p = .ok ([], p + 8)) := by show _ = _; rw [HX5.out, if_neg (by simpa using hq)]
      have hqb : (((num4 (F.drop 4) : Nat) : Int) != ((crcSum (F.take 4) : Nat) : Int)) = false := by simp [hq]
      have j1 : IntKind.i64.wrap ((p : Int) + 8) = (p : Int) + 8 := IntWalk.i64_in _ (by omega)
      have HE : Hid ((p : Int) + 8 = ((p + 8 : Nat) : Int)) := by show _ = _; omega
      have HBW := Lib.hid (HBH.out.trans HC)
      clear hq hq1 hq2
      go_wp2_with (first
        | (at_make; refine list_make kByte 0 rfl (.tmp 48) (.tmp 48) 35 5 1 rfl Try.underlying35 infoz_byte 0 _ _ rfl rfl rfl rfl (by omega) (by omega) ?_; have HH3 := Lib.hid (heap_alloc_new w3 (.cells ((List.replicate 0 (0 : UInt8)).flatMap kByte.cells).toArray 5)))
        | (with_reducible refine wpList_copy_nothing rfl (.tmp 50) (.tmp 52) 35 35 rfl 5 Try.underlying35 (by kernel_rfl) _ _ _ _ _ _ rfl rfl (by simp) ?_))
      go_ret3
      refine ⟨(HBW.out.alloc _).out, ?_⟩
      rw [HX6.out]
      refine ⟨w3.heap.size, by rw [← HE.out]; rfl, HBW.out.out.size, ?_⟩
      exact HH3.out
    · have HX6 : Hid (dFrame s.xs p = .error 4) := by show _ = _; rw [HX5.out, if_pos hq]
      have hqi : ¬ (num4 (F.drop 4) : Int) = (crcSum (F.take 4) : Int) := by omega
      go_wp2_with fail
      go_ret3
      exact NxPost.err HX6.out (HBH.out.trans HC).out
  · go_region_held3 (fun _ => True) (trivial) (first
      | (go_at_call 84; refine Calls.mono (get_len (xs := F.drop 4) ?ga _ ?gb ?gc) ?_; (case ga => rw [List.length_drop, HFL.out]); (case gb => exact kByte_from (HF1.out.below (by exact BW.fin)) 4 (by rw [HFL.out]; omega)); (case gc => omega); rintro e2 w2 ⟨rfl, b2⟩; replace HC := BW.next b2)
      | (go_at_call 70; refine Calls.mono (fsum_len2 (xs := F.take 4) (ys := (F.drop 8).take n) ?sa ?sb _ ?sc ?sd) ?_; (case sa => rw [List.length_take, HFL.out]; omega); (case sb => rw [List.length_take, List.length_drop, HFL.out]; omega); (case sc => exact kByte_upto (HF1.out.below (by exact BW.fin)) 4); (case sd => exact kByte_sub (HF1.out.below (by exact BW.fin)) rfl 8 n (by rw [HFL.out]; omega)); rintro e3 w3 ⟨rfl, b3⟩; replace HC := BW.next b3))
    have hq1 := num4_lt (F.drop 4)
    have hq2 := crcSum_lt (F.take 4 ++ (F.drop 8).take n)
    by_cases hq : num4 (F.drop 4) = crcSum (F.take 4 ++ (F.drop 8).take n)
    · have HX5 : Hid (dFrame s.xs p = .ok ((F.drop 8).take n, p + 8 + n)) := by show _ = _; rw [HX4.out, if_neg (by simpa using hq)]
      have hqb : (((num4 (F.drop 4) : Nat) : Int) != ((crcSum (F.take 4 ++ (F.drop 8).take n) : Nat) : Int)) = false := by simp [hq]
      have j1 : IntKind.i64.wrap ((p : Int) + 8) = (p : Int) + 8 := IntWalk.i64_in _ (by omega)
      have j2 : IntKind.i64.wrap ((p : Int) + 8 + (n : Int)) = (p : Int) + 8 + (n : Int) := IntWalk.i64_in _ (by omega)
      have i8 : (8 : Int) ≤ (L : Int) := by omega
      have HE : Hid ((p : Int) + 8 + (n : Int) = ((p + 8 + n : Nat) : Int)) := by show _ = _; omega
      have HSUB := Lib.hid (kByte_sub (HF1.out.below HC.out) rfl 8 n (by rw [HFL.out]; omega))
      have HXN : Hid (((F.drop 8).take n).length = n) := by show _ = _; rw [List.length_take, List.length_drop, HFL.out]; omega
      have HBW := Lib.hid (HBH.out.trans HC)
      have hn47 : n ≤ 140737488355328 := by omega
      clear hq hq1 hq2
      go_wp2_with (first
        | (at_make; refine list_make kByte 0 rfl (.tmp 48) (.tmp 48) 35 5 1 rfl Try.underlying35 infoz_byte n _ _ rfl rfl rfl rfl (by omega) (by omega) ?_; have HH3 := Lib.hid (heap_alloc_new w3 (.cells ((List.replicate n (0 : UInt8)).flatMap kByte.cells).toArray 5)); have HSB := Lib.hid (HSUB.out.below ((BW.refl w3).alloc (.cells ((List.replicate n (0 : UInt8)).flatMap kByte.cells).toArray 5)).out))
        | ((with_reducible refine wpList_copy_splice rfl (.tmp 50) (.tmp 52) 35 35 rfl 5 Try.underlying35 (by kernel_rfl) _ _ _ _ _ _ rfl rfl w3.heap.size 0 ((List.replicate n (0 : UInt8)).flatMap kByte.cells) 5 HH3.out (((F.drop 8).take n).flatMap kByte.cells) ?cn ?cp ?cf ?c1 w3.heap.size w3 ?cb (Nat.le_refl _) ?_); (case cn => rw [length_cells, HXN.out]; show n * 1 = min _ _; omega); (case cp => exact fun _ => ⟨rfl, _, rfl, HSB.out.flat _ rfl⟩); (case cf => rw [length_cells, length_cells, HXN.out, List.length_replicate]; omega); (case c1 => exact fun v hv => by obtain ⟨y, _, hy⟩ := List.mem_flatMap.1 hv; exact kByte.one y v hy); (case cb => exact ((BW.refl w3).alloc _).out); intro w4 hb4 hlow; have HB4 := Lib.hid hb4; clear hb4))
      go_ret3
      refine ⟨(HBW.out.trans ⟨hlow⟩).out, ?_⟩
      rw [HX5.out]
      refine ⟨w3.heap.size, by rw [HXN.out, ← HE.out]; rfl, HBW.out.out.size, ?_⟩
      unfold Blk
      have h5 := HB4.out.out
      rw [splice_put] at h5
      have h6 : putAt (List.replicate n (0 : UInt8)) 0 ((F.drop 8).take n) = (F.drop 8).take n := by
        unfold putAt
        rw [HXN.out]; simp
      rw [h6] at h5
      exact h5
    · have HX5 : Hid (dFrame s.xs p = .error 4) := by show _ = _; rw [HX4.out, if_pos hq]
      have hqi : ¬ (num4 (F.drop 4) : Int) = (crcSum (F.take 4 ++ (F.drop 8).take n) : Int) := by omega
      go_wp2_with fail
      go_ret3
      exact NxPost.err HX5.out (HBH.out.trans HC).out
end Go.Proofs.Ytndlhmnablefpaa

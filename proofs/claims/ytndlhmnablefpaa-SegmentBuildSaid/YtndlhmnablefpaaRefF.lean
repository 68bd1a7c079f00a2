/- ref10: the checksum; a frame put behind bytes. -/
import Derived.Test.YtndlhmnablefpaaFrame1
import Derived.Test.YtndlhmnablefpaaRefW
namespace Go.Proofs.Ytndlhmnablefpaa
open Go.RowKit
set_option linter.unusedSimpArgs false
set_option linter.unusedVariables false
set_option maxRecDepth 100000 in
set_option maxHeartbeats 1000000 in
theorem step_any (r : Nat) (hr : r < 4294967296) (c : UInt8) (w : World) : Ans Try.prog 106 #[.int .u32 (r : Int), .int .u8 (c.toNat : Int)] w (.int .u32 (crcB r c : Int)) := by
  unfold Ans
  have e1 := u32_byte r c hr
  have e0 : ((c.toNat : Int) % 4294967296) = (c.toNat : Int) := by have := c.toNat_lt; omega
  go_enter Try.func106, Try.ntmps106
  go_wp2_with fail
  clear e0 e1
  go_loopw [0, 5] (fun u j wq => ∃ (m v : Nat), m ≤ 8 ∧ j = .int .i64 m ∧ u = .int .u32 (v : Int) ∧ v < 4294967296 ∧ Hid (crcN (8 - m) v = crcB r c) ∧ BW w wq) (fun _ j _ => 8 - (intOf j).toNat)
  case atStart => exact ⟨0, _, Nat.zero_le _, rfl, rfl, xor_lt32 hr (Nat.lt_trans c.toNat_lt (by decide)), rfl, BW.refl w⟩
  case round =>
    obtain ⟨m, v, hm, rfl, rfl, hv, HV, HB⟩ := hrel
    by_cases hm8 : m < 8
    · have HS : Hid (crcN (8 - (m + 1)) (crc1 v) = crcB r c) := by
        have := HV.out
        rw [show 8 - m = (8 - (m + 1)) + 1 by omega] at this
        exact this
      have a2 := u32_poly v hv
      have HLT := Lib.hid (crc1_lt hv)
      by_cases hodd : v % 2 = 1
      · have HC := Lib.hid (crc1_odd hodd)
        have hod : (v : Int) % 2 = 1 := by omega
        go_wp2_with fail
        go_roundw
        case rel => exact ⟨m + 1, crc1 v, by omega, by go_num, by rw [HC.out], HLT.out, HS, HB⟩
        case measure => simp [intOf]; omega
      · have HC := Lib.hid (crc1_even hodd)
        have hod : ¬ (v : Int) % 2 = 1 := by omega
        go_wp2_with fail
        go_roundw
        case rel => exact ⟨m + 1, crc1 v, by omega, by go_num, by rw [HC.out]; rfl, HLT.out, HS, HB⟩
        case measure => simp [intOf]; omega
    · obtain rfl : m = 8 := by omega
      have HE : Hid (v = crcB r c) := HV.out
      go_wp2_with fail
      go_ret
      exact ⟨by rw [← HE.out]; rfl, HB.out⟩
set_option maxRecDepth 100000 in
set_option maxHeartbeats 1000000 in
theorem rSum_any {A : Option Addr} {c : Nat} {xs : List UInt8} (w : World) (h : kByte.Inv w ⟨A, c, xs⟩) :
    Ans Try.prog 81 #[.slice A xs.length c] w (.int .u32 (crcSum xs : Int)) := by
  unfold Ans
  have HI := Lib.hid h
  have hmx : xs.length ≤ 9223372036854775807 := Nat.le_trans h.le h.mx
  clear h
  go_enter Try.func81, Try.ntmps81
  go_wp2_with fail
  go_loopw [3, 5, 8] (fun u _ i wr => ∃ k : Nat, k ≤ xs.length ∧ i = .int .i64 k ∧ u = .int .u32 (crcL 4294967295 (xs.take k) : Int) ∧ BW w wr) (fun _ _ i _ => xs.length - (intOf i).toNat)
  case atStart => exact ⟨0, Nat.zero_le _, rfl, rfl, BW.refl w⟩
  case round =>
    obtain ⟨k, hk, rfl, rfl, HB⟩ := hrel
    by_cases hlt : k < xs.length
    · obtain ⟨b, o, hA, hb, c0⟩ := byte_at (HI.out.below HB.out) k hlt
      have HT := Lib.hid (crcL_take hlt 4294967295)
      simp only at hA
      subst hA
      obtain ⟨q, hq⟩ : ∃ q, q = crcL 4294967295 (xs.take k) := ⟨_, rfl⟩
      have hq0 : q < 4294967296 := by rw [hq]; exact crcL_lt _ _ (by decide)
      rw [← hq] at HT ⊢
      clear hq
      go_wp2_with fail
      refine Calls.mono (step_any q hq0 xs[k] _) ?_
      rintro e1 w1 ⟨rfl, b1⟩
      replace HB := HB.trans ⟨b1⟩
      go_wp2_with fail
      go_roundw
      case rel => exact ⟨k + 1, by omega, by go_num, by rw [HT.out], HB⟩
      case measure => simp [intOf]; omega
    · have HE : Hid (xs.take k = xs) := List.take_of_length_le (by omega)
      rw [HE.out]
      have hq := crcL_lt xs 4294967295 (by decide)
      obtain ⟨v, hv⟩ : ∃ v, v = crcL 4294967295 xs := ⟨_, rfl⟩
      rw [← hv] at hq ⊢
      have HR : Hid (crcSum xs = 4294967295 - v) := by show _ = _; unfold crcSum; rw [hv]
      clear hv
      go_wp2_with fail
      go_ret
      refine ⟨?_, HB.out⟩
      rw [HR.out, ← not32 v hq]
      rfl
set_option maxRecDepth 100000 in
set_option maxHeartbeats 1000000 in
theorem rFour_any (n : Nat) (hn : n < 4294967296) (w : World) : Calls Try.prog 80 #[.int .u32 (n : Int)] w (NewB w (four n)) := by
  go_enter Try.func80, Try.ntmps80
  go_wp2_with fail
  go_ret
  refine ⟨some ⟨w.heap.size, 0, none⟩, 4, rfl, ?_, (BW.refl w).alloc _⟩
  have b1 : (((byteOf (n / 16777216)).toNat : Nat) : Int) = (n : Int) / 16777216 := by unfold byteOf; simp only [UInt8.toNat_ofNat']; omega
  have b2 : (((byteOf (n / 65536)).toNat : Nat) : Int) = (n : Int) / 65536 % 256 := by unfold byteOf; simp only [UInt8.toNat_ofNat']; omega
  have b3 : (((byteOf (n / 256)).toNat : Nat) : Int) = (n : Int) / 256 % 256 := by unfold byteOf; simp only [UInt8.toNat_ofNat']; omega
  have b4 : (((byteOf n).toNat : Nat) : Int) = (n : Int) % 256 := by unfold byteOf; simp only [UInt8.toNat_ofNat']; omega
  rw [← b1, ← b2, ← b3, ← b4]
  exact lit_inv kByte (four n) (heap_alloc_new w _) rfl (fun _ _ => trivial) (show (4 : Nat) ≤ 9223372036854775807 by decide)
set_option maxRecDepth 100000 in
set_option maxHeartbeats 2000000 in
theorem rAppend_any {A B : Option Addr} {c d : Nat} {xs ys : List UInt8} (w : World) (h1 : kByte.Inv w ⟨A, c, xs⟩) (h2 : kByte.Inv w ⟨B, d, ys⟩) (hl : xs.length ≤ 140737480000000) (hy : ys.length ≤ 1048576) :
    Calls Try.prog 51 #[.slice A xs.length c, .slice B ys.length d] w fun e w' => ∃ (A' : Option Addr) (c' : Nat), e = .returned (.tuple #[.slice A' (xs ++ frameOf ys).length c', .int .i64 0]) ∧ kByte.Inv w' ⟨A', c', xs ++ frameOf ys⟩ ∧ BW w w' := by
  have H1 := Lib.hid h1
  have H2 := Lib.hid h2
  have hy' : ¬ (1048576 : Int) < (ys.length : Int) := by omega
  have hfl := frameOf_len ys
  clear h1 h2
  go_enter Try.func51, Try.ntmps51
  go_wp2_with fail
  refine Calls.mono (rFour_any ys.length (by omega) w) ?_
  rintro e1 w1 ⟨A1, c1, rfl, hi1, HB1⟩
  obtain ⟨sz, hsz⟩ : ∃ sz, sz = four ys.length := ⟨_, rfl⟩
  have hs4 : sz.length = 4 := by rw [hsz]; rfl
  have hs4' : sz.length ≤ 4 := by omega
  rw [← hsz] at hi1 ⊢
  have HSZ := Lib.hid hsz
  have HS := Lib.hid hi1
  replace H1 := Lib.hid (H1.out.below HB1.out)
  replace H2 := Lib.hid (H2.out.below HB1.out)
  have HO0 := Lib.hid (own_empty kByte 5 w1 w1.heap.size (Nat.le_refl _))
  have HB0 : Hid (BW w1 (w1.alloc (.cells #[] 5))) := (BW.refl w1).alloc _
  clear hi1 hsz hs4
  go_wp2_with (first
    | (at_builtin; refine append_all kByte w1.heap.size rfl (.tmp 15) (.tmp 16) 35 35 5 1 rfl Try.underlying35 info_u8 _ _ [] xs rfl _ rfl ((H1.out.below HB0.out.out).src Try.underlying35) (Apd.own HO0.out) (H1.out.below HB0.out.out).inv nofoots HB0.out.out.size (by simp; omega) ?_; intro v1 w2 r1 ha hg hn; have HO1 := Lib.hid (hn (.inr ⟨HO0.out, rfl⟩)).1; have HB2 : BW w1 w2 := ⟨HB0.out.out.trans (hg.below HB0.out.out.size (fun k hk => (HO0.out.base_le k hk).1))⟩; rw [List.nil_append] at HO1; clear ha hg hn)
    | (at_builtin; refine append_all kByte w1.heap.size rfl (.tmp 17) (.tmp 18) 35 35 5 1 rfl Try.underlying35 info_u8 _ _ xs sz rfl _ rfl ((HS.out.below HB2.out).src Try.underlying35) (Apd.own HO1.out) (HS.out.below HB2.out).inv nofoots HB2.out.size (by omega) ?_; intro v2 w3 r2 ha hg hn; have HO2 := Lib.hid (hn (.inr ⟨HO1.out, rfl⟩)).1; have HB3 : BW w1 w3 := ⟨HB2.out.trans (hg.below HB2.out.size (fun k hk => (HO1.out.base_le k hk).1))⟩; have HT0 := Lib.hid (own_empty kByte 5 w3 w3.heap.size (Nat.le_refl _)); have HC0 : Hid (BW w3 (w3.alloc (.cells #[] 5))) := (BW.refl w3).alloc _; clear ha hg hn)
    | (at_builtin; refine append_all kByte w3.heap.size rfl (.tmp 21) (.tmp 22) 35 35 5 1 rfl Try.underlying35 info_u8 _ _ [] sz rfl _ rfl ((HS.out.below (HB3.trans HC0.out).out).src Try.underlying35) (Apd.own HT0.out) (HS.out.below (HB3.trans HC0.out).out).inv nofoots HC0.out.out.size (by simp; omega) ?_; intro v3 w4 r3 ha hg hn; have HT1 := Lib.hid (hn (.inr ⟨HT0.out, rfl⟩)).1; have HC1 : BW w3 w4 := ⟨HC0.out.out.trans (hg.below HC0.out.out.size (fun k hk => (HT0.out.base_le k hk).1))⟩; rw [List.nil_append] at HT1; clear ha hg hn)
    | (at_builtin; refine append_all kByte w3.heap.size rfl (.tmp 23) (.tmp 24) 35 35 5 1 rfl Try.underlying35 info_u8 _ _ sz ys rfl _ rfl ((H2.out.below (HB3.trans HC1).out).src Try.underlying35) (Apd.own HT1.out) (H2.out.below (HB3.trans HC1).out).inv nofoots HC1.out.size (by omega) ?_; intro v4 w5 r4 ha hg hn; have HT2 := Lib.hid (hn (.inr ⟨HT1.out, rfl⟩)).1; have HC2 : BW w3 w5 := ⟨HC1.out.trans (hg.below HC1.out.size (fun k hk => (HT1.out.base_le k hk).1))⟩; clear ha hg hn; obtain ⟨tt, htt⟩ : ∃ tt, tt = sz ++ ys := ⟨_, rfl⟩; rw [← htt] at HT2; have HTT := Lib.hid htt; clear htt; obtain ⟨A4, c4, rfl, hi4, _⟩ := HT2.out.sl; have HI4 := Lib.hid hi4; clear hi4))
  refine Calls.mono (rSum_any w5 HI4.out) ?_
  rintro e6 w6 ⟨rfl, b6⟩
  replace HC2 := HC2.trans ⟨b6⟩
  obtain ⟨q, hq⟩ : ∃ q, q = crcSum tt := ⟨_, rfl⟩
  have hq0 : q < 4294967296 := by rw [hq]; exact crcSum_lt _
  rw [← hq]
  have HQ := Lib.hid hq
  clear hq b6 HT2 HI4 HT1
  go_wp2_with fail
  refine Calls.mono (rFour_any q hq0 w6) ?_
  rintro e7 w7 ⟨A7, c7, rfl, hi7, HB7⟩
  obtain ⟨sq, hsq⟩ : ∃ sq, sq = four q := ⟨_, rfl⟩
  have hsq4 : sq.length = 4 := by rw [hsq]; rfl
  have hsq4' : sq.length ≤ 4 := by omega
  rw [← hsq] at hi7 ⊢
  have HSQ := Lib.hid hsq
  have HI7 := Lib.hid hi7
  replace HC2 := HC2.trans HB7
  have HO7 := Lib.hid (HO2.out.below HC2.out)
  have HB37 := HB3.trans HC2
  clear hi7 hsq hsq4 HB7 HO2
  go_wp2_with (first
    | (at_builtin; refine append_all kByte w1.heap.size rfl (.tmp 20) (.tmp 27) 35 35 5 1 rfl Try.underlying35 info_u8 _ _ (xs ++ sz) sq rfl _ rfl (HI7.out.src Try.underlying35) (Apd.own HO7.out) HI7.out.inv nofoots HB37.out.size (by rw [List.length_append]; omega) ?_; intro v8 w8 r8 ha hg hn; have HO8 := Lib.hid (hn (.inr ⟨HO7.out, rfl⟩)).1; have HB8 : BW w1 w8 := ⟨HB37.out.trans (hg.below HB37.out.size (fun k hk => (HO7.out.base_le k hk).1))⟩; clear ha hg hn)
    | (at_builtin; refine append_all kByte w1.heap.size rfl (.tmp 29) (.tmp 30) 35 35 5 1 rfl Try.underlying35 info_u8 _ _ (xs ++ sz ++ sq) ys rfl _ rfl ((H2.out.below HB8.out).src Try.underlying35) (Apd.own HO8.out) (H2.out.below HB8.out).inv nofoots HB8.out.size (by rw [List.length_append, List.length_append]; omega) ?_; intro v9 w9 r9 ha hg hn; have HO9 := Lib.hid (hn (.inr ⟨HO8.out, rfl⟩)).1; have HB9 : BW w1 w9 := ⟨HB8.out.trans (hg.below HB8.out.size (fun k hk => (HO8.out.base_le k hk).1))⟩; clear ha hg hn))
  have hfin : xs ++ sz ++ sq ++ ys = xs ++ frameOf ys := by
    rw [HSQ.out, HQ.out, HTT.out, HSZ.out]
    unfold frameOf
    simp [List.append_assoc]
  rw [hfin] at HO9
  obtain ⟨A9, c9, rfl, hi9, _⟩ := HO9.out.sl
  go_ret2
  exact ⟨A9, c9, rfl, hi9, HB1.trans HB9⟩
end Go.Proofs.Ytndlhmnablefpaa

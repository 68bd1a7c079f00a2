/- ref09: bytes put together; numbers, texts, periods written. -/
import Derived.Test.YtndlhmnablefpaaEnc1
import Derived.Test.YtndlhmnablefpaaClone
import Derived.Test.YtndlhmnablefpaaElem
import Derived.Test.YtndlhmnablefpaaSub
import Derived.Test.YtndlhmnablefpaaDecI
import Derived.Laws.IdiomStrings
import Derived.Deep.RegionHeld3
namespace Go.Proofs.Ytndlhmnablefpaa
open Go.RowKit
set_option linter.unusedSimpArgs false
set_option linter.unusedVariables false
/-- Bytes, as an answer. -/
def NewB (w : World) (ys : List UInt8) (e : Ending) (w' : World) : Prop := ∃ (A : Option Addr) (c : Nat), e = .returned (.slice A ys.length c) ∧ kByte.Inv w' ⟨A, c, ys⟩ ∧ BW w w'
set_option maxRecDepth 100000 in
set_option maxHeartbeats 1000000 in
theorem with_any {A B : Option Addr} {c d : Nat} {xs ys : List UInt8} (w : World) (h1 : kByte.Inv w ⟨A, c, xs⟩) (h2 : kByte.Inv w ⟨B, d, ys⟩) (hl : xs.length + ys.length ≤ 140737488355000) :
    Calls Try.prog 77 #[.slice A xs.length c, .slice B ys.length d] w (NewB w (xs ++ ys)) := by
  have H1 := Lib.hid h1
  have H2 := Lib.hid h2
  have HO0 := Lib.hid (own_empty kByte 5 w w.heap.size (Nat.le_refl _))
  have HB0 : Hid (BW w (w.alloc (.cells #[] 5))) := (BW.refl w).alloc _
  clear h1 h2
  go_enter Try.func77, Try.ntmps77
  go_wp2_with (first
    | (at_builtin; refine append_all kByte w.heap.size rfl (.tmp 5) (.tmp 6) 35 35 5 1 rfl Try.underlying35 info_u8 _ _ [] xs rfl _ rfl ((H1.out.below HB0.out.out).src Try.underlying35) (Apd.own HO0.out) (H1.out.below HB0.out.out).inv nofoots HB0.out.out.size (by simp; omega) ?_; intro v1 w1 r1 ha hg hn; have HO1 := Lib.hid (hn (.inr ⟨HO0.out, rfl⟩)).1; have HB1 : BW w w1 := ⟨HB0.out.out.trans (hg.below HB0.out.out.size (fun k hk => (HO0.out.base_le k hk).1))⟩; rw [List.nil_append] at HO1; clear ha hg hn)
    | (at_builtin; refine append_all kByte w.heap.size rfl (.tmp 7) (.tmp 8) 35 35 5 1 rfl Try.underlying35 info_u8 _ _ xs ys rfl _ rfl ((H2.out.below HB1.out).src Try.underlying35) (Apd.own HO1.out) (H2.out.below HB1.out).inv nofoots HB1.out.size (by omega) ?_; intro v2 w2 r2 ha hg hn; have HO2 := Lib.hid (hn (.inr ⟨HO1.out, rfl⟩)).1; have HB2 : BW w w2 := ⟨HB1.out.trans (hg.below HB1.out.size (fun k hk => (HO1.out.base_le k hk).1))⟩; clear ha hg hn))
  obtain ⟨A9, c9, rfl, hi9, _⟩ := HO2.out.sl
  go_ret
  exact ⟨A9, c9, rfl, hi9, HB2⟩
/-- The byte u % 128 + 128. -/
theorem hi_rem (u : Nat) : IntKind.u8.wrap (IntKind.u8.wrap ((u : Int).tmod 128) + 128) = ((hiByte u).toNat : Int) := by
  unfold hiByte
  rw [wrap_u8, wrap_u8, Int.tmod_eq_emod_of_nonneg (by omega)]
  simp only [UInt8.toNat_ofNat']
  omega
theorem hi_rem2 (u : Nat) : (u : Int) % 128 + 128 = ((hiByte u).toNat : Int) := by
  unfold hiByte
  simp only [UInt8.toNat_ofNat']
  omega
theorem zig_pos {n : Int} (h : I64 n) (h0 : ¬ n < 0) : IntKind.u64.wrap (2 * IntKind.u64.wrap n) = (zig n : Int) := by
  have h1 := h.lo
  have h2 := h.hi
  unfold zig
  rw [wrap_u64, wrap_u64, if_pos (by omega)]
  omega
theorem zig_neg {n : Int} (h : I64 n) (h0 : n < 0) : IntKind.u64.wrap (IntKind.u64.wrap (2 * IntKind.u64.wrap (-(n + 1))) + 1) = (zig n : Int) := by
  have h1 := h.lo
  have h2 := h.hi
  unfold zig
  rw [wrap_u64, wrap_u64, wrap_u64, if_neg (by omega)]
  omega
set_option maxRecDepth 100000 in
set_option maxHeartbeats 1000000 in
theorem rPutInt_any {A : Option Addr} {c : Nat} {xs : List UInt8} (n : Int) (hn : I64 n) (w : World) (h : kByte.Inv w ⟨A, c, xs⟩) (hl : xs.length ≤ 140737488354000) :
    Calls Try.prog 47 #[.slice A xs.length c, .int .i64 n] w (NewB w (xs ++ encInt n)) := by
  have H := Lib.hid h
  clear h
  have hlo := hn.lo
  have hhi := hn.hi
  have hlen := encInt_len hn
  go_enter Try.func47, Try.ntmps47
  have HZ := zig_lt hn
  have HZP : Hid (¬ n < 0 → (2 * n : Int) = (zig n : Int)) := fun h0 => by unfold zig; rw [if_pos (by omega)]; omega
  have HZN : Hid (n < 0 → (2 * -(n + 1) + 1 : Int) = (zig n : Int)) := fun h0 => by unfold zig; rw [if_neg (by omega)]; omega
  have HFIN : Hid (∀ (u : Nat) (ys : List UInt8), ys ++ uvar u = encInt n → u < 128 → ys ++ [loByte u] = encInt n) := fun u ys hy hu => by rw [← hy, uvar_small hu]
  by_cases h0 : n < 0
  · have hz := HZN.out h0
    go_wp2_with fail
    clear hz
    go_loopw [5, 6] (fun u v wr => ∃ (u' : Nat) (ys : List UInt8), u = .int .u64 (u' : Int) ∧ U64 u' ∧ Hid (Own kByte 5 wr w.heap.size v ys) ∧ Hid (ys ++ uvar u' = encInt n) ∧ BW w wr) (fun u _ _ => (intOf u).toNat)
    case atStart => exact ⟨zig n, [], rfl, HZ, Own.nil _ _ _ _, rfl, BW.refl w⟩
    case round =>
      obtain ⟨u, ys, rfl, HU, HO, HY, HB⟩ := hrel
      have hyl : ys.length ≤ 10 := by
        have h1 := congrArg List.length HY.out
        rw [List.length_append] at h1
        omega
      by_cases hu : u < 128
      · have hu' : ¬ (128 : Int) ≤ (u : Int) := by omega
        have hbo := byte_wrap u
        go_wp2_with (first
          | (at_builtin; refine append_one kByte w.heap.size rfl (.tmp 29) (.tmp 32) 35 5 1 rfl Try.underlying35 info_u8 _ _ ys (loByte u) _ rfl rfl _ rfl rfl (Apd.own HO.out) trivial nofoot HB.out.size (by omega) ?_; intro v1 w1 ho hg; rw [HFIN.out u ys HY.out hu] at ho; obtain ⟨A1, c1, rfl, hi1, _⟩ := ho.sl; have HI1 := Lib.hid hi1; have HB1 : BW w w1 := ⟨HB.out.trans (hg.below HB.out.size (fun k hk => (HO.out.base_le k hk).1))⟩; clear ho hg hbo hi1))
        refine Calls.mono (with_any w1 (H.out.below HB1.out) HI1.out (by omega)) ?_
        rintro e2 w2 ⟨A2, c2, rfl, hi2, HB2⟩
        have HI2 := Lib.hid hi2
        clear hi2
        go_wp2_with fail
        go_ret
        exact ⟨A2, c2, by rw [List.length_append]; rfl, HI2.out, HB1.trans HB2⟩
      · have hu' : (128 : Int) ≤ (u : Int) := by omega
        have hbo := hi_rem2 u
        have hul := HU.lt
        have hd : Hid (U64 (u / 128)) := HU.div 128
        go_wp2_with (first
          | (at_builtin; refine append_one kByte w.heap.size rfl (.tmp 20) (.tmp 25) 35 5 1 rfl Try.underlying35 info_u8 _ _ ys (hiByte u) _ rfl rfl _ rfl rfl (Apd.own HO.out) trivial nofoot HB.out.size (by omega) ?_; intro v1 w1 ho hg; have HO1 := Lib.hid ho; have HB1 : BW w w1 := ⟨HB.out.trans (hg.below HB.out.size (fun k hk => (HO.out.base_le k hk).1))⟩; clear ho hg hbo))
        go_roundw
        case rel => exact ⟨u / 128, ys ++ [hiByte u], by go_num, hd, HO1, by show _ = _; rw [List.append_assoc, ← HY.out, uvar_big hu]; rfl, HB1⟩
        case measure => simp [intOf]; omega
  · have hz := HZP.out h0
    go_wp2_with fail
    clear hz
    go_loopw [5, 6] (fun u v wr => ∃ (u' : Nat) (ys : List UInt8), u = .int .u64 (u' : Int) ∧ U64 u' ∧ Hid (Own kByte 5 wr w.heap.size v ys) ∧ Hid (ys ++ uvar u' = encInt n) ∧ BW w wr) (fun u _ _ => (intOf u).toNat)
    case atStart => exact ⟨zig n, [], rfl, HZ, Own.nil _ _ _ _, rfl, BW.refl w⟩
    case round =>
      obtain ⟨u, ys, rfl, HU, HO, HY, HB⟩ := hrel
      have hyl : ys.length ≤ 10 := by
        have h1 := congrArg List.length HY.out
        rw [List.length_append] at h1
        omega
      by_cases hu : u < 128
      · have hu' : ¬ (128 : Int) ≤ (u : Int) := by omega
        have hbo := byte_wrap u
        go_wp2_with (first
          | (at_builtin; refine append_one kByte w.heap.size rfl (.tmp 29) (.tmp 32) 35 5 1 rfl Try.underlying35 info_u8 _ _ ys (loByte u) _ rfl rfl _ rfl rfl (Apd.own HO.out) trivial nofoot HB.out.size (by omega) ?_; intro v1 w1 ho hg; rw [HFIN.out u ys HY.out hu] at ho; obtain ⟨A1, c1, rfl, hi1, _⟩ := ho.sl; have HI1 := Lib.hid hi1; have HB1 : BW w w1 := ⟨HB.out.trans (hg.below HB.out.size (fun k hk => (HO.out.base_le k hk).1))⟩; clear ho hg hbo hi1))
        refine Calls.mono (with_any w1 (H.out.below HB1.out) HI1.out (by omega)) ?_
        rintro e2 w2 ⟨A2, c2, rfl, hi2, HB2⟩
        have HI2 := Lib.hid hi2
        clear hi2
        go_wp2_with fail
        go_ret
        exact ⟨A2, c2, by rw [List.length_append]; rfl, HI2.out, HB1.trans HB2⟩
      · have hu' : (128 : Int) ≤ (u : Int) := by omega
        have hbo := hi_rem2 u
        have hul := HU.lt
        have hd : Hid (U64 (u / 128)) := HU.div 128
        go_wp2_with (first
          | (at_builtin; refine append_one kByte w.heap.size rfl (.tmp 20) (.tmp 25) 35 5 1 rfl Try.underlying35 info_u8 _ _ ys (hiByte u) _ rfl rfl _ rfl rfl (Apd.own HO.out) trivial nofoot HB.out.size (by omega) ?_; intro v1 w1 ho hg; have HO1 := Lib.hid ho; have HB1 : BW w w1 := ⟨HB.out.trans (hg.below HB.out.size (fun k hk => (HO.out.base_le k hk).1))⟩; clear ho hg hbo))
        go_roundw
        case rel => exact ⟨u / 128, ys ++ [hiByte u], by go_num, hd, HO1, by show _ = _; rw [List.append_assoc, ← HY.out, uvar_big hu]; rfl, HB1⟩
        case measure => simp [intOf]; omega
/-- Bytes that are read: where they lie, how many there are. -/
structure BS (w : World) (A : Option Addr) (N c : Nat) (xs : List UInt8) : Prop where
  inv : kByte.Inv w ⟨A, c, xs⟩
  len : N = xs.length
theorem BS.bw {w w' : World} {A : Option Addr} {N c : Nat} {xs : List UInt8} (h : BS w A N c xs) (hb : BW w w') : BS w' A N c xs := ⟨h.inv.below hb.out, h.len⟩
def NewS (w : World) (ys : List UInt8) (e : Ending) (w' : World) : Prop := ∃ (A : Option Addr) (N c : Nat), e = .returned (.slice A N c) ∧ BS w' A N c ys ∧ BW w w'
theorem NewB.s {w w' : World} {ys : List UInt8} {e : Ending} (h : NewB w ys e w') : NewS w ys e w' := by
  obtain ⟨A, c, rfl, hi, hb⟩ := h
  exact ⟨A, _, c, rfl, ⟨hi, rfl⟩, hb⟩
theorem BS.nil (w : World) : BS w none 0 0 [] := ⟨Kd.Inv.empty _ _ (by decide) (fun _ => rfl), rfl⟩
theorem with_bs {A B : Option Addr} {M N c d : Nat} {xs ys : List UInt8} (w : World) (h1 : BS w A M c xs) (h2 : BS w B N d ys) (hl : M + N ≤ 140737488355000) :
    Calls Try.prog 77 #[.slice A M c, .slice B N d] w (NewS w (xs ++ ys)) := by
  obtain ⟨i1, rfl⟩ := h1
  obtain ⟨i2, rfl⟩ := h2
  exact (with_any w i1 i2 hl).mono fun _ _ h => h.s
theorem rPutInt_bs {A : Option Addr} {N c : Nat} {xs : List UInt8} (n : Int) (hn : I64 n) (w : World) (h : BS w A N c xs) (hl : N ≤ 140737488354000) :
    Calls Try.prog 47 #[.slice A N c, .int .i64 n] w (NewS w (xs ++ encInt n)) := by
  obtain ⟨i1, rfl⟩ := h
  exact (rPutInt_any n hn w i1 hl).mono fun _ _ h => h.s
end Go.Proofs.Ytndlhmnablefpaa

/- law37.works is true. -/
import Derived.Test.YtndlhmnablefpaaOpen
import Derived.Test.YtndlhmnablefpaaSrch
import Derived.Test.YtndlhmnablefpaaSegF
import Derived.Test.YtndlhmnablefpaaSame
namespace Go.Proofs.Ytndlhmnablefpaa
open Go.RowKit
set_option linter.unusedSimpArgs false
set_option linter.unusedVariables false
theorem version37_lit (id f t : Int) (w : World) : Calls Try.prog 38 #[.int .i64 id, .int .i64 f, .int .i64 t] w fun e w' => ∃ (A : Option Addr) (c : Nat), e = .returned (.agg #[.int .i64 id, .int .i64 0, .slice A 1 c, .int .i64 0, .int .i64 1099511627776, .int .i64 f, .int .i64 t, .int .i64 1, .int .i64 2]) ∧ kVer.inv w' ⟨v37 id f t, A, c⟩ ∧ BW w w' := by
  refine (version37_any id f t w).mono ?_
  rintro e w' ⟨⟨p, A, c⟩, rfl, hp, hi, hb⟩
  simp only at hp
  subst hp
  exact ⟨A, c, rfl, hi, ⟨hb⟩⟩
theorem fits37 (id f t : Int) : Fits (v37 id f t).row := fun v hv => by
  simp only [v37, List.mem_singleton] at hv
  subst hv
  show (0 : Nat) ≤ _
  exact Nat.zero_le _
/-- Build, its versions and its answer by name. -/
theorem build_of {t : ByteArray} {tl : List UInt8} (ht : t.data.toList = tl) {A : Option Addr} {c N : Nat} {xs : List Ver} {L : List PVer} (hN : N = xs.length) (hL : pv xs = L) (size : Int) (w : World) (h : kVer.Inv w ⟨A, c, xs⟩) (hf : VFits xs) (h1 : t.size ≤ 1000000) (hl : xs.length ≤ 1000000) (r : List UInt8 × Int) (hr : r = segBuild tl L size) :
    Calls Try.prog 19 #[.string t, .slice A N c, .int .i64 size] w fun e w' => ∃ o : Sl UInt8, e = .returned (.tuple #[.slice o.A o.xs.length o.cap, .int .i64 r.2]) ∧ kByte.Inv w' o ∧ o.xs = r.1 ∧ BW w w' := by
  subst ht hN hL hr
  refine (build_any t ⟨A, c, xs⟩ size w h hf h1 hl).mono ?_
  rintro e w' ⟨o, h1, h2, h3, h4⟩
  exact ⟨o, h1, h2, h3, ⟨h4⟩⟩
/-- Open, of bytes that are a segment's. -/
theorem open_of {s : Sl UInt8} {t : List UInt8} {bs : List (List PVer)} (w : World) (h : kByte.Inv w s) (hl : s.xs.length ≤ 1000000) (hr : segOpen s.xs = .ok (t, bs)) :
    Calls Try.prog 22 #[.slice s.A s.xs.length s.cap] w fun e w' => ∃ g s', e = .returned (.tuple #[.pointer (some ⟨g, 0, none⟩), .int .i64 0]) ∧ SegAt w' g ⟨t.toArray⟩ s' ∧ bl s'.xs = bs ∧ BW w w' := by
  refine (open_any s w h hl).mono ?_
  rintro e w' ⟨hb, hm⟩
  rw [hr] at hm
  obtain ⟨g, s', h1, h2, h3⟩ := hm
  exact ⟨g, s', h1, h2, h3, ⟨hb⟩⟩
theorem search_of {g : Nat} {t : ByteArray} {s : Sl (Sl Ver)} {bs : List (List PVer)} (R : Rc) (w : World) (h : SegAt w g t s) (hb : bl s.xs = bs) (hok : SegOk bs) (r : List PVer × Nat) (hr : segSearch bs R = r) :
    Calls Try.prog 27 #[.pointer (some ⟨g, 0, none⟩), .agg #[.int .i64 R.vf, .int .i64 R.vt, .int .i64 R.sf, .int .i64 R.st]] w fun e w' => ∃ (A : Option Addr) (c : Nat) (zs : List Ver), e = .returned (.tuple #[.slice A zs.length c, .int .i64 (r.2 : Int)]) ∧ kVer.Inv w' ⟨A, c, zs⟩ ∧ pv zs = r.1 ∧ BW w w' := by
  subst hb hr
  refine (search_any g t s R w h hok.flat hok.count hok.rows).mono ?_
  rintro e w' ⟨A, c, zs, h1, h2, h3, h4⟩
  exact ⟨A, c, zs, h1, h2, h3, ⟨h4⟩⟩
theorem versions_of {g : Nat} {t : ByteArray} {s : Sl (Sl Ver)} {bs : List (List PVer)} (w : World) (h : SegAt w g t s) (hb : bl s.xs = bs) (hok : SegOk bs) (l : List PVer) (hl : bs.flatten = l) :
    Calls Try.prog 26 #[.pointer (some ⟨g, 0, none⟩)] w fun e w' => ∃ (A : Option Addr) (c : Nat) (zs : List Ver), e = .returned (.slice A zs.length c) ∧ kVer.Inv w' ⟨A, c, zs⟩ ∧ pv zs = l ∧ BW w w' := by
  subst hb hl
  refine (versions_any g t s w h hok.flat hok.rows).mono ?_
  rintro e w' ⟨A, c, zs, h1, h2, h3, h4⟩
  exact ⟨A, c, zs, h1, h2, by rw [h3, bl_flat], ⟨h4⟩⟩
theorem len_of {g : Nat} {t : ByteArray} {s : Sl (Sl Ver)} {bs : List (List PVer)} (w : World) (h : SegAt w g t s) (hb : bl s.xs = bs) (hok : SegOk bs) (n : Nat) (hn : bs.flatten.length = n) :
    Ans Try.prog 24 #[.pointer (some ⟨g, 0, none⟩)] w (.int .i64 (n : Int)) := by
  subst hb hn
  have h1 := len_any g t s w h hok.flat
  have h2 : (bl s.xs).flatten.length = (s.xs.flatMap (·.xs)).length := by rw [bl_flat]; simp [pv]
  rw [h2]; exact h1
theorem blocks_of {g : Nat} {t : ByteArray} {s : Sl (Sl Ver)} {bs : List (List PVer)} (w : World) (h : SegAt w g t s) (hb : bl s.xs = bs) (n : Nat) (hn : bs.length = n) :
    Ans Try.prog 25 #[.pointer (some ⟨g, 0, none⟩)] w (.int .i64 (n : Int)) := by
  subst hb hn
  rw [bl_len]; exact blocks_any g t s w h
/-- SameVersions of the same data. -/
theorem same_of {A B : Option Addr} {c d M N : Nat} {xs ys : List Ver} (hM : M = xs.length) (hN : N = ys.length) (w : World) (h : kVer.Inv w ⟨A, c, xs⟩) (h' : kVer.Inv w ⟨B, d, ys⟩) (he : pv xs = pv ys) :
    Ans Try.prog 16 #[.slice A M c, .slice B N d] w (.bool true) := by
  subst hM hN
  exact sameVersions_any ⟨A, c, xs⟩ ⟨B, d, ys⟩ w h h' he
set_option maxRecDepth 100000 in
set_option maxHeartbeats 2000000 in
theorem works37_any (w : World) : Ans Try.prog 18 #[] w (.bool true) := by
  unfold Ans
  go_enter Try.func18, Try.ntmps18
  go_wp2_with fail
  refine (version37_lit 1 0 4 _).mono ?_
  rintro e v1 ⟨A1, c1, rfl, hi1, HB⟩
  have HI1 := Lib.hid hi1
  clear hi1
  go_wp2_with fail
  refine (version37_lit 2 2 6 _).mono ?_
  rintro e v2 ⟨A2, c2, rfl, hi2, HB2⟩
  replace HI1 := Lib.hid (kVer.below HI1.out HB2.out)
  have HI2 := Lib.hid hi2
  replace HB := HB.trans HB2
  clear hi2 HB2
  go_wp2_with fail
  refine (version37_lit 3 8 9 _).mono ?_
  rintro e v3 ⟨A3, c3, rfl, hi3, HB3⟩
  replace HI1 := Lib.hid (kVer.below HI1.out HB3.out)
  replace HI2 := Lib.hid (kVer.below HI2.out HB3.out)
  have HI3 := Lib.hid hi3
  replace HB := HB.trans HB3
  clear hi3 HB3
  go_wp2_with fail
  obtain ⟨g, hg⟩ : ∃ g, g = v3.heap.size := ⟨_, rfl⟩
  have HL : Hid (kVer.Inv (v3.alloc (.cells #[.int .i64 1, .int .i64 0, .slice A1 1 c1, .int .i64 0, .int .i64 1099511627776, .int .i64 0, .int .i64 4, .int .i64 1, .int .i64 2, .int .i64 2, .int .i64 0, .slice A2 1 c2, .int .i64 0, .int .i64 1099511627776, .int .i64 2, .int .i64 6, .int .i64 1, .int .i64 2, .int .i64 3, .int .i64 0, .slice A3 1 c3, .int .i64 0, .int .i64 1099511627776, .int .i64 8, .int .i64 9, .int .i64 1, .int .i64 2] 59)) ⟨some ⟨g, 0, none⟩, 3, [⟨v37 1 0 4, A1, c1⟩, ⟨v37 2 2 6, A2, c2⟩, ⟨v37 3 8 9, A3, c3⟩]⟩) := by
    refine lit_inv kVer [⟨v37 1 0 4, A1, c1⟩, ⟨v37 2 2 6, A2, c2⟩, ⟨v37 3 8 9, A3, c3⟩] (heap_new hg) rfl (fun x hx => ?_) (show (3 : Nat) ≤ 9223372036854775807 by decide)
    simp only [List.mem_cons, List.not_mem_nil, or_false] at hx
    rcases hx with rfl | rfl | rfl
    · exact kVer.below HI1.out ((BW.refl v3).alloc _).out
    · exact kVer.below HI2.out ((BW.refl v3).alloc _).out
    · exact kVer.below HI3.out ((BW.refl v3).alloc _).out
  have HBA : Hid (BW w (v3.alloc (.cells #[.int .i64 1, .int .i64 0, .slice A1 1 c1, .int .i64 0, .int .i64 1099511627776, .int .i64 0, .int .i64 4, .int .i64 1, .int .i64 2, .int .i64 2, .int .i64 0, .slice A2 1 c2, .int .i64 0, .int .i64 1099511627776, .int .i64 2, .int .i64 6, .int .i64 1, .int .i64 2, .int .i64 3, .int .i64 0, .slice A3 1 c3, .int .i64 0, .int .i64 1099511627776, .int .i64 8, .int .i64 9, .int .i64 1, .int .i64 2] 59))) := HB.alloc _
  generalize hW : v3.alloc _ = W0 at HL HBA ⊢
  rw [← hg]
  clear hW hg HB HI1 HI2 HI3
  obtain ⟨B, hB⟩ : ∃ B, B = (segBuild [116] ex37 2).1 := ⟨_, rfl⟩
  have HBF : Hid ((B, (0 : Int)) = segBuild [116] ex37 2) := by show _ = _; rw [hB]; exact Prod.ext rfl ex37_err.symm
  have HOP : Hid (segOpen B = .ok ([116], chunks 2 ex37)) := by rw [hB]; exact ex37_open
  have HOK : Hid (SegOk (chunks 2 ex37)) := segOk_chunks (by decide) ex37_chk (by decide)
  have HVF : Hid (VFits [⟨v37 1 0 4, A1, c1⟩, ⟨v37 2 2 6, A2, c2⟩, ⟨v37 3 8 9, A3, c3⟩]) := fun v hv => by
    simp only [List.mem_cons, List.not_mem_nil, or_false] at hv
    rcases hv with rfl | rfl | rfl <;> exact fits37 _ _ _
  clear hB
  refine Calls.mono (build_of (tl := [116]) (L := ex37) (xs := [⟨v37 1 0 4, A1, c1⟩, ⟨v37 2 2 6, A2, c2⟩, ⟨v37 3 8 9, A3, c3⟩]) rfl rfl rfl 2 W0 HL.out HVF.out (by decide) (show (3 : Nat) ≤ 1000000 by decide) _ HBF.out) ?_
  rintro e u1 ⟨o, rfl, ho, hox, HB1⟩
  simp only at hox ⊢
  have HO := Lib.hid ho
  have HOX := Lib.hid hox
  clear ho hox
  go_wp2_with fail
  refine Calls.mono (open_of u1 HO.out (by rw [HOX.out]; exact segBuild_len HBF.out.symm (by decide)) (by rw [HOX.out]; exact HOP.out)) ?_
  rintro e u2 ⟨gs, ss, rfl, hs, hss, HB2⟩
  have HS := Lib.hid hs
  have HSS := Lib.hid hss
  have HBB := HB1.trans HB2
  clear hs hss HB1 HB2 HO HOX
  go_wp2_with fail
  refine (version37_lit 1 0 1099511627776 _).mono ?_
  rintro e u3 ⟨A4, c4, rfl, hi4, HB3⟩
  have HI4 := Lib.hid hi4
  have HS3 := Lib.hid (HS.out.bw HB3)
  replace HBB := HBB.trans HB3
  clear hi4 HS HB3
  go_wp2_with fail
  have HL4 : Hid (kVer.Inv (u3.alloc (.cells #[.int .i64 1, .int .i64 0, .slice A4 1 c4, .int .i64 0, .int .i64 1099511627776, .int .i64 0, .int .i64 1099511627776, .int .i64 1, .int .i64 2] 59)) ⟨some ⟨u3.heap.size, 0, none⟩, 1, [⟨v37 1 0 1099511627776, A4, c4⟩]⟩) := by
    refine lit_inv kVer [⟨v37 1 0 1099511627776, A4, c4⟩] (heap_alloc_new u3 _) rfl (fun x hx => ?_) (show (1 : Nat) ≤ 9223372036854775807 by decide)
    simp only [List.mem_cons, List.not_mem_nil, or_false] at hx
    subst hx
    exact kVer.below HI4.out ((BW.refl u3).alloc _).out
  have HB4 : Hid (BW u3 (u3.alloc (.cells #[.int .i64 1, .int .i64 0, .slice A4 1 c4, .int .i64 0, .int .i64 1099511627776, .int .i64 0, .int .i64 1099511627776, .int .i64 1, .int .i64 2] 59))) := (BW.refl u3).alloc _
  have HVF4 : Hid (VFits [⟨v37 1 0 1099511627776, A4, c4⟩]) := fun v hv => by
    simp only [List.mem_cons, List.not_mem_nil, or_false] at hv
    subst hv
    exact fits37 _ _ _
  refine Calls.mono (build_of (tl := [116]) (L := [v37 1 0 1099511627776]) (xs := [⟨v37 1 0 1099511627776, A4, c4⟩]) rfl rfl rfl 2 _ HL4.out HVF4.out (by decide) (show (1 : Nat) ≤ 1000000 by decide) _ ex37_bad.symm) ?_
  rintro e u4 ⟨o4, rfl, _, _, HB5⟩
  replace HBB := HBB.trans (HB4.out.trans HB5)
  have HS4 := Lib.hid (HS3.out.bw (HB4.out.trans HB5))
  clear HS3 HL4 HB4 HVF4 HB5 HI4
  go_wp2_with fail
  refine Calls.mono (search_of ⟨0, 1099511627776, 7, 9⟩ u4 HS4.out HSS.out HOK.out _ ex37_search) ?_
  rintro e u5 ⟨A5, c5, zs, rfl, hz5, hp5, HB5⟩
  have HZ5 := Lib.hid hz5
  have HP5 := Lib.hid hp5
  have HS5 := Lib.hid (HS4.out.bw HB5)
  replace HBB := HBB.trans HB5
  clear hz5 hp5 HB5 HS4
  go_wp2_with fail
  refine Calls.mono (table_any gs _ ss u5 HS5.out) ?_
  rintro e u6 ⟨rfl, b6⟩
  have HS6 := Lib.hid (HS5.out.bw ⟨b6⟩)
  replace HZ5 := Lib.hid (HZ5.out.below b6)
  replace HBB := HBB.trans ⟨b6⟩
  clear b6 HS5
  go_wp2_with fail
  refine Calls.mono (len_of u6 HS6.out HSS.out HOK.out 3 rfl) ?_
  rintro e u7 ⟨rfl, b7⟩
  have HS7 := Lib.hid (HS6.out.bw ⟨b7⟩)
  replace HZ5 := Lib.hid (HZ5.out.below b7)
  replace HBB := HBB.trans ⟨b7⟩
  clear b7 HS6
  go_wp2_with fail
  refine Calls.mono (blocks_of u7 HS7.out HSS.out 2 rfl) ?_
  rintro e u8 ⟨rfl, b8⟩
  have HS8 := Lib.hid (HS7.out.bw ⟨b8⟩)
  replace HZ5 := Lib.hid (HZ5.out.below b8)
  replace HBB := HBB.trans ⟨b8⟩
  clear b8 HS7
  go_wp2_with fail
  have HL8 := Lib.hid (HL.out.below HBB.out)
  have HL3 : Hid (kVer.Inv u8 ⟨some ⟨g, 18, none⟩, 1, [⟨v37 3 8 9, A3, c3⟩]⟩) := by
    have h1 := HL8.out.sub (b := g) (o := 0) rfl 2 1 (show (3 : Nat) ≤ 3 by decide)
    exact h1
  refine Calls.mono (same_of (ys := [⟨v37 3 8 9, A3, c3⟩]) rfl rfl u8 HZ5.out HL3.out HP5.out) ?_
  rintro e u9 ⟨rfl, b9⟩
  have HS9 := Lib.hid (HS8.out.bw ⟨b9⟩)
  replace HBB := HBB.trans ⟨b9⟩
  clear b9 HS8 HL3 HL8 HZ5 HP5
  go_wp2_with fail
  refine Calls.mono (versions_of u9 HS9.out HSS.out HOK.out ex37 rfl) ?_
  rintro e u10 ⟨A6, c6, zs6, rfl, hz6, hp6, b10⟩
  have HZ6 := Lib.hid hz6
  have HP6 := Lib.hid hp6
  replace HBB := HBB.trans b10
  have HL10 := Lib.hid (HL.out.below HBB.out)
  clear hz6 hp6 b10 HS9
  go_wp2_with fail
  refine Calls.mono (same_of (ys := [⟨v37 1 0 4, A1, c1⟩, ⟨v37 2 2 6, A2, c2⟩, ⟨v37 3 8 9, A3, c3⟩]) rfl rfl u10 HZ6.out HL10.out HP6.out) ?_
  rintro e u11 ⟨rfl, b11⟩
  replace HBB := HBB.trans ⟨b11⟩
  clear b11
  go_wp2_with fail
  go_ret
  exact ⟨rfl, (HBA.out.trans HBB).out⟩
end Go.Proofs.Ytndlhmnablefpaa

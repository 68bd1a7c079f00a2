/- What record's put does with a list of versions; EncodeVersions. -/
import Derived.Test.YtndlhmnablefpaaRec4
namespace Go.Proofs.Ytndlhmnablefpaa
open Go.RowKit
theorem WB.lt {w : World} {g B : Nat} {xs : List UInt8} (h : WB w g B xs) : g < w.heap.size := by obtain ⟨_, hg, _⟩ := h.out; exact (Array.getElem?_eq_some_iff.1 hg).1
theorem invs_keep {w w' : World} {g B : Nat} {s : Sl Ver} (h : kVer.Inv w s) (hk : WK w w' g B) (hB : ∀ k, k ∈ s.foot kVer → k < B) (hg : B ≤ g) : kVer.Inv w' s :=
  h.move fun k hkf => hk.old k (hB k hkf) (by have := hB k hkf; omega)
theorem foot_row {s : Sl Ver} {k : Nat} (hk : k < s.xs.length) {P : Nat → Prop} (h : ∀ b, b ∈ s.foot kVer → P b) : ∀ b, b ∈ s.xs[k].rowS.foot kVl → P b :=
  fun b hb => h b (List.mem_append_right _ (List.mem_flatMap.2 ⟨s.xs[k], List.getElem_mem hk, hb⟩))
theorem pv_take (l : List Ver) (k : Nat) : pv (l.take k) = (pv l).take k := by simp [pv]
theorem take_pv_len {l : List Ver} (h : ∀ v, v ∈ l → okVer v.p = true) (k : Nat) : (((pv l).take k).flatMap encVer).length ≤ l.length * 2622 := by
  refine Nat.le_trans (flatMap_len encVer 2622 _ fun x hx => ?_) (Nat.mul_le_mul_right _ ?_)
  · obtain ⟨v, hv, rfl⟩ := List.mem_map.1 (List.mem_of_mem_take hx)
    exact encVer_len (h v hv)
  · simp [pv]; omega
set_option maxRecDepth 100000 in
set_option maxHeartbeats 1000000 in
theorem putVersions_any (g B : Nat) (s : Sl Ver) (w : World) (h : WB w g B []) (hB : B ≤ w.heap.size) (hgB : B ≤ g) (hi : kVer.Inv w s) (hsB : ∀ k, k ∈ s.foot kVer → k < B) (hv : ∀ v, v ∈ s.xs → okVer v.p = true) (hl : s.xs.length ≤ 4096) :
    Calls Try.prog 75 #[.pointer (some ⟨g, 0, none⟩), .slice s.A s.xs.length s.cap, .func (.func 76) #[] #[]] w fun e w' => e = .returned (.tuple #[]) ∧ WB w' g B (encVers (pv s.xs)) ∧ WK w w' g B := by
  have H := Lib.hid h
  have HI := Lib.hid hi
  have HSB := Lib.hid hsB
  have HV := Lib.hid hv
  have HL := Lib.hid (take_pv_len hv)
  have hmx : s.xs.length ≤ 9223372036854775807 := by omega
  have hx2 : I64 (s.xs.length : Int) := I64.nat (by omega)
  have hla : (encInt (s.xs.length : Int)).length ≤ 10 := encInt_len hx2
  clear h hi hsB hv
  go_enter Try.func75, Try.ntmps75
  go_wp2_with (go_at_call 103; refine (bufInt_any g B _ [] _ H.out hB (by decide) hx2).mono ?_; rintro e w1 ⟨rfl, hwb, hwk⟩)
  have H1 := Lib.hid hwb
  have HK1 := Lib.hid hwk
  have hB1 := Nat.le_trans hB hwk.size
  clear hwb hwk
  go_loopw [7, 16] (fun _ i wr => ∃ k : Nat, k ≤ s.xs.length ∧ i = .int .i64 k ∧ Hid (WB wr g B (encInt (s.xs.length : Int) ++ ((pv s.xs).take k).flatMap encVer)) ∧ Hid (WK w wr g B)) (fun _ i _ => s.xs.length - (intOf i).toNat)
  case atStart => exact ⟨0, Nat.zero_le _, rfl, (by show WB _ _ _ _; simpa using H1.out), HK1⟩
  case round =>
    clear H1 HK1 hB1
    obtain ⟨k, hk, rfl, H1, HK1⟩ := hrel
    have hB1 := Nat.le_trans hB HK1.out.size
    have HI1 := Lib.hid (invs_keep HI.out HK1.out HSB.out hgB)
    by_cases hlt : k < s.xs.length
    · obtain ⟨b, o, hA, hb, c0, c1, c2, c3, c4, c5, c6, c7, c8, hr⟩ := ver_at HI1.out k hlt
      have HA := Lib.hid hA
      have HR := Lib.hid hr
      clear hr
      rw [hA]
      clear hA
      go_wp2_with (go_at_call 76; refine (wVersion_any g B s.xs[k] _ _ (H1.out.below (by exact BW.fin)) ?_ hgB ?_ (HV.out _ (List.getElem_mem hlt)) (HR.out.below (by exact BW.fin)) (foot_row hlt HSB.out)).mono ?_; (simp; omega); (simp only [List.length_append]; have := HL.out k; omega); rintro e w2 ⟨rfl, hwb, hwk⟩)
      have HK2 := Lib.hid (HK1.out.trans ((WK.of_below hB1 (BW.fin (w := wr))).trans hwk))
      have H2 := Lib.hid hwb
      clear hwb hwk
      go_roundw
      case rel => exact ⟨k + 1, by omega, by go_num, (by show WB _ _ _ _; rw [take_flat _ _ _ (by simpa [pv] using hlt), ← List.append_assoc]; simpa [pv] using H2.out), HK2⟩
      case measure => simp [intOf]; omega
    · go_wp2
      go_end0
      exact ⟨rfl, by have := H1.out; rw [List.take_of_length_le (by simp [pv]; omega)] at this; simpa [encVers, pv] using this, HK1.out⟩

/-- Bytes made by a call, and an error. -/
def BytesE (w : World) (r : List UInt8 × Int) (v : Value) (w' : World) : Prop :=
  ∃ s : Sl UInt8, v = .tuple #[.slice s.A s.xs.length s.cap, .int .i64 r.2] ∧ kByte.Inv w' s ∧ s.xs = r.1 ∧ ∀ k, k ∈ s.foot kByte → w.heap.size ≤ k
theorem BytesE.none (w w' : World) (e : Int) : BytesE w ([], e) (.tuple #[.slice none 0 0, .int .i64 e]) w' :=
  ⟨⟨Option.none, 0, []⟩, rfl, ⟨Nat.le_refl _, by decide, fun _ => rfl, fun h => absurd rfl h, fun _ _ => trivial⟩, rfl, fun k hk => by simp [Sl.foot, Sl.blk] at hk⟩
theorem encodeVers_long {l : List PVer} (h : 4096 < l.length) : encodeVers l = ([], 5) := by rw [encodeVers, if_pos h]
theorem encodeVers_bad {l : List PVer} (h : ¬ 4096 < l.length) (hc : chk okVer none l ≠ 0) : encodeVers l = ([], chk okVer none l) := by rw [encodeVers, if_neg h, if_pos hc]
theorem encodeVers_big {l : List PVer} (h : ¬ 4096 < l.length) (hc : chk okVer none l = 0) (hb : 1048576 < (encVers l).length) : encodeVers l = ([], 5) := by rw [encodeVers, if_neg h, if_neg (by simp [hc]), if_pos hb]
theorem encodeVers_ok {l : List PVer} (h : ¬ 4096 < l.length) (hc : chk okVer none l = 0) (hb : ¬ 1048576 < (encVers l).length) : encodeVers l = (encVers l, 0) := by rw [encodeVers, if_neg h, if_neg (by simp [hc]), if_neg hb]
theorem WK.below {w w' : World} {g B : Nat} (h : WK w w' g B) {C : Nat} (hB : C ≤ B) (hg : C ≤ g) : Below C w w' := ⟨h.os, h.tape, h.output, h.size, fun k hk => h.old k (by omega) (by omega)⟩
theorem pv_ok {l : List Ver} (h : chk okVer none (pv l) = 0) : ∀ v, v ∈ l → okVer v.p = true := fun v hv => chk_all _ _ h v.p (List.mem_map.2 ⟨v, hv, rfl⟩)
set_option maxRecDepth 100000 in
set_option maxHeartbeats 1000000 in
theorem encodeVersions_any (s : Sl Ver) (w : World) (hi : kVer.Inv w s) (hf : VFits s.xs) :
    AnsR Try.prog 44 #[.slice s.A s.xs.length s.cap] w (BytesE w (encodeVers (pv s.xs))) := by
  refine AnsR.of ?_
  have HI := Lib.hid hi
  have HC := Lib.hid (checkVersions_any s w hi hf)
  have hmx : s.xs.length ≤ 9223372036854775807 := Nat.le_trans hi.le hi.mx
  have hpl : (pv s.xs).length = s.xs.length := by simp [pv]
  have HPL := Lib.hid hpl
  clear hi hf hpl
  go_enter Try.func44, Try.ntmps44
  by_cases hlong : 4096 < s.xs.length
  · go_wp2_with fail
    go_ret2
    rw [encodeVers_long (by rw [HPL.out]; exact hlong)]
    exact AnsPost.mk (BytesE.none _ _ _) (Below.refl _ _)
  by_cases hc : chk okVer none (pv s.xs) = 0
  · have hcb : (chk okVer none (pv s.xs) != 0) = false := by simp [hc]
    have HV := Lib.hid (pv_ok hc)
    have HCZ := Lib.hid hc
    clear hc
    go_wp2_with (go_at_call 74; refine HC.out.mono ?_; rintro e w1 ⟨rfl, hb1⟩)
    have HB1 := Lib.hid hb1
    clear hb1
    go_wp2_with (go_at_call 75; refine (putVersions_any w1.heap.size w1.heap.size s _ ⟨_, heap_alloc_new w1 _, Own.nil _ _ _ _⟩ (by simp) (Nat.le_refl _) ((HI.out.below HB1.out).below (by exact BW.fin)) ((HI.out.below HB1.out).lt) HV.out (by omega)).mono ?_; rintro e w2 ⟨rfl, hwb, hwk⟩; obtain ⟨v2, hg2, ho2⟩ := hwb.out; obtain ⟨A2, c2, rfl, hi2, hk2⟩ := ho2.sl; have hcell := (cell_of_wb hg2).1; have HW2 := Lib.hid hwk; have HI2 := Lib.hid hi2; have HK2 := Lib.hid hk2; clear hwb hg2 ho2 hi2 hk2 hwk)
    all_goals
      have hbb : Below w.heap.size w w2 := HB1.out.trans ((((Below.refl w1.heap.size w1).alloc (Nat.le_refl _) _).trans (HW2.out.below (Nat.le_refl _) (Nat.le_refl _))).mono HB1.out.size)
      go_ret2
    · rw [encodeVers_big (by rw [HPL.out]; exact hlong) HCZ.out (by omega)]
      exact AnsPost.mk (BytesE.none _ _ _) hbb
    · rw [encodeVers_ok (by rw [HPL.out]; exact hlong) HCZ.out (by omega)]
      refine AnsPost.mk ⟨⟨A2, c2, encVers (pv s.xs)⟩, rfl, HI2.out, rfl, fun k hk => ?_⟩ hbb
      have h0 : List.flatMap kByte.foot (encVers (pv s.xs)) = [] := by simp [kByte, Kd.flat]
      rcases List.mem_append.1 hk with hk | hk
      · obtain ⟨a, ha, rfl, _⟩ := mem_blk hk
        exact Nat.le_trans HB1.out.size (HK2.out a ha).2
      · rw [h0] at hk; simp at hk
  · have hcb : (chk okVer none (pv s.xs) != 0) = true := by simpa using hc
    have HCN := Lib.hid hc
    clear hc
    go_wp2_with (go_at_call 74; refine HC.out.mono ?_; rintro e w1 ⟨rfl, hb1⟩)
    go_ret2
    rw [encodeVers_bad (by rw [HPL.out]; exact hlong) HCN.out]
    exact AnsPost.mk (BytesE.none _ _ _) hb1
end Go.Proofs.Ytndlhmnablefpaa

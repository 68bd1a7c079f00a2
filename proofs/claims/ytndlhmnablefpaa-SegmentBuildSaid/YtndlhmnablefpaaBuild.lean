/- What segment.Build answers. -/
import Derived.Test.YtndlhmnablefpaaHead
import Derived.Test.YtndlhmnablefpaaChk
import Derived.Test.YtndlhmnablefpaaWord
import Derived.Test.YtndlhmnablefpaaFrame1
namespace Go.Proofs.Ytndlhmnablefpaa
open Go.RowKit
set_option linter.unusedSimpArgs false
set_option linter.unusedVariables false
/-- Bytes and an error. -/
def BuiltPost (w : World) (r : List UInt8 × Int) (e : Ending) (w' : World) : Prop := ∃ o : Sl UInt8, e = .returned (.tuple #[.slice o.A o.xs.length o.cap, .int .i64 r.2]) ∧ kByte.Inv w' o ∧ o.xs = r.1 ∧ Below w.heap.size w w'
theorem BuiltPost.none {w w' : World} {r : List UInt8 × Int} {er : Int} (hr : r = ([], er)) (hb : Below w.heap.size w w') : BuiltPost w r (.returned (.tuple #[.slice Option.none 0 0, .int .i64 er])) w' := by
  subst hr; exact ⟨⟨Option.none, 0, []⟩, rfl, Kd.Inv.empty _ _ (by decide) (fun _ => rfl), rfl, hb⟩
theorem Apd.inv {w : World} {base : Nat} {v : Value} {row : Option Nat} {xs : List UInt8} (h : Apd kByte 5 w base v row xs) : ∃ A c, v = .slice A xs.length c ∧ kByte.Inv w ⟨A, c, xs⟩ := by
  cases h with
  | own h => obtain ⟨A, c, hv, hi, _⟩ := h.sl; exact ⟨A, c, hv, hi⟩
  | full h => exact ⟨_, _, rfl, h⟩
theorem blks_rects {w : World} {s : Sl Ver} {n : Nat} {bs : List (Sl Ver)} (h : Blks w s n bs) (hn : 0 < n) (hc : chk okStored none (pv s.xs) = 0) : ∀ x, x ∈ bs → RcOk (bnd (pv x.xs)) := fun x hx => by
  have hm : pv x.xs ∈ chunks n (pv s.xs) := by rw [← h.data]; exact List.mem_map_of_mem hx
  refine bnd_ok (chunks_ne hn _ _ (Nat.le_refl _) _ hm).1 fun v hv => okStored_ok (chk_all _ none hc v ?_)
  rw [← chunks_flat hn _ (pv s.xs) (Nat.le_refl _)]
  exact List.mem_flatten.2 ⟨_, hm, hv⟩
theorem blks_fits {w : World} {s : Sl Ver} {n : Nat} {bs : List (Sl Ver)} (h : Blks w s n bs) (hf : VFits s.xs) : ∀ x, x ∈ bs → VFits x.xs := fun x hx v hv => hf v (by rw [← h.flat]; exact List.mem_flatMap.2 ⟨x, hx, hv⟩)
theorem chunks_count {α : Type} {n : Nat} (hn : 0 < n) (l : List α) : (chunks n l).length ≤ l.length := by
  rw [chunks_len hn _ l (Nat.le_refl _), Nat.div_le_iff_le_mul_add_pred hn]
  have := Nat.mul_le_mul_right l.length hn
  rw [Nat.one_mul] at this
  omega
theorem encBlocks_at {ps : List (List PVer)} {k : Nat} (hk : k < ps.length) (out : List UInt8) : encBlocks (ps.drop k) out = if (encodeVers ps[k]).2 ≠ 0 then ([], (encodeVers ps[k]).2) else encBlocks (ps.drop (k + 1)) (out ++ frameOf (encodeVers ps[k]).1) := by
  rw [List.drop_eq_getElem_cons hk, encBlocks]
theorem encodeVers_le (x : List PVer) : (encodeVers x).1.length ≤ 1048576 := by
  unfold encodeVers
  repeat' split
  all_goals simp
  omega
theorem frameA_ok {A : Option Addr} {c : Nat} {xs : List UInt8} (w : World) (h : kByte.Inv w ⟨A, c, xs⟩) (hl : xs.length ≤ 1048576) :
    Calls Try.prog 42 #[.slice none 0 0, .slice A xs.length c] w fun e w' => ∃ g, e = .returned (.tuple #[.slice (some ⟨g, 0, none⟩) (frameOf xs).length (frameOf xs).length, .int .i64 0]) ∧ w.heap.size ≤ g ∧ Blk w' g (frameOf xs) ∧ BW w w' := by
  have hf : encFrame xs = (frameOf xs, 0) := by unfold encFrame; rw [if_neg (by omega)]
  refine (append_any ⟨A, c, xs⟩ w h).mono ?_
  rintro e w' ⟨hb, hr⟩
  simp only [hf] at hr
  rcases hr with ⟨h0, _⟩ | ⟨_, g, rfl, hg, hk⟩
  · exact absurd rfl h0
  · exact ⟨g, rfl, hg, hk, ⟨hb⟩⟩
theorem frameA_big {A : Option Addr} {c : Nat} {xs : List UInt8} (w : World) (h : kByte.Inv w ⟨A, c, xs⟩) (hl : 1048576 < xs.length) :
    Ans Try.prog 42 #[.slice none 0 0, .slice A xs.length c] w (.tuple #[.slice none 0 0, .int .i64 5]) := by
  have hf : encFrame xs = ([], 5) := by unfold encFrame; rw [if_pos hl]
  refine (append_any ⟨A, c, xs⟩ w h).mono ?_
  rintro e w' ⟨hb, hr⟩
  simp only [hf] at hr
  rcases hr with ⟨_, rfl⟩ | ⟨h0, _⟩
  · exact ⟨rfl, hb⟩
  · exact absurd h0 (by decide)
set_option maxRecDepth 100000 in
set_option maxHeartbeats 2000000 in
theorem build_any (t : ByteArray) (s : Sl Ver) (size : Int) (w : World) (h : kVer.Inv w s) (hf : VFits s.xs) (ht : t.size ≤ 1000000) (hl : s.xs.length ≤ 1000000) :
    Calls Try.prog 19 #[.string t, .slice s.A s.xs.length s.cap, .int .i64 size] w (BuiltPost w (segBuild t.data.toList (pv s.xs) size)) := by
  have HI := Lib.hid h
  have HF := Lib.hid hf
  clear h hf
  go_enter Try.func19, Try.ntmps19
  have HB := BW.refl w
  cases hw : okName t.data.toList with
  | false =>
    have HS : Hid (segBuild t.data.toList (pv s.xs) size = ([], 8)) := by show _ = _; unfold segBuild; rw [if_pos hw]
    have HC := Lib.hid hw
    clear hw
    go_wp2_with (go_at_call 39; refine Calls.mono (word_any t _ (by omega)) ?_; rintro e1 w1 ⟨rfl, b1⟩; rw [HC.out]; replace HB := BW.next b1)
    go_ret2
    exact BuiltPost.none HS.out HB.out
  | true =>
    have HC := Lib.hid hw
    clear hw
    by_cases hsz : size < 1 ∨ 4096 < size
    · have HS : Hid (segBuild t.data.toList (pv s.xs) size = ([], 6)) := by show _ = _; unfold segBuild; rw [if_neg (by rw [HC.out]; simp), if_pos hsz]
      by_cases hs1 : size < 1
      · go_wp2_with (go_at_call 39; refine Calls.mono (word_any t _ (by omega)) ?_; rintro e1 w1 ⟨rfl, b1⟩; rw [HC.out]; replace HB := BW.next b1)
        go_ret2
        exact BuiltPost.none HS.out HB.out
      · have hs2 : 4096 < size := by omega
        go_wp2_with (go_at_call 39; refine Calls.mono (word_any t _ (by omega)) ?_; rintro e1 w1 ⟨rfl, b1⟩; rw [HC.out]; replace HB := BW.next b1)
        go_ret2
        exact BuiltPost.none HS.out HB.out
    · have hs1 : ¬ size < 1 := by omega
      have hs2 : ¬ 4096 < size := by omega
      have HSZ := Lib.hid hsz
      clear hsz
      obtain ⟨ce, hce⟩ : ∃ ce, ce = chk okStored none (pv s.xs) := ⟨_, rfl⟩
      have HCE := Lib.hid hce
      clear hce
      by_cases hc0 : ce = 0
      · have HC0 : Hid (chk okStored none (pv s.xs) = 0) := by show _ = _; rw [← HCE.out, hc0]
        obtain ⟨n, hn⟩ : ∃ n, n = size.toNat := ⟨_, rfl⟩
        have hsn : size = (n : Int) := by omega
        have hn1 : 1 ≤ n := by omega
        have hn2 : n ≤ 4096 := by omega
        subst hsn
        clear hn
        have HS : Hid (segBuild t.data.toList (pv s.xs) (n : Int) = if 1048576 < (encHead t.data.toList s.xs.length (chunks n (pv s.xs))).length then ([], 5) else encBlocks (chunks n (pv s.xs)) (frameOf (encHead t.data.toList s.xs.length (chunks n (pv s.xs))))) := by
          show _ = _
          unfold segBuild
          rw [if_neg (by rw [HC.out]; simp), if_neg HSZ.out, if_neg (by rw [HC0.out]; simp), Int.toNat_natCast, pv_len']
        clear hc0 HSZ
        go_wp2_with (first
          | (go_at_call 39; refine Calls.mono (word_any t _ (by omega)) ?_; rintro e1 w1 ⟨rfl, b1⟩; rw [HC.out]; replace HB := BW.next b1)
          | (go_at_call 40; refine Calls.mono (sCheck_any s _ (HI.out.below HB.out) HF.out (by omega)) ?_; rintro e1 w1 ⟨rfl, b1⟩; rw [HC0.out]; replace HB := BW.next b1)
          | (go_at_call 41; refine Calls.mono (cut_any s n _ (HI.out.below HB.out) hn1 hn2 (by omega)) ?_; rintro e2 w2 ⟨v2, bs, rfl, ho, hbk, b2⟩; obtain ⟨A, c, rfl, hi, _⟩ := ho.sl; replace HB := BW.next b2; have HBK := Lib.hid hbk; have HIB := Lib.hid hi; clear ho hbk hi))
        have hbl : bs.length ≤ s.xs.length := by rw [← bl_len, HBK.out.data]; exact Nat.le_trans (chunks_count hn1 _) (by rw [pv_len']; exact Nat.le_refl _)
        refine Calls.mono (head_any t s.xs.length ⟨A, c, bs⟩ w2 HIB.out ht (by omega) (by simp only; omega) (blks_rects HBK.out hn1 HC0.out)) ?_
        rintro e3 w3 ⟨v3, rfl, ho3, hg3⟩
        obtain ⟨H, hH⟩ : ∃ H, H = encHead t.data.toList s.xs.length (bl bs) := ⟨_, rfl⟩
        rw [← HBK.out.data, ← hH] at HS
        simp only at ho3
        rw [← hH] at ho3
        obtain ⟨A3, c3, rfl, hi3, hb3⟩ := ownB_apd ho3
        have HI3 := Lib.hid hi3
        have HB2 : BW w2 w3 := ⟨hg3.belowN⟩
        clear hH ho3 hg3 hi3 hb3
        by_cases hbig : 1048576 < H.length
        · rw [if_pos hbig] at HS
          go_wp2_with (go_at_call 42; refine Calls.mono (frameA_big _ HI3.out hbig) ?_; rintro e4 w4 ⟨rfl, b4⟩; replace HB2 := BW.next b4)
          go_ret2
          exact BuiltPost.none HS.out (HB.trans HB2).out
        rw [if_neg hbig] at HS
        have hHl : H.length ≤ 1048576 := by omega
        clear hbig
        go_wp2_with (go_at_call 42; refine Calls.mono (frameA_ok _ HI3.out hHl) ?_; rintro e4 w4 ⟨g4, rfl, hg4, hk4, b4⟩; replace HB2 := HB2.trans b4; have HK4 := Lib.hid hk4; clear hk4 b4)
        have HO4 : Hid (Apd kByte 5 w4 w2.heap.size (.slice (some ⟨g4, 0, none⟩) (frameOf H).length (frameOf H).length) none (frameOf H)) := Apd.full (HK4.out.inv (by rw [frameOf_len]; omega))
        have hF : (frameOf H).length ≤ 1048584 := by rw [frameOf_len]; omega
        clear HI3 HK4
        go_loopw [10, 13, 14, 15, 16, 48] (fun v _ _ _ _ i wr => ∃ (k : Nat) (row : Option Nat) (xs : List UInt8), k ≤ bs.length ∧ i = .int .i64 (k : Int) ∧ Hid (Apd kByte 5 wr w2.heap.size v row xs) ∧ xs.length ≤ (k + 1) * 1048584 ∧ Hid (segBuild t.data.toList (pv s.xs) (n : Int) = encBlocks ((bl bs).drop k) xs) ∧ BW w2 wr) (fun _ _ _ _ _ i _ => bs.length - (intOf i).toNat)
        case atStart => exact ⟨0, _, _, Nat.zero_le _, rfl, HO4, by omega, HS, HB2⟩
        case round =>
          clear HO4 HS HB2 hF hHl
          obtain ⟨k, row, xs, hk, rfl, HO, hxl, HS, HB2⟩ := hrel
          by_cases hlt : k < bs.length
          · obtain ⟨b, o, hA, hb, c0, c1, c2, c3, c4, hr⟩ := blc_at (s := ⟨A, c, bs⟩) (HIB.out.below HB2.out) k hlt
            simp only at hA c0 c1 c2 c3 c4 hr
            subst hA
            obtain ⟨q, hq⟩ : ∃ q, q = bnd (pv bs[k].xs) := ⟨_, rfl⟩
            rw [← hq] at c0 c1 c2 c3
            have HQ := Lib.hid hq
            have HKV := Lib.hid hr
            have hbk : k < (bl bs).length := by rw [bl_len]; exact hlt
            have HEA := Lib.hid (encBlocks_at hbk xs)
            have HBX : Hid ((bl bs)[k] = pv bs[k].xs) := by show _ = _; simp [bl]
            have HFX := Lib.hid (blks_fits HBK.out HF.out _ (List.getElem_mem hlt))
            have HROW := Lib.hid (fun x hx => HO.out.rowb x hx)
            clear hq hr
            have HX0 : Hid (BoxB (wr.alloc (.cells #[.int .i64 q.vf, .int .i64 q.vt, .int .i64 q.sf, .int .i64 q.st, .slice bs[k].A bs[k].xs.length bs[k].cap] 78)) wr.heap.size bs[k]) := by
              rw [HQ.out]; exact heap_alloc_new wr _
            have HW : Hid (BW wr (wr.alloc (.cells #[.int .i64 q.vf, .int .i64 q.vt, .int .i64 q.sf, .int .i64 q.st, .slice bs[k].A bs[k].xs.length bs[k].cap] 78))) := (BW.refl wr).alloc _
            go_wp2_with fail
            generalize hW : wr.alloc _ = W0
            replace HW : Hid (BW wr W0) := by subst hW; exact HW
            clear hW c0 c1 c2 c3 c4 HX0
            refine Calls.mono (encodeVersions_any bs[k] W0 (HKV.out.below HW.out.out) HFX.out) ?_
            rintro e5 w5 ⟨v5, rfl, ⟨o5, rfl, hi5, hx5, _⟩, b5⟩
            have HI5 := Lib.hid hi5
            have HX5 := Lib.hid hx5
            have HB5 : BW wr w5 := HW.out.trans ⟨b5⟩
            have HO5 := Lib.hid (HO.out.below HB5.out)
            have hl5 : o5.xs.length ≤ 1048576 := by rw [hx5]; exact encodeVers_le _
            clear hi5 hx5 b5
            by_cases he : (encodeVers (pv bs[k].xs)).2 = 0
            · have HE := Lib.hid he
              rw [he]
              clear he
              go_wp2_with fail
              refine Calls.mono (frameA_ok (A := o5.A) (c := o5.cap) (xs := o5.xs) w5 HI5.out hl5) ?_
              rintro e6 w6 ⟨g6, rfl, hg6, hk6, b6⟩
              have HK6 := Lib.hid (hk6.inv (by rw [frameOf_len]; omega))
              have HO6 := Lib.hid (HO5.out.below b6.out)
              have HB6 : BW w2 w6 := HB2.trans (HB5.trans b6)
              have hfl := frameOf_len o5.xs
              clear hk6 b6
              go_wp2_with (at_builtin; refine append_all kByte w2.heap.size rfl (.tmp 69) (.tmp 70) 35 35 5 1 rfl Try.underlying35 info_u8 _ _ xs (frameOf o5.xs) rfl _ rfl (HK6.out.src Try.underlying35) HO6.out HK6.out.inv nofoots HB6.out.size (by omega) ?_; intro v7 w7 r7 ha hg hn; have HO7 := Lib.hid ha; have HB7 : BW w2 w7 := ⟨HB6.out.trans (hg.below HB6.out.size (fun x hx => (HO6.out.rowb x hx).1))⟩; clear ha hg hn)
              go_roundw
              case rel =>
                refine ⟨k + 1, r7, xs ++ frameOf o5.xs, by omega, by go_num, HO7, by rw [List.length_append]; omega, ?_, HB7⟩
                show _ = _
                rw [HS.out, HEA.out, HBX.out, if_neg (by rw [HE.out]; simp), HX5.out]
              case measure => simp [intOf]; omega
            · have HE := Lib.hid he
              obtain ⟨er, her⟩ : ∃ er, er = (encodeVers (pv bs[k].xs)).2 := ⟨_, rfl⟩
              rw [← her]
              rw [← her] at he
              have HER := Lib.hid her
              clear her
              go_wp2_with fail
              go_ret2
              exact BuiltPost.none (by rw [HS.out, HEA.out, HBX.out, if_pos HE.out, HER.out]) (HB.trans (HB2.trans HB5)).out
          · have HS2 : Hid (segBuild t.data.toList (pv s.xs) (n : Int) = (xs, 0)) := by
              show _ = _
              rw [HS.out, List.drop_of_length_le (by rw [bl_len]; omega)]; rfl
            obtain ⟨A9, c9, hv9, hi9⟩ := HO.out.inv
            have HI9 := Lib.hid hi9
            subst hv9
            clear hi9
            go_wp2_with fail
            go_ret2
            exact ⟨⟨A9, c9, xs⟩, by rw [HS2.out]; rfl, HI9.out, by rw [HS2.out], (HB.trans HB2).out⟩
      · have HS : Hid (segBuild t.data.toList (pv s.xs) size = ([], ce)) := by show _ = _; unfold segBuild; rw [if_neg (by rw [HC.out]; simp), if_neg HSZ.out, ← HCE.out, if_pos hc0]
        go_wp2_with (first
          | (go_at_call 39; refine Calls.mono (word_any t _ (by omega)) ?_; rintro e1 w1 ⟨rfl, b1⟩; rw [HC.out]; replace HB := BW.next b1)
          | (go_at_call 40; refine Calls.mono (sCheck_any s _ (HI.out.below HB.out) HF.out (by omega)) ?_; rintro e1 w1 ⟨rfl, b1⟩; rw [← HCE.out]; replace HB := BW.next b1))
        go_ret2
        exact BuiltPost.none HS.out HB.out
end Go.Proofs.Ytndlhmnablefpaa

/- What the reference's Merge answers. -/
import Derived.Test.YtndlhmnablefpaaRefRec
import Derived.Test.YtndlhmnablefpaaInsert
namespace Go.Proofs.Ytndlhmnablefpaa
open Go.RowKit
set_option linter.unusedSimpArgs false
set_option linter.unusedVariables false
section
variable {P : Program} {ops : Array Oper} {rest : List Oper} {o : Oper} {a : Act} {Q : Exit → Act → World → Prop} {α : Type}
/-- An element is stored, in a list of operations. -/
theorem store_elem (d : Kd α) {e ty : TypeId} {W : World} {base g c : Nat} {xs : List α} (hgd : o.guard = none) (hd : o.dst = none) (h : Row d e W base g c xs) (x y : Operand) (ho : o.op = .store ty x y) (i : Nat) (hx : a.eval x = .pointer (some ⟨g, i * d.sz, none⟩)) (z : α) (hy : a.eval y = .agg (d.cells z).toArray)
    (hi : (P.info? ty).map (·.size) = some d.sz) (hil : i < xs.length) (hz : d.inv W z) (hza : ∀ k, k ∈ d.foot z → k ≠ g)
    (hK : ∀ w1, Row d e w1 base g c (xs.set i z) → Gr W w1 (some g) (some g) → wpList P ops Q rest a w1) : wpList P ops Q (o :: rest) a W :=
  wpList_plain hgd fun _ hK' => wp_store_elem d h x y ho i hx z hy hi hil hz hza fun w1 h1 g1 => hK' _ _ (by rw [hd]; exact hK w1 h1 g1)
end
/-- Behind writes to a row that is new. -/
theorem BW.gr {w W V : World} {g : Nat} {r : Option Nat} (h : BW w W) (hg : Gr W V (some g) r) (hn : w.heap.size ≤ g) : BW w V :=
  ⟨h.out.trans (hg.below h.out.size (fun k hk => by have := Option.some.inj hk; omega))⟩
theorem BoxV.below {w w' : World} {b : Nat} {x : Ver} (h : BoxV w b x) (hb : Below w.heap.size w w') : BoxV w' b x := (hb.block b (Array.getElem?_eq_some_iff.1 h).1).trans h
theorem BoxV.gr {w w' : World} {b g : Nat} {r : Option Nat} {x : Ver} (h : BoxV w b x) (hg : Gr w w' (some g) r) (hne : b ≠ g) : BoxV w' b x := (hg.by'.block b (Array.getElem?_eq_some_iff.1 h).1 (fun e => hne (Option.some.inj e))).trans h
theorem Gr.ne_new {W V : World} {row r' : Option Nat} {k : Nat} (hg : Gr W V row r') (hrow : ∀ q, row = some q → q < k) (hW : k < W.heap.size) : ∀ q, r' = some q → q ≠ k := fun q hq => by
  rcases hg.at' with h1 | ⟨b, h1, h2⟩
  · rw [h1] at hq; have := hrow q hq; omega
  · rw [h1] at hq; have := Option.some.inj hq; omega
theorem VR.own {w : World} {base g c n : Nat} {ys : List Ver} (h : VR w base g c n ys) : Own kVer 59 w base (.slice (some ⟨g, 0, none⟩) n c) ys := by
  obtain ⟨h1, rfl⟩ := h; exact h1
theorem VR.set {w : World} {base g c n : Nat} {ys : List Ver} {i : Nat} {z : Ver} (hn : ys.length = n) (h : Row kVer 59 w base g c (ys.set i z)) : VR w base g c n (ys.set i z) := ⟨h, by rw [List.length_set]; exact hn⟩
theorem split_next {done rest fl : List Ver} {y : Ver} (h : Hid (done ++ y :: rest = fl)) : Hid ((done ++ [y]) ++ rest = fl) := by
  show _ = _
  rw [← h.out]; simp
set_option maxRecDepth 100000 in
set_option maxHeartbeats 16000000 in
theorem refMerge_any (s : Sl (Sl Ver)) (fl : List Ver) (hfl : s.xs.flatMap (·.xs) = fl) (w : World) (h : (Kd.slice kVer).Inv w s) (hf : ∀ x, x ∈ s.xs → VFits x.xs) (hl1 : fl.length ≤ 1000) :
    Calls Try.prog 15 #[.slice s.A s.xs.length s.cap] w (MPost w (parts s.xs)) := by
  have HI := Lib.hid h
  have HF := Lib.hid hf
  have HFL := Lib.hid hfl
  have hmx : s.xs.length ≤ 9223372036854775807 := Nat.le_trans h.le h.mx
  clear h hf hfl
  go_enter Try.func15, Try.ntmps15
  go_wp2_with fail
  go_loopw [2, 3, 5, 6, 7, 16] (fun _ _ _ _ _ i wr => ∃ k : Nat, k ≤ s.xs.length ∧ i = .int .i64 k ∧ Hid (chks (parts s.xs) = chks ((parts s.xs).drop k)) ∧ BW w wr) (fun _ _ _ _ _ i _ => s.xs.length - (intOf i).toNat)
  case atStart => exact ⟨0, Nat.zero_le _, rfl, rfl, BW.refl w⟩
  case round =>
    obtain ⟨k, hk, rfl, HP, HB⟩ := hrel
    by_cases hlt : k < s.xs.length
    · obtain ⟨b, o, hA, hb, c0, hr⟩ := sl_at (HI.out.below HB.out) k hlt
      have HA := Lib.hid hA
      have HR := Lib.hid hr
      have hkl : k < (parts s.xs).length := by simpa [parts] using hlt
      have HC := Lib.hid (chks_at hkl)
      have HX : Hid ((parts s.xs)[k] = pv s.xs[k].xs) := by show _ = _; simp [parts]
      have HFk := Lib.hid (HF.out _ (List.getElem_mem hlt))
      rw [hA]
      clear hA hr
      obtain ⟨wo, hwo⟩ : ∃ wo : World, wo = wr := ⟨_, rfl⟩
      obtain ⟨x, hx⟩ : ∃ x, x = s.xs[k] := ⟨_, rfl⟩
      rw [← hx] at c0 HR HX HFk
      have hxm : x.xs.length ≤ 9223372036854775807 := Nat.le_trans HR.out.le HR.out.mx
      have HXE := Lib.hid hx
      clear hx
      go_wp2_with fail
      go_loopw [2, 3, 6, 7, 22] (fun _ _ _ _ i wq => ∃ j : Nat, j ≤ x.xs.length ∧ i = .int .i64 j ∧ Hid (chk okVer none (pv x.xs) = chk okVer (prevAt (pv x.xs) j) ((pv x.xs).drop j)) ∧ Hid (kVer.Inv wq x) ∧ BW w wq) (fun _ _ _ _ i _ => x.xs.length - (intOf i).toNat)
      case atStart => exact ⟨0, Nat.zero_le _, rfl, rfl, HR, HB⟩
      case round =>
        clear HB HR c0 hwo
        obtain ⟨j, hj, rfl, HPj, HR, HB⟩ := hrel
        by_cases hltj : j < x.xs.length
        · obtain ⟨b1, o1, hA1, hb1, c0, c1, c2, c3, c4, c5, c6, c7, c8, hr⟩ := ver_at HR.out j hltj
          have HA1 := Lib.hid hA1
          have HRj := Lib.hid hr
          have HBr := BW.refl wr
          clear hr
          rw [hA1]
          clear hA1
          have HL : Hid (j < (pv x.xs).length) := by show _ < _; simpa [pv] using hltj
          have HXj : Hid ((pv x.xs)[j]'HL.out = x.xs[j].p) := by show _ = _; simp [pv]
          go_wp2_with (go_at_call 35; refine (rVersion_any x.xs[j] _ (HRj.out.below (by first | exact BW.fin)) (HFk.out _ (List.getElem_mem hltj))).mono ?_; rintro e w1 ⟨rfl, hb2⟩; replace HBr := BW.next hb2)
          case _ =>
            go_ret2
            have hc : chk okVer none (pv x.xs) = 8 := chk_bad (l := pv x.xs) HL.out HPj.out (by rw [HXj.out]; exact no_of ‹_›)
            have hc2 : chks (parts s.xs) = 8 := by rw [HP.out, HC.out, HX.out, hc]; rfl
            exact ⟨⟨none, 0, []⟩, chks (parts s.xs), by rw [hc2]; rfl, nil_inv _, .bad (by rw [hc2]; decide), (HB.trans HBr).out⟩
          case _ =>
            have HRn := Lib.hid (HR.out.below HBr.out)
            by_cases h0 : 0 < j
            · obtain ⟨b', o', hA', hb', d0, d1, d2, d3, d4, d5, d6, d7, d8, hr'⟩ := ver_at HRn.out (j - 1) (by omega)
              have hA2 := hA'.symm.trans HA1.out
              simp only [Option.some.injEq, Addr.mk.injEq, and_true] at hA2
              obtain ⟨rfl, rfl⟩ := hA2
              have hcc := bcell hb2
              obtain ⟨q1, q2, q3, q4, q5⟩ := idx_pred h0 hltj hxm
              go_still_tail 9, (by kernel_rfl)
              change wpList _ _ _ _ _ w1.drew
              go_wp2_with (go_at_call 36; refine (rBefore_any x.xs[j - 1] x.xs[j] _).mono ?_; rintro e w2 ⟨rfl, hb3⟩; replace HBr := BW.next hb3)
              case _ =>
                go_ret2
                have hc : chk okVer none (pv x.xs) = 9 := chk_order (l := pv x.xs) (k := j) HL.out HPj.out (by rw [HXj.out]; exact yes_of ‹(!okVer _) = false›) h0 (by simpa [pv] using no_of ‹(!before _ _) = true›)
                have hc2 : chks (parts s.xs) = 9 := by rw [HP.out, HC.out, HX.out, hc]; rfl
                exact ⟨⟨none, 0, []⟩, chks (parts s.xs), by rw [hc2]; rfl, nil_inv _, .bad (by rw [hc2]; decide), (HB.trans HBr).out⟩
              case _ =>
                go_roundw
                case rel => exact ⟨j + 1, by omega, by go_num, chk_next (l := pv x.xs) (k := j) HL.out HPj.out (by rw [HXj.out]; exact yes_of ‹(!okVer _) = false›) (fun _ => by simpa [pv] using yes_of ‹(!before _ _) = false›), HR.out.below HBr.out, HB.trans HBr⟩
                case measure => simp [intOf]; omega
            · obtain rfl : j = 0 := by omega
              have hd : decide ((0 : Nat) < 0) = false := rfl
              go_quiet (fail)
              go_wp2
              go_roundw
              case rel => exact ⟨1, by omega, by go_num, chk_next (l := pv x.xs) (k := 0) HL.out HPj.out (by rw [HXj.out]; exact yes_of ‹(!okVer _) = false›) (fun h => absurd h (by omega)), HR.out.below (HBr.drewN _).out, HB.trans (HBr.drewN _)⟩
              case measure => simp [intOf]; omega
        · have HE : Hid (chk okVer none (pv x.xs) = 0) := chk_end (by simp [pv]; omega) HPj.out
          go_wp2
          go_roundw
          case rel => exact ⟨k + 1, by omega, by go_num, by show _ = _; rw [HP.out, HC.out, HX.out, if_neg (by simpa using HE.out)], HB⟩
          case measure => simp [intOf]; omega
    · have HC : Hid (chks (parts s.xs) = 0) := by show _ = _; rw [HP.out, List.drop_of_length_le (by simp [parts]; omega)]; rfl
      clear hk HP
      go_wp2_with fail
      go_loopw [2, 3, 8, 10, 12, 13, 46] (fun _ _ v _ _ _ i wr => ∃ (k : Nat) (done ys : List Ver), k ≤ s.xs.length ∧ i = .int .i64 k ∧ Hid (done ++ (s.xs.drop k).flatMap (·.xs) = fl) ∧ Hid (Own kVer 59 wr w.heap.size v ys) ∧ Hid (Mg done ys) ∧ BW w wr) (fun _ _ _ _ _ _ i _ => s.xs.length - (intOf i).toNat)
      case atStart => exact ⟨0, [], [], Nat.zero_le _, rfl, HFL, Own.nil _ _ _ _, Mg.nil, HB⟩
      case round =>
        clear HB
        obtain ⟨k, done, ys, hk, rfl, HD, HO, HM, HB⟩ := hrel
        by_cases hlt : k < s.xs.length
        · obtain ⟨b, o, hA, hb, c0, hr⟩ := sl_at (HI.out.below HB.out) k hlt
          have HA := Lib.hid hA
          rw [hA]
          clear hA hr
          obtain ⟨x, hx⟩ : ∃ x, x = s.xs[k] := ⟨_, rfl⟩
          rw [← hx] at c0
          have HXE := Lib.hid hx
          have hxi : kVer.Inv w x := HI.out.inv x (by rw [hx]; exact List.getElem_mem hlt)
          have HXI := Lib.hid hxi
          have hxm : x.xs.length ≤ 9223372036854775807 := Nat.le_trans hxi.le hxi.mx
          have HD2 : Hid (done ++ (x.xs.drop 0 ++ (s.xs.drop (k + 1)).flatMap (·.xs)) = fl) := by
            have := HD.out
            rw [List.drop_eq_getElem_cons hlt, List.flatMap_cons, ← hx] at this
            exact this
          clear hx hxi HD
          go_wp2_with fail
          go_loopw [2, 3, 8, 12, 13, 52] (fun _ _ v _ _ i wq => ∃ (j : Nat) (done ys : List Ver), j ≤ x.xs.length ∧ i = .int .i64 j ∧ Hid (done ++ (x.xs.drop j ++ (s.xs.drop (k + 1)).flatMap (·.xs)) = fl) ∧ Hid (Own kVer 59 wq w.heap.size v ys) ∧ Hid (Mg done ys) ∧ BW w wq) (fun _ _ _ _ _ i _ => x.xs.length - (intOf i).toNat)
          case atStart => exact ⟨0, done, ys, Nat.zero_le _, rfl, HD2, HO, HM, HB⟩
          case round =>
            clear HB HO HM HD2 c0 hb done ys
            obtain ⟨j, done, ys, hj, rfl, HD, HO, HM, HB⟩ := hrel
            by_cases hltj : j < x.xs.length
            · obtain ⟨b1, o1, hA1, hb1, c0, c1, c2, c3, c4, c5, c6, c7, c8, hr⟩ := ver_at (HXI.out.below HB.out) j hltj
              have HA1 := Lib.hid hA1
              have HRj := Lib.hid hr
              rw [hA1]
              clear hA1 hr
              have HD1 : Hid (done ++ x.xs[j] :: (x.xs.drop (j + 1) ++ (s.xs.drop (k + 1)).flatMap (·.xs)) = fl) := by
                have := HD.out
                rw [List.drop_eq_getElem_cons hltj] at this
                exact this
              have hyl : ys.length + 1 ≤ 1000 := by
                have h1 := congrArg List.length HD1.out
                have h2 := HM.out.perm.length_eq
                simp only [List.length_append, List.length_cons] at h1
                omega
              have HFt : Hid (∀ q, q ∈ kVer.foot x.xs[j] → q < w.heap.size) := kVer.lt w x.xs[j] (HXI.out.inv _ (List.getElem_mem hltj))
              have HOW := HO
              obtain ⟨A, c, rfl⟩ := HO.out.form
              go_wp2_with (at_builtin; refine append_one kVer w.heap.size rfl (.tmp 58) (.tmp 60) 29 59 88 rfl Try.underlying29 info_ver _ _ ys x.xs[j] _ rfl rfl _ rfl (by simp) (Apd.own (HO.out.alloc _)) (HRj.out.below ((BW.refl wr).alloc _).out) ?ap ?bs ?ln ?_; (case ap => exact fun q hq he => by have h1 := (HO.out.base_le q he).1; have h2 := HFt.out q hq; omega); (case bs => exact Nat.le_trans HB.out.size (by simp)); (case ln => omega); intro v1 w1 ho hg; have HO1 := Lib.hid ho; have HG1 : Hid (Gr wr w1 _ _) := (Gr.of_below _ ((BW.refl wr).alloc _).out).trans hg; have HBX : Hid (BoxV w1 wr.heap.size x.xs[j]) := (hg.by'.block wr.heap.size (by simp) (fun e => by have := (HO.out.base_le _ e.symm).2; omega)).trans (heap_alloc_new wr _); have HNE : Hid (∀ q, v1.ownBlock = some q → q ≠ wr.heap.size) := hg.ne_new (fun q hq => (HO.out.base_le q hq).2) (by simp); clear ho hg)
              rcases own_cases HO1.out with ⟨_, hx0⟩ | ⟨g, c', rfl, hrow⟩
              · simp at hx0
              have HVR : Hid (VR w1 w.heap.size g c' (ys.length + 1) (ys ++ [x.xs[j]])) := ⟨hrow, by simp⟩
              have HB1 : BW w w1 := ⟨HB.out.trans (HG1.out.below HB.out.size (fun k hk => (HO.out.base_le k hk).1))⟩
              have hgb : w.heap.size ≤ g := hrow.lt.1
              have hbne : wr.heap.size ≠ g := fun he => HNE.out g rfl he.symm
              have hyn : (ys ++ [x.xs[j]]).length = ys.length + 1 := by simp
              rw [hyn]
              have HYN := Lib.hid hyn
              clear hrow hyn HO1 HG1
              have hyj : ∀ i, i ≤ ys.length → (i : Int) < ((ys.length + 1 : Nat) : Int) := fun i hi => by omega
              have HYJ := Lib.hid hyj
              clear hyj
              obtain ⟨n1, hn1⟩ : ∃ n1, n1 = ys.length + 1 := ⟨_, rfl⟩
              have hn1' : ((ys.length : Int) + 1) = (n1 : Int) := by omega
              have HN1 := Lib.hid hn1
              rw [← hn1] at HVR ⊢
              clear hn1 hn1'
              obtain ⟨wo, rfl⟩ : ∃ wo : World, wo = w1 := ⟨_, rfl⟩
              go_loopw [13] (fun q wq => ∃ (i : Nat) (zs : List Ver), q = .int .i64 i ∧ Hid (VR wq w.heap.size g c' n1 zs) ∧ Hid (Gap ys zs x.xs[j] i) ∧ Hid (BoxV wq wr.heap.size x.xs[j]) ∧ Hid (kVer.inv wq x.xs[j]) ∧ BW w wq) (fun q _ => (intOf q).toNat)
              case atStart => exact ⟨ys.length, _, rfl, HVR, Gap.start _, HBX, (HXI.out.below HB1.out).inv _ (List.getElem_mem hltj), HB1⟩
              case round =>
                clear HVR HBX HB1
                obtain ⟨i, zs, rfl, HVR, HGp, HBX, HYI, HB1⟩ := hrel
                have hgl := HGp.out.len
                have hgi := HGp.out.hi
                have hvl := HVR.out.len
                have hin : i < n1 := by omega
                have hiz : i < zs.length := by omega
                obtain ⟨d0, d1, d2, d3, d4, d5, d6, d7, d8⟩ := box9 HBX.out
                by_cases h0 : 0 < i
                · obtain ⟨e0, e1, e2, e3, e4, e5, e6, e7, e8⟩ := vrow_at HVR.out.row (i - 1) (by omega)
                  obtain ⟨q1, q2, q3, q4, q5⟩ := idx_pred (n := n1) h0 hin (by omega)
                  have hin' : (i : Int) < (n1 : Int) := by omega
                  have hi1z : i - 1 < zs.length := by omega
                  go_wp2_with fail
                  go_still_tail 9, (by kernel_rfl)
                  change wpList _ _ _ _ _ wr.drew
                  have HW := BW.refl wr
                  by_cases hbf : before x.xs[j].p (el zs (i - 1)).p = true
                  · go_wp2_with (first
                      | (go_at_call 36; refine (rBefore_any x.xs[j] (el zs (i - 1)) _).mono ?_; rintro e w2 ⟨rfl, hb3⟩; replace HW := BW.next hb3; have HV2 := Lib.hid (HVR.out.below HW.out); obtain ⟨f0, f1, f2, f3, f4, f5, f6, f7, f8⟩ := vrow_at HV2.out.row (i - 1) hi1z)
                      | (refine store_elem kVer rfl rfl HV2.out.row (.tmp 80) (.tmp 79) rfl i rfl (el zs (i - 1)) rfl (by kernel_rfl) hiz (HV2.out.row.inv_el hi1z) (HV2.out.row.ne_el hi1z) ?_; intro w3 hs3 gs3; have HS3 := Lib.hid hs3; clear hs3 f0 f1 f2 f3 f4 f5 f6 f7 f8))
                    go_roundw
                    case rel => exact ⟨i - 1, zs.set i (el zs (i - 1)), by go_num, VR.set HVR.out.len HS3.out, HGp.out.step h0 hbf, (HBX.out.below HW.out).gr gs3 hbne, inv_gr (kVer.below HYI.out HW.out) gs3 (fun q hq he => by have := HFt.out q hq; omega), (HB1.trans HW).gr gs3 hgb⟩
                    case measure => simp [intOf]; omega
                  · have hbf' : before x.xs[j].p (el zs (i - 1)).p = false := by simpa using hbf
                    have HBF := Lib.hid hbf'
                    go_wp2_with (first
                      | (go_at_call 36; refine (rBefore_any x.xs[j] (el zs (i - 1)) _).mono ?_; rintro e w2 ⟨rfl, hb3⟩; replace HW := BW.next hb3; have HV2 := Lib.hid (HVR.out.below HW.out); have HX2 := Lib.hid (HBX.out.below HW.out); obtain ⟨f0, f1, f2, f3, f4, f5, f6, f7, f8⟩ := box9 HX2.out)
                      | (refine store_elem kVer rfl rfl HV2.out.row (.tmp 86) (.tmp 85) rfl i rfl x.xs[j] rfl (by kernel_rfl) hiz (kVer.below HYI.out HW.out) ?fo ?_; (case fo => exact fun q hq he => by have := HFt.out q hq; omega); intro w3 hs3 gs3; have HS3 := Lib.hid hs3; clear hs3 f0 f1 f2 f3 f4 f5 f6 f7 f8; have HX3 := Lib.hid (HX2.out.gr gs3 hbne)))
                    clear d0 d1 d2 d3 d4 d5 d6 d7 d8 e0 e1 e2 e3 e4 e5 e6 e7 e8 hbf hbf'
                    obtain ⟨d0, d1, d2, d3, d4, d5, d6, d7, d8⟩ := box9 HX3.out
                    obtain ⟨e0, e1, e2, e3, e4, e5, e6, e7, e8⟩ := vrow_at HS3.out (i - 1) (by rw [List.length_set]; exact hi1z)
                    have HE1 : Hid (el (zs.set i x.xs[j]) (i - 1) = el zs (i - 1)) := by
                      show _ = _
                      rw [el_set hiz, if_neg (by omega)]
                    have HB3 := (HB1.trans HW).gr gs3 hgb
                    go_still_tail 9, (by kernel_rfl)
                    change wpList _ _ _ _ _ w3.drew
                    have HW3 := BW.refl w3
                    by_cases hb2 : before (el (zs.set i x.xs[j]) (i - 1)).p x.xs[j].p = true
                    · go_wp2_with (go_at_call 36; refine (rBefore_any (el (zs.set i x.xs[j]) (i - 1)) x.xs[j] _).mono ?_; rintro e w4 ⟨rfl, hb4⟩; replace HW3 := BW.next hb4)
                      go_roundw
                      case rel => exact ⟨j + 1, done ++ [x.xs[j]], zs.set i x.xs[j], by omega, by go_num, split_next HD1, ((VR.set HVR.out.len HS3.out).below HW3.out).own, HGp.out.mg HM.out (fun _ => by rw [← HE1.out]; exact hb2), HB3.trans HW3⟩
                      case measure => simp [intOf]; omega
                    · have hb2' : before (el (zs.set i x.xs[j]) (i - 1)).p x.xs[j].p = false := by simpa using hb2
                      have HB2 := Lib.hid hb2'
                      go_wp2_with (go_at_call 36; refine (rBefore_any (el (zs.set i x.xs[j]) (i - 1)) x.xs[j] _).mono ?_; rintro e w4 ⟨rfl, hb4⟩; replace HW3 := BW.next hb4)
                      go_ret2
                      exact ⟨⟨none, 0, []⟩, 10, rfl, nil_inv _, .twice HC.out (by rw [parts_flat, HFL.out, ← HD1.out]; exact HGp.out.twice HM.out h0 HBF.out (by rw [← HE1.out]; exact HB2.out) _), (HB3.trans HW3).out⟩
                · obtain rfl : i = 0 := by omega
                  have hd : decide ((0 : Nat) < 0) = false := rfl
                  go_wp2_with fail
                  go_quiet (fail)
                  rename_i nq _
                  have HV2 := Lib.hid (HVR.out.below (below_drewN (Below.refl _ _) nq))
                  have HYI2 := Lib.hid (kVer.below HYI.out (below_drewN (Below.refl _ _) nq))
                  go_wp2_with (refine store_elem kVer rfl rfl HV2.out.row (.tmp 86) (.tmp 85) rfl 0 rfl x.xs[j] rfl (by kernel_rfl) hiz HYI2.out ?fo ?_; (case fo => exact fun q hq he => by have := HFt.out q hq; omega); intro w3 hs3 gs3; have HS3 := Lib.hid hs3; clear hs3)
                  have HB3 := (HB1.drewN nq).gr gs3 hgb
                  have HO3 := Lib.hid (VR.set HVR.out.len HS3.out).own
                  have HM3 := Lib.hid (HGp.out.mg HM.out (fun h => absurd h (by decide)))
                  have HD3 := split_next HD1
                  have hj3 : j + 1 ≤ x.xs.length := hltj
                  clear HVR HYI HBX HV2 HYI2 HS3 gs3 HGp HM HD1 d0 d1 d2 d3 d4 d5 d6 d7 d8 HRj HFt HYN HYJ hgi hiz hvl hgl
                  go_quiet (fail)
                  go_wp2_with fail
                  go_roundw
                  case rel => exact ⟨j + 1, done ++ [x.xs[j]], zs.set 0 x.xs[j], hj3, by go_num, HD3, HO3.out.drewN _, HM3, HB3.drewN _⟩
                  case measure => simp [intOf]; omega
            · have HE : Hid (done ++ (s.xs.drop (k + 1)).flatMap (·.xs) = fl) := by
                have := HD.out
                rw [List.drop_of_length_le (by omega)] at this
                exact this
              go_wp2
              go_roundw
              case rel => exact ⟨k + 1, done, ys, by omega, by go_num, HE, HO, HM, HB⟩
              case measure => simp [intOf]; omega
        · have HE : Hid (done = fl) := by
            have := HD.out
            rw [List.drop_of_length_le (by omega)] at this
            have h2 : done = fl := by simpa using this
            exact h2
          obtain ⟨A, c, rfl, hi, _⟩ := HO.out.sl
          have HIO := Lib.hid hi
          clear hi
          go_wp2
          go_ret2
          exact ⟨⟨A, c, ys⟩, 0, rfl, HIO.out, .ok _ HC.out (by rw [parts_flat, HFL.out, ← HE.out]; exact HM.out.perm.map _) HM.out.sorted, HB.out⟩
end Go.Proofs.Ytndlhmnablefpaa

/- What compaction.Merge answers. -/
import Derived.Test.YtndlhmnablefpaaSort4
import Derived.Test.YtndlhmnablefpaaElem2
namespace Go.Proofs.Ytndlhmnablefpaa
open Go.RowKit
set_option linter.unusedSimpArgs false
set_option linter.unusedVariables false
/-- The first error of lists of versions. -/
def chks : List (List PVer) → Int
  | [] => 0
  | x :: t => if chk okVer none x ≠ 0 then chk okVer none x else chks t
theorem chks_at {ps : List (List PVer)} {k : Nat} (hk : k < ps.length) : chks (ps.drop k) = if chk okVer none ps[k] ≠ 0 then chk okVer none ps[k] else chks (ps.drop (k + 1)) := by
  rw [List.drop_eq_getElem_cons hk, chks]
def parts (l : List (Sl Ver)) : List (List PVer) := l.map fun x => pv x.xs
/-- No two versions have the same place in the order. -/
def Distinct (l : List PVer) : Prop := l.Pairwise fun x y => ord x y ≠ 0
/-- What merging comes to. -/
inductive MRes (ps : List (List PVer)) : List PVer → Int → Prop where
  | bad (h : chks ps ≠ 0) : MRes ps [] (chks ps)
  | twice (h : chks ps = 0) (hd : ¬ Distinct ps.flatten) : MRes ps [] 10
  | ok (out : List PVer) (h : chks ps = 0) (hp : out.Perm ps.flatten) (hs : out.Pairwise fun x y => before x y = true) : MRes ps out 0
def MPost (w : World) (ps : List (List PVer)) (e : Ending) (w' : World) : Prop := ∃ (out : Sl Ver) (er : Int), e = .returned (.tuple #[.slice out.A out.xs.length out.cap, .int .i64 er]) ∧ kVer.Inv w' out ∧ MRes ps (pv out.xs) er ∧ Below w.heap.size w w'
theorem nil_inv (w : World) : kVer.Inv w ⟨none, 0, []⟩ := ⟨Nat.le_refl _, by decide, fun _ => rfl, fun h => absurd rfl h, fun _ h => by simp at h⟩
theorem parts_flat (l : List (Sl Ver)) : (parts l).flatten = pv (l.flatMap (·.xs)) := by
  induction l with
  | nil => rfl
  | cons x t ih => simp only [parts, List.map_cons, List.flatten_cons, List.flatMap_cons] at *; rw [ih]; simp [pv]
theorem before_iff (a b : PVer) : before a b = true ↔ (a.id < b.id ∨ (a.id = b.id ∧ (a.sf < b.sf ∨ (a.sf = b.sf ∧ a.vf < b.vf)))) := by
  unfold before
  simp only [bne_iff_ne]
  (repeat' split) <;> simp <;> omega
theorem ord_iff (a b : PVer) : ord a b = 0 ↔ (a.id = b.id ∧ a.sf = b.sf ∧ a.vf = b.vf) := by
  unfold ord cmpI
  (repeat' split) <;> simp at * <;> omega
theorem pv_len (xs : List Ver) : (pv xs).length = xs.length := by simp [pv]
theorem pv_at {xs : List Ver} {i : Nat} (h : i < (pv xs).length) : (pv xs)[i] = (el xs i).p := by
  have h' : i < xs.length := by simpa [pv] using h
  rw [← el_at h']; simp [pv]
theorem strict_of {xs : List Ver} {n : Nat} (hn : xs.length = n) (hs : SortedOn 0 n xs) (hd : ∀ j, 0 < j → j < n → ord (el xs (j - 1)).p (el xs j).p ≠ 0) : (pv xs).Pairwise fun x y => before x y = true := by
  rw [List.pairwise_iff_getElem]
  intro i j hi hj hij
  rw [pv_at, pv_at, before_iff]
  rw [pv_len, hn] at hi hj
  have h1 := hd j (by omega) hj
  have h2 := hs (j - 1) j (by omega) (by omega) hj
  rw [Ne, ord_iff] at h1
  rw [leV_iff] at h2
  rcases Nat.lt_or_ge i (j - 1) with h | h
  · have h3 := hs i (j - 1) (by omega) h (by omega)
    rw [leV_iff] at h3
    omega
  · rw [show i = j - 1 by omega]; omega
theorem ord_sym {x y : PVer} (h : ord x y ≠ 0) : ord y x ≠ 0 := by
  rw [Ne, ord_iff] at *; omega
theorem twice_of {xs ys : List Ver} {j : Nat} (hp : ys.Perm xs) (h0 : 0 < j) (hj : j < ys.length) (he : ord (el ys (j - 1)).p (el ys j).p = 0) : ¬ Distinct (pv xs) := by
  intro hd
  have h1 : Distinct (pv ys) := ((show (pv ys).Perm (pv xs) from hp.map _).pairwise_iff (R := fun x y => ord x y ≠ 0) (fun h => ord_sym h)).2 hd
  unfold Distinct at h1
  rw [List.pairwise_iff_getElem] at h1
  have := h1 (j - 1) j (by rw [pv_len]; omega) (by rw [pv_len]; exact hj) (by omega)
  rw [pv_at, pv_at] at this
  exact this he
/-- Rows with the same data. -/
def Like (xs zs : List Ver) : Prop := ∀ j, (el xs j).p = (el zs j).p
theorem Like.pv {xs zs : List Ver} (h : Like xs zs) (hl : xs.length = zs.length) : pv xs = pv zs := by
  refine List.ext_getElem (by rw [pv_len, pv_len, hl]) fun i h1 h2 => ?_
  rw [pv_at, pv_at]; exact h i
theorem el_set {xs : List Ver} {i : Nat} (hi : i < xs.length) (z : Ver) (j : Nat) : el (xs.set i z) j = if j = i then z else el xs j := by
  unfold el
  simp only [List.getD_eq_getElem?_getD, List.getElem?_set]
  by_cases h : i = j
  · subst h; simp [hi]
  · simp [h, Ne.symm h]
theorem chks_ok : ∀ {l : List (Sl Ver)}, chks (parts l) = 0 → ∀ v, v ∈ l.flatMap (·.xs) → okVer v.p = true
  | [], _, v, hv => by simp at hv
  | x :: t, h, v, hv => by
    rw [parts, List.map_cons, chks] at h
    split at h
    · rename_i hc; exact absurd h hc
    · rename_i hc
      rcases List.mem_append.1 (by rwa [List.flatMap_cons] at hv) with hv | hv
      · exact chk_all (pv x.xs) none (by simpa using hc) _ (List.mem_map_of_mem hv)
      · exact chks_ok h v hv
theorem row_small {v : PVer} (h : okVer v = true) : v.row.length * 32 ≤ 140737488355328 := by
  unfold okVer okRow at h
  simp only [Bool.and_eq_true, decide_eq_true_eq] at h
  omega
/-- What the clone's place in memory says. -/
theorem copied_ver {w w' : World} {x : Ver} {v : Value} (h : Copied kVl w x.p.row v w') : ∃ z : Ver, z.p = x.p ∧ v = .slice z.A x.p.row.length z.c ∧ kVer.inv w' z ∧ ∀ k, k ∈ kVer.foot z → w.heap.size ≤ k := by
  obtain ⟨⟨A, c, xs⟩, rfl, h1, h2, h3⟩ := h
  simp only at h2 h3
  subst h2
  refine ⟨⟨x.p, A, c⟩, rfl, rfl, h1, fun k hk => ?_⟩
  rcases List.mem_append.1 hk with hk | hk
  · exact h3 k hk
  · simp [kVl, Kd.flat] at hk
theorem like_set {ys zs : List Ver} {k : Nat} {z : Ver} (h : Like ys zs) (hk : k < ys.length) (hz : z.p = (el ys k).p) : Like (ys.set k z) zs := fun j => by
  rw [el_set hk]
  split
  · rename_i e; rw [hz, e]; exact h k
  · exact h j
theorem ver_cells_set {x z : Ver} (h : z.p = x.p) : kVer.cells z = (kVer.cells x).set 2 (.slice z.A x.p.row.length z.c) := by
  show Ver.cells z = (Ver.cells x).set 2 _
  simp [Ver.cells, h]
theorem sl_inv_of {w : World} {base g c : Nat} {ys : List Ver} (h : Own kVer 59 w base (.slice (some ⟨g, 0, none⟩) ys.length c) ys) : kVer.Inv w ⟨some ⟨g, 0, none⟩, c, ys⟩ := by
  obtain ⟨A, c', hv, hi, _⟩ := h.sl
  simp only [Value.slice.injEq, true_and] at hv
  obtain ⟨rfl, rfl⟩ := hv
  exact hi
set_option maxRecDepth 100000 in
set_option maxHeartbeats 2000000 in
theorem merge_any (s : Sl (Sl Ver)) (fl : List Ver) (hfl : s.xs.flatMap (·.xs) = fl) (w : World) (h : (Kd.slice kVer).Inv w s) (hf : ∀ x, x ∈ s.xs → VFits x.xs) (hl1 : fl.length ≤ 1000)
    (hsort : ∀ (xs : List Ver) (base g c : Nat) (w1 : World), VR w1 base g c fl.length xs → base ≤ w1.heap.size → Calls Try.prog 62 #[.slice (some ⟨g, 0, none⟩) fl.length c, .int .i64 (fl.length : Int), .func (.func 33) #[] #[]] w1 (SortPost w1 base g c fl.length xs)) :
    Calls Try.prog 14 #[.slice s.A s.xs.length s.cap] w (MPost w (parts s.xs)) := by
  have HI := Lib.hid h
  have HF := Lib.hid hf
  have HS := Lib.hid hsort
  have hmx : s.xs.length ≤ 9223372036854775807 := Nat.le_trans h.le h.mx
  have hl : fl.length ≤ 1000000 := Nat.le_trans hl1 (by decide)
  clear h hf hsort
  go_enter Try.func14, Try.ntmps14
  go_wp2_with fail
  go_loopw [2, 3, 5, 6, 11] (fun _ _ _ _ i wr => ∃ k : Nat, k ≤ s.xs.length ∧ i = .int .i64 k ∧ Hid (chks (parts s.xs) = chks ((parts s.xs).drop k)) ∧ BW w wr) (fun _ _ _ _ i _ => s.xs.length - (intOf i).toNat)
  case atStart => exact ⟨0, Nat.zero_le _, rfl, rfl, BW.refl w⟩
  case round =>
    obtain ⟨k, hk, rfl, HP, HB⟩ := hrel
    by_cases hlt : k < s.xs.length
    · obtain ⟨b, o, hA, hb, c0, hr⟩ := sl_at (HI.out.below HB.out) k hlt
      have HA := Lib.hid hA
      have HR := Lib.hid hr
      have hkl : k < (parts s.xs).length := by simpa [parts] using hlt
      have HC := Lib.hid (chks_at hkl)
      have HX : Hid ((parts s.xs)[k] = pv s.xs[k].xs) := by show _ = _; simp [parts]
      rw [hA]
      clear hA hr
      by_cases hne : chk okVer none (pv s.xs[k].xs) = 0
      · have hbn : (chk okVer none (pv s.xs[k].xs) != 0) = false := by simp [hne]
        go_wp2_with (refine (cCheck_any s.xs[k] _ HR.out (HF.out _ (List.getElem_mem hlt))).mono ?_; rintro e w1 ⟨rfl, hb1⟩; replace HB := BW.next hb1)
        go_roundw
        case rel => exact ⟨k + 1, by omega, by go_num, by show _ = _; rw [HP.out, HC.out, HX.out, if_neg (by simpa using hne)], HB⟩
        case measure => simp [intOf]; omega
      · have hbn : (chk okVer none (pv s.xs[k].xs) != 0) = true := by simp [hne]
        go_wp2_with (refine (cCheck_any s.xs[k] _ HR.out (HF.out _ (List.getElem_mem hlt))).mono ?_; rintro e w1 ⟨rfl, hb1⟩; replace HB := BW.next hb1)
        go_ret2
        have hc : chks (parts s.xs) = chk okVer none (pv s.xs[k].xs) := by rw [HP.out, HC.out, HX.out, if_pos hne]
        exact ⟨⟨none, 0, []⟩, chks (parts s.xs), by rw [hc]; rfl, nil_inv _, .bad (by rw [hc]; exact hne), HB.out⟩
    · have HC : Hid (chks (parts s.xs) = 0) := by show _ = _; rw [HP.out, List.drop_of_length_le (by simp [parts]; omega)]; rfl
      clear hk HP
      go_wp2_with (refine (concat_any s _ (HI.out.below HB.out) (by rw [hfl]; exact hl)).mono ?_; rintro e w1 ⟨v, rfl, ho, hb1⟩; rw [hfl] at ho; have HO := Lib.hid ho; have HB1 := BW.next hb1; have hb1z := hb1.size; clear ho hb1)
      rcases own_cases HO.out with ⟨rfl, hx⟩ | ⟨g, c, rfl, hrow⟩
      · go_wp2_with (refine (sortStable_nil _).mono ?_; rintro e w2 ⟨rfl, hb2⟩; replace HB1 := BW.next hb2.out)
        go_loopw [2, 3, 8, 27] (fun _ _ _ i wr => i = .int .i64 0 ∧ wr = w2) (fun _ _ _ i _ => (intOf i).toNat)
        case atStart => exact ⟨rfl, rfl⟩
        case round =>
          obtain ⟨rfl, rfl⟩ := hrel
          go_wp2
          go_ret2
          exact ⟨⟨none, 0, []⟩, 0, rfl, nil_inv _, .ok [] HC.out (by rw [parts_flat, hfl, hx]; exact .refl _) .nil, HB1.out⟩
      · have HR := Lib.hid hrow
        have hgb : wr.heap.size ≤ g := hrow.lt.1
        clear hrow
        go_wp2_with (refine (sortStable_of _ _ _ g c _ hl1 (HS.out _ wr.heap.size g c _ ⟨HR.out, rfl⟩ hb1z)).mono ?_; rintro e w2 ⟨rfl, zs, hv, hso, hg⟩)
        have HV := Lib.hid hv
        have HSO := Lib.hid hso
        have HG : Gr w w2 none (some g) := (Gr.of_own HB1 (HO.out.lower HB.out.size)).trans hg
        have HOKs : Hid (∀ (ys : List Ver) (j : Nat), j < fl.length → Like ys zs → okVer (el ys j).p = true) := fun ys j hj hlk => by
          have hjz : j < zs.length := by rw [hso.len]; exact hj
          rw [hlk j, ← el_at hjz]
          exact chks_ok HC.out _ (by rw [hfl]; exact hso.perm.subset (List.getElem_mem hjz))
        clear hv hso hg
        go_loopw [2, 3, 8, 27] (fun _ _ _ i wq => ∃ (k : Nat) (ys : List Ver), k ≤ fl.length ∧ i = .int .i64 k ∧ Hid (VR wq wr.heap.size g c fl.length ys) ∧ Hid (Like ys zs) ∧ Hid (∀ j, 0 < j → j < k → ord (el zs (j - 1)).p (el zs j).p ≠ 0) ∧ Gr w wq none (some g)) (fun _ _ _ i _ => fl.length - (intOf i).toNat)
        case atStart => exact ⟨0, zs, Nat.zero_le _, rfl, HV, fun _ => rfl, fun j h1 h2 => by omega, HG⟩
        case round =>
          clear HG HV
          obtain ⟨k, ys, hk, rfl, HV, HLk, HD, HG⟩ := hrel
          by_cases hlt : k < fl.length
          · have hkl : k < ys.length := by have := HV.out.len; omega
            by_cases h0 : 0 < k
            · obtain ⟨c0, c1, c2, c3, c4, c5, c6, c7, c8⟩ := vrow_at HV.out.row k hkl
              obtain ⟨d0, d1, d2, d3, d4, d5, d6, d7, d8⟩ := vrow_at HV.out.row (k - 1) (by omega)
              obtain ⟨q1, q2, q3, q4, q5⟩ := idx_pred (n := fl.length) h0 hlt (by omega)
              have hkn : (k : Int) < (fl.length : Int) := by omega
              have hk0 : (0 : Int) < (k : Int) := by omega
              have hrs := row_small (HOKs.out ys k hlt HLk.out)
              go_wp2_with fail
              go_still_tail 12, (by kernel_rfl)
              change wpList _ _ _ _ _ wr.drew
              have HB := BW.refl wr
              by_cases hcmp : ord (el ys (k - 1)).p (el ys k).p = 0
              · go_wp2_with (go_at_call 33; refine (order_any (el ys (k - 1)) (el ys k) _).mono ?_; rintro e w2 ⟨rfl, hb2⟩; replace HB := BW.next hb2)
                go_ret2
                exact ⟨⟨none, 0, []⟩, 10, rfl, nil_inv _, .twice HC.out (by rw [parts_flat, hfl]; exact twice_of HSO.out.perm h0 (by rw [HSO.out.len]; exact hlt) (by rw [← HLk.out, ← HLk.out]; exact hcmp)), (HG.trans (Gr.of_below _ HB.out)).belowN⟩
              · go_wp2_with (first
                  | (go_at_call 33; refine (order_any (el ys (k - 1)) (el ys k) _).mono ?_; rintro e w2 ⟨rfl, hb2⟩; replace HB := BW.next hb2; have HVW := Lib.hid (HV.out.below HB.out); have k1 := (vrow_at HVW.out.row k hkl).2.2.1)
                  | (refine (cloneRow_any (el ys k).rowS _ (HVW.out.row.inv_el hkl) hrs).mono ?_; rintro e w3 ⟨v, rfl, hcp, hb3⟩; obtain ⟨z, hz1, rfl, hz2, hz3⟩ := copied_ver hcp; clear hcp; have HV3 := Lib.hid (HVW.out.below hb3); have k2 := (vrow_at HV3.out.row k hkl).2.2.1; have f2 := HV3.out.row.frozen (k * 9 + 2)))
                obtain ⟨r1, r2⟩ := HV3.out.row.field k 2 hkl (by decide) _ z (by rw [el_at hkl]; exact ver_cells_set hz1) hz2 (fun b hb he => by have h1 := hz3 b hb; have h2 := HVW.out.row.lt.2; omega)
                go_roundw
                case rel => exact ⟨k + 1, ys.set k z, by omega, by go_num, ⟨r1, by rw [List.length_set]; exact HV.out.len⟩, like_set HLk.out hkl hz1, fun j h1 h2 => by
                  rcases Nat.lt_or_ge j k with h | h
                  · exact HD.out j h1 h
                  · rw [show j = k by omega, ← HLk.out, ← HLk.out]; exact hcmp, HG.trans (((Gr.of_below _ HB.out).trans (Gr.of_below _ hb3)).trans r2)⟩
                case measure => simp [intOf]; omega
            · obtain rfl : k = 0 := by omega
              have hd : decide ((0 : Nat) < 0) = false := rfl
              obtain ⟨c0, c1, c2, c3, c4, c5, c6, c7, c8⟩ := vrow_at HV.out.row 0 hkl
              go_wp2_with fail
              go_quiet (fail)
              rename_i nq _
              have HVW := Lib.hid (HV.out.below (below_drewN (Below.refl _ _) nq))
              have hrs := row_small (HOKs.out ys 0 hlt HLk.out)
              go_wp2_with (refine (cloneRow_any (el ys 0).rowS _ (HVW.out.row.inv_el hkl) hrs).mono ?_; rintro e w3 ⟨v, rfl, hcp, hb3⟩; obtain ⟨z, hz1, rfl, hz2, hz3⟩ := copied_ver hcp; clear hcp; have HV3 := Lib.hid (HVW.out.below hb3); have k2 := (vrow_at HV3.out.row 0 hkl).2.2.1; have f2 := HV3.out.row.frozen (0 * 9 + 2))
              obtain ⟨r1, r2⟩ := HV3.out.row.field 0 2 hkl (by decide) _ z (by rw [el_at hkl]; exact ver_cells_set hz1) hz2 (fun b hb he => by have h1 := hz3 b hb; have h2 := HVW.out.row.lt.2; omega)
              go_roundw
              case rel => exact ⟨1, ys.set 0 z, by omega, by go_num, ⟨r1, by rw [List.length_set]; exact HV.out.len⟩, like_set HLk.out hkl hz1, fun j h1 h2 => by omega, HG.trans (((Gr.of_below _ (below_drewN (Below.refl _ _) nq)).trans (Gr.of_below _ hb3)).trans r2)⟩
              case measure => simp [intOf]; omega
          · go_wp2
            go_ret2
            have hle := HV.out.len
            exact ⟨⟨some ⟨g, 0, none⟩, c, ys⟩, 0, by rw [hle]; rfl, sl_inv_of HV.out.row.own, .ok _ HC.out (by rw [parts_flat, hfl, HLk.out.pv (by rw [hle, HSO.out.len])]; exact HSO.out.perm.map _) (by rw [HLk.out.pv (by rw [hle, HSO.out.len])]; exact strict_of (n := fl.length) HSO.out.len HSO.out.sort (fun j h1 h2 => HD.out j h1 (by omega))), HG.belowN⟩
end Go.Proofs.Ytndlhmnablefpaa

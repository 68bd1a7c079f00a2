/- slices' symMerge of two sorted ranges of versions. -/
import Derived.Test.YtndlhmnablefpaaSym5
import Derived.Deep.CutRange
import Derived.Deep.DeepCutAuto
namespace Go.Proofs.Ytndlhmnablefpaa
open Go.RowKit
set_option linter.unusedSimpArgs false
set_option linter.unusedVariables false
/-- What the search in the middle knows. -/
structure Mid (lo hi n i j : Nat) (xs : List Ver) : Prop where
  h1 : lo ≤ i
  h2 : i ≤ j
  h3 : j ≤ hi
  left : lo < i → leV (el xs (i - 1)) (el xs (n - i))
  right : j < hi → leV (el xs (n - 1 - j)) (el xs j)
theorem Mid.up {lo hi n i j c : Nat} {xs : List Ver} (h : Mid lo hi n i j xs) (hi' : i ≤ c) (hj : c < j) (hl : leV (el xs c) (el xs (n - 1 - c))) : Mid lo hi n (c + 1) j xs :=
  ⟨by have := h.h1; omega, by omega, h.h3, fun _ => by rw [Nat.add_sub_cancel, show n - (c + 1) = n - 1 - c by omega]; exact hl, h.right⟩
theorem Mid.dn {lo hi n i j c : Nat} {xs : List Ver} (h : Mid lo hi n i j xs) (hi' : i ≤ c) (hj : c < j) (hl : leV (el xs (n - 1 - c)) (el xs c)) : Mid lo hi n i c xs :=
  ⟨h.h1, hi', by have := h.h3; omega, h.left, fun _ => hl⟩
/-- Where the search begins and ends. -/
structure Span (a m b mid lo hi : Nat) : Prop where
  am : a < m
  mb : m < b
  mid1 : 2 * mid ≤ a + b
  mid2 : a + b ≤ 2 * mid + 1
  at' : (mid < m ∧ lo = mid + m - b ∧ hi = mid) ∨ (m ≤ mid ∧ lo = a ∧ hi = m)
theorem Mid.cut {a m b mid lo hi i : Nat} {xs : List Ver} (h : Mid lo hi (mid + m) i i xs) (s : Span a m b mid lo hi) : Cut a m b mid i xs := by
  obtain ⟨h1, h2, h3, hl, hr⟩ := h
  obtain ⟨s1, s2, s3, s4, s5⟩ := s
  refine ⟨by omega, by omega, by omega, by omega, fun g1 g2 => hl (by omega), fun g1 g2 => ?_⟩
  rw [show mid + m - i - 1 = mid + m - 1 - i by omega]
  exact hr (by omega)
theorem wrap64_nat {n : Nat} (h : n ≤ 1000000) : RowKit.wrap64 (n : Int) = (n : Int) := by
  unfold RowKit.wrap64; omega
/-- What the ends come to. -/
structure Ends (a m b mid j E n f : Nat) : Prop where
  e1 : a ≤ mid
  e2 : mid ≤ b
  e3 : j ≤ mid
  e4 : mid ≤ E
  e5 : mid < n
  e6 : mid ≤ n
  e7 : mid - a ≤ f
  e8 : b - mid ≤ f
  k1 : a ≤ j
  k2 : j ≤ m
  k3 : m ≤ E
  k4 : E ≤ b
  k5 : E ≤ n
theorem ends_of {a m b mid j E n f lo hi : Nat} {xs : List Ver} (hc : Cut a m b mid j xs) (sp : Span a m b mid lo hi) (hE : E = mid + m - j) (hbn : b ≤ n) (hf : b - a ≤ f + 1) (h : Mid lo hi (mid + m) j j xs) : Ends a m b mid j E n f := by
  obtain ⟨k1, k2, k3, k4, _, _⟩ := hc
  obtain ⟨s1, s2, s3, s4, s5⟩ := sp
  obtain ⟨h1, h2, h3, _, _⟩ := h
  constructor <;> omega
theorem Ends.halves {a m b mid j E n f : Nat} {xs ys : List Ver} (h : Ends a m b mid j E n f) (hE : E = mid + m - j) (h1 : SortedOn a m xs) (h2 : SortedOn m b xs) (hc : Cut a m b mid j xs) (hy : Maps (rotI j m E) xs ys) : SortedOn a j ys ∧ SortedOn j mid ys ∧ SortedOn mid E ys ∧ SortedOn E b ys ∧ ∀ p q, a ≤ p → p < mid → mid ≤ q → q < b → leV (el ys p) (el ys q) := by
  subst hE; exact cut_halves h1 h2 hc h.e1 hy
theorem Ends.close {a m b mid j E n f : Nat} {xs ys us vs : List Ver} (h : Ends a m b mid j E n f) (hm : Maps (rotI j m E) xs ys) (hx : ∀ p q, a ≤ p → p < mid → mid ≤ q → q < b → leV (el ys p) (el ys q)) (h1 : SM a mid ys us) (h2 : SM mid b us vs) : SM a b xs vs := by
  obtain ⟨e1, e2, e3, e4, e5, e6, e7, e8, k1, k2, k3, k4, k5⟩ := h
  refine SM.both hm.perm (fun k hk' => ?_) (fun p p1 p2 => ⟨rotI j m E p, ?_, ?_, hm.el p⟩) hx h1 h2 e1 e2
  · rw [hm.el, show rotI j m E k = k by unfold rotI; (repeat' split) <;> omega]
  · unfold rotI; (repeat' split) <;> omega
  · unfold rotI; (repeat' split) <;> omega
theorem Ends.norot {a m b mid j E n f : Nat} (h : Ends a m b mid j E n f) (hn : ¬ (j < m ∧ m < E)) (xs : List Ver) : Maps (rotI j m E) xs xs := by
  obtain ⟨e1, e2, e3, e4, e5, e6, e7, e8, k1, k2, k3, k4, k5⟩ := h
  exact Maps.refl _ (fun k => rot_none (by omega) k2 k3)
theorem Ends.noleft {a m b mid j E n f : Nat} {ys : List Ver} (h : Ends a m b mid j E n f) (hn : ¬ (a < j ∧ j < mid)) (h1 : SortedOn a j ys) (h2 : SortedOn j mid ys) : SM a mid ys ys := by
  obtain ⟨e1, e2, e3, e4, e5, e6, e7, e8, k1, k2, k3, k4, k5⟩ := h
  refine SM.same ?_
  rcases (show j = a ∨ j = mid by omega) with h | h
  · rw [h] at h2; exact h2
  · rw [h] at h1; exact h1
theorem Ends.noright {a m b mid j E n f : Nat} {ys : List Ver} (h : Ends a m b mid j E n f) (hn : ¬ (mid < E ∧ E < b)) (h1 : SortedOn mid E ys) (h2 : SortedOn E b ys) : SM mid b ys ys := by
  obtain ⟨e1, e2, e3, e4, e5, e6, e7, e8, k1, k2, k3, k4, k5⟩ := h
  refine SM.same ?_
  rcases (show E = mid ∨ E = b by omega) with h | h
  · rw [h] at h2; exact h2
  · rw [h] at h1; exact h1
/-- b says whether p holds. -/
def Yes (b : Bool) (p : Prop) : Prop := b = true ↔ p
theorem iff_yes {p q : Prop} (h1 : p) (h2 : q) : Yes true (p ∧ q) := ⟨fun _ => ⟨h1, h2⟩, fun _ => rfl⟩
theorem iff_no1 {p q : Prop} (h : ¬ p) : Yes false (p ∧ q) := ⟨fun h' => absurd h' (by decide), fun h' => absurd h'.1 h⟩
theorem iff_no2 {p q : Prop} (h : ¬ q) : Yes false (p ∧ q) := ⟨fun h' => absurd h' (by decide), fun h' => absurd h'.2 h⟩
theorem iff_out {p : Prop} (h : Yes false p) : ¬ p := fun h' => absurd (h.2 h') (by decide)
theorem base_of {w wx : World} {base g : Nat} (hb : base ≤ w.heap.size) (h : Gr w wx (some g) (some g)) : base ≤ wx.heap.size := Nat.le_trans hb h.size
theorem eq_vr {w w' : World} {base g c n : Nat} {ys : List Ver} (h : w' = w) (hv : VR w base g c n ys) : VR w' base g c n ys := by rw [h]; exact hv
theorem eq_size {w w' : World} {b : Nat} (h : w' = w) (hv : b ≤ w.heap.size) : b ≤ w'.heap.size := by rw [h]; exact hv
theorem eq_gr {w0 w w' w2 : World} {g : Nat} (h : w' = w) (hv : Gr w0 w (some g) (some g)) (h2 : Gr w' w2 (some g) (some g)) : Gr w0 w2 (some g) (some g) := by subst h; exact hv.trans h2
theorem eq_gr' {w0 w w' : World} {g : Nat} (h : w' = w) (hv : Gr w0 w (some g) (some g)) : Gr w0 w' (some g) (some g) := by subst h; exact hv
set_option maxRecDepth 100000 in
set_option maxHeartbeats 4000000 in
theorem symMerge_any (f : Nat) : ∀ (a m b n : Nat) (xs : List Ver) (base g c : Nat) (w : World), b - a ≤ f → VR w base g c n xs → base ≤ w.heap.size → n ≤ 1000000 → a < m → m < b → b ≤ n → SortedOn a m xs → SortedOn m b xs →
    Calls Try.prog 94 #[.slice (some ⟨g, 0, none⟩) n c, .int .i64 (a : Int), .int .i64 (m : Int), .int .i64 (b : Int), .func (.func 33) #[] #[]] w (SymPost a b w base g c n xs) := by
  induction f with
  | zero => intro a m b n xs base g c w hf _ _ _ h1 h2 _ _ _; omega
  | succ f ih =>
    intro a m b n xs base g c w hf h hb hn ham hmb hbn hs1 hs2
    by_cases hm1 : m = a + 1
    · exact symUp_any a m b n hm1 xs base g c w h hb hn hmb hbn hs2
    by_cases hm2 : b = m + 1
    · exact symDn_any a m b n hm2 xs base g c w h hb hn (by omega) hbn hs1
    have H := Lib.hid h
    have HS1 := Lib.hid hs1
    have HS2 := Lib.hid hs2
    have HIH := Lib.hid ih
    obtain ⟨mid, hmid, hm3, hm4⟩ : ∃ mid : Nat, ((a : Int) + (b : Int)) / 2 = (mid : Int) ∧ 2 * mid ≤ a + b ∧ a + b ≤ 2 * mid + 1 := ⟨(a + b) / 2, by omega, by omega, by omega⟩
    have e0 : IntKind.i64.wrap ((m : Int) - (a : Int)) = (m : Int) - (a : Int) := IntWalk.i64_in _ (by omega)
    have e1 : ¬ (m : Int) - (a : Int) = 1 := by omega
    have e1' : ((m : Int) - (a : Int) == 1) = false := by simpa using e1
    have e2 : IntKind.i64.wrap ((b : Int) - (m : Int)) = (b : Int) - (m : Int) := IntWalk.i64_in _ (by omega)
    have e3 : ¬ (b : Int) - (m : Int) = 1 := by omega
    have e3' : ((b : Int) - (m : Int) == 1) = false := by simpa using e3
    have e4 : IntKind.i64.wrap ((mid : Int) + (m : Int)) = (mid : Int) + (m : Int) := IntWalk.i64_in _ (by omega)
    have e5 : IntKind.i64.wrap ((mid : Int) + (m : Int) - (b : Int)) = (mid : Int) + (m : Int) - (b : Int) := IntWalk.i64_in _ (by omega)
    have e6 : IntKind.i64.wrap ((mid : Int) + (m : Int) - 1) = (mid : Int) + (m : Int) - 1 := IntWalk.i64_in _ (by omega)
    clear h hs1 hs2 ih hm1 hm2
    have HSP : Hid (∃ lo hi, Span a m b mid lo hi) := by
      rcases Nat.lt_or_ge mid m with h | h
      · exact ⟨_, _, ham, hmb, hm3, hm4, .inl ⟨h, rfl, rfl⟩⟩
      · exact ⟨_, _, ham, hmb, hm3, hm4, .inr ⟨h, rfl, rfl⟩⟩
    go_enter Try.func94, Try.ntmps94
    go_upto_if 140 with fail
    go_cut [20, 21] from 138 (fun s r wx => ∃ (lo hi : Nat), s = .int .i64 lo ∧ r = .int .i64 hi ∧ Hid (Span a m b mid lo hi) ∧ wx = w)
    case first =>
      by_cases hcase : mid < m
      · have hcase' : (mid : Int) < (m : Int) := by omega
        have HCS := Lib.hid hcase
        go_wp2_with fail
        go_meet
        exact ⟨mid + m - b, mid, by congr 1; omega, rfl, ⟨ham, hmb, hm3, hm4, .inl ⟨HCS.out, rfl, rfl⟩⟩, rfl⟩
      · have hcase' : ¬ (mid : Int) < (m : Int) := by omega
        have HCS := Lib.hid hcase
        go_wp2_with fail
        go_meet
        exact ⟨a, m, rfl, rfl, ⟨ham, hmb, hm3, hm4, .inr ⟨by have := HCS.out; omega, rfl, rfl⟩⟩, rfl⟩
    case rest =>
      obtain ⟨lo, hi, rfl, rfl, HSP2, hw⟩ := hcut
      have hw' := hw.symm
      subst hw'
      go_wp2_with fail
      go_loopw [20, 21, 23] (fun p q _ wr => ∃ (i j : Nat), p = .int .i64 i ∧ q = .int .i64 j ∧ Hid (Mid lo hi (mid + m) i j xs) ∧ BW w wr) (fun p q _ _ => (intOf q).toNat - (intOf p).toNat)
      case atStart => exact ⟨lo, hi, rfl, rfl, ⟨Nat.le_refl _, by have := HSP2.out.at'; omega, Nat.le_refl _, fun h => by omega, fun h => by omega⟩, BW.refl w⟩
      case round =>
        obtain ⟨i, j, rfl, rfl, HM, HB⟩ := hrel
        obtain ⟨g1, g2, g3, _, _⟩ := HM.out
        have g4 := HSP2.out.at'
        by_cases hlt : i < j
        · obtain ⟨h, hh, h1, h2⟩ : ∃ h : Nat, ((i : Int) + (j : Int)) / 2 = (h : Int) ∧ i ≤ h ∧ h < j := ⟨(i + j) / 2, by omega, by omega, by omega⟩
          have HV := Lib.hid (H.out.below HB.out)
          obtain ⟨r, hr1, hr2, hr3⟩ : ∃ r : Nat, (mid : Int) + (m : Int) - 1 - (h : Int) = (r : Int) ∧ r = mid + m - 1 - h ∧ r < n := ⟨mid + m - 1 - h, by omega, rfl, by omega⟩
          have HR2 := Lib.hid hr2
          have hhn : (h : Int) < (n : Int) := by omega
          have hrn : (r : Int) < (n : Int) := by omega
          have hhl : h < xs.length := by have := H.out.len; omega
          have hrl : r < xs.length := by have := H.out.len; omega
          obtain ⟨c0, c1, c2, c3, c4, c5, c6, c7, c8⟩ := vrow_at HV.out.row h hhl
          obtain ⟨d0, d1, d2, d3, d4, d5, d6, d7, d8⟩ := vrow_at HV.out.row r hrl
          have x1 : IntKind.i64.wrap ((mid : Int) + (m : Int) - 1 - (h : Int)) = (mid : Int) + (m : Int) - 1 - (h : Int) := IntWalk.i64_in _ (by omega)
          have x2 : 0 ≤ (mid : Int) + (m : Int) - 1 - (h : Int) := by omega
          have x3 : (h : Int) ≤ (mid : Int) + (m : Int) - 1 := by omega
          have x4 : (mid : Int) + (m : Int) - 1 - (h : Int) < (n : Int) := by omega
          have x5 : ((mid : Int) + (m : Int) - 1 - (h : Int)).toNat = r := by omega
          clear hr2 g4 hr1
          go_wp2_with fail
          go_still_tail 11, (by kernel_rfl)
          change wpList _ _ _ _ _ wr.drew
          clear c0 c1 c2 c3 c4 c5 c6 c7 c8 d0 d1 d2 d3 d4 d5 d6 d7 d8 x1 x2 x3 x4 x5
          go_wp2_with (go_at_call 33; refine (order_any (el xs r) (el xs h) _).mono ?_; rintro e w2 ⟨rfl, hb2⟩; replace HB := BW.next hb2)
          case _ =>
            have hless : lessV (el xs r) (el xs h) = false := decide_eq_false (by have h := ‹(!decide (ord (el xs r).p (el xs h).p < 0)) = true›; simpa using h)
            go_roundw
            case rel => exact ⟨h + 1, j, by go_num, rfl, HM.out.up h1 h2 (by rw [← HR2.out]; exact hless), HB⟩
            case measure => simp [intOf]; omega
          case _ =>
            have hless : lessV (el xs r) (el xs h) = true := decide_eq_true (by have h := ‹(!decide (ord (el xs r).p (el xs h).p < 0)) = false›; simpa using h)
            go_roundw
            case rel => exact ⟨i, h, rfl, rfl, HM.out.dn h1 h2 (by rw [← HR2.out]; exact .of_less hless), HB⟩
            case measure => simp [intOf]; omega
        · obtain rfl : j = i := by omega
          have HC := Lib.hid (HM.out.cut HSP2.out)
          clear e0 e1 e1' e2 e3 e3' e4 e5 e6 hmid
          have hE0 : (mid : Int) + (m : Int) - (j : Int) = ((mid + m - j : Nat) : Int) := by omega
          have hx0 : IntKind.i64.wrap ((mid : Int) + (m : Int) - (j : Int)) = (mid : Int) + (m : Int) - (j : Int) := IntWalk.i64_in _ (by omega)
          obtain ⟨E, hE2⟩ : ∃ E : Nat, E = mid + m - j := ⟨_, rfl⟩
          have HKK := Lib.hid (ends_of HC.out HSP2.out hE2 hbn hf HM.out)
          have HHV : Hid (∀ ys, Maps (rotI j m E) xs ys → SortedOn a j ys ∧ SortedOn j mid ys ∧ SortedOn mid E ys ∧ SortedOn E b ys ∧ ∀ p q, a ≤ p → p < mid → mid ≤ q → q < b → leV (el ys p) (el ys q)) := fun ys hy => HKK.out.halves hE2 HS1.out HS2.out HC.out hy
          rw [← hE2] at hE0
          have hw2 : RowKit.wrap64 (E : Int) = (E : Int) := wrap64_nat (Nat.le_trans HKK.out.k5 hn)
          clear hE2 g1 g2 g3 g4 hm3 hm4 HSP2 HM hlt hf
          go_upto_region 39 with fail
          try rw [hw2]
          clear hw2 hE0
          go_cut [185] from 178 (fun r wx => ∃ rb : Bool, r = .bool rb ∧ Hid (Yes rb (j < m ∧ m < E)) ∧ Hid (wx = wr))
          case first =>
            by_cases r1 : j < m
            · by_cases r2 : m < E
              · have R : Hid (Yes true (j < m ∧ m < E)) := iff_yes r1 r2
                go_wp2_with fail
                go_meet
                exact ⟨true, rfl, R, rfl⟩
              · have R : Hid (Yes false (j < m ∧ m < E)) := iff_no2 r2
                go_wp2_with fail
                go_meet
                exact ⟨false, rfl, R, rfl⟩
            · have R : Hid (Yes false (j < m ∧ m < E)) := iff_no1 r1
              go_wp2_with fail
              go_meet
              exact ⟨false, rfl, R, rfl⟩
          case rest =>
            obtain ⟨rb, rfl, HR, HW⟩ := hcut
            go_upto_if 185 with fail
            go_cut [] from 178 (fun wx => ∃ ys, Hid (VR wx base g c n ys) ∧ Hid (Maps (rotI j m E) xs ys) ∧ Hid (Gr w wx (some g) (some g)))
            case first =>
              cases rb with
              | true =>
                obtain ⟨z1, z2⟩ := HR.out.1 rfl
                have HZ1 := Lib.hid z1
                have HZ2 := Lib.hid z2
                clear z1 z2
                go_wp2_with (refine (rotate_any j m E n xs base g c _ (eq_vr HW.out (H.out.below HB.out)) (eq_size HW.out (Nat.le_trans hb HB.out.size)) hn HZ1.out HZ2.out HKK.out.k5 _).mono ?_; rintro e w2 ⟨rfl, ys, hv, hmp, hg⟩; have HV := Lib.hid hv; have HMp := Lib.hid hmp; have HG : Hid (Gr w w2 (some g) (some g)) := eq_gr HW.out (Gr.of_below _ HB.out) hg; clear hv hmp hg)
                go_meet
                exact ⟨ys, HV, HMp, HG⟩
              | false =>
                have HN : Hid (¬ (j < m ∧ m < E)) := iff_out HR.out
                go_wp2_with fail
                go_meet
                exact ⟨xs, eq_vr HW.out (H.out.below HB.out), HKK.out.norot HN.out xs, eq_gr' HW.out (Gr.of_below _ HB.out)⟩
            case rest =>
              clear HR HW rb
              obtain ⟨ys, HY, HMp, HG⟩ := hcut
              obtain ⟨s1, s2, s3, s4, s5⟩ := HHV.out ys HMp.out
              have S1 := Lib.hid s1
              have S2 := Lib.hid s2
              have S3 := Lib.hid s3
              have S4 := Lib.hid s4
              have S5 := Lib.hid s5
              clear s1 s2 s3 s4 s5
              go_upto_region 41 with fail
              go_cut [199] from 192 (fun r wx => ∃ rb : Bool, r = .bool rb ∧ Hid (Yes rb (a < j ∧ j < mid)) ∧ Hid (wx = wc))
              case first =>
                by_cases r1 : a < j
                · by_cases r2 : j < mid
                  · have R : Hid (Yes true (a < j ∧ j < mid)) := iff_yes r1 r2
                    go_wp2_with fail
                    go_meet
                    exact ⟨true, rfl, R, rfl⟩
                  · have R : Hid (Yes false (a < j ∧ j < mid)) := iff_no2 r2
                    go_wp2_with fail
                    go_meet
                    exact ⟨false, rfl, R, rfl⟩
                · have R : Hid (Yes false (a < j ∧ j < mid)) := iff_no1 r1
                  go_wp2_with fail
                  go_meet
                  exact ⟨false, rfl, R, rfl⟩
              case rest =>
                obtain ⟨rb, rfl, HR, HW⟩ := hcut
                go_upto_if 199 with fail
                go_cut [] from 192 (fun wx => ∃ us, Hid (VR wx base g c n us) ∧ Hid (SM a mid ys us) ∧ Hid (Gr w wx (some g) (some g)))
                case first =>
                  cases rb with
                  | true =>
                    obtain ⟨z1, z2⟩ := HR.out.1 rfl
                    have HZ1 := Lib.hid z1
                    have HZ2 := Lib.hid z2
                    clear z1 z2
                    go_wp2_with (refine (HIH.out a j mid n ys base g c _ HKK.out.e7 (eq_vr HW.out HY.out) (eq_size HW.out (base_of hb HG.out)) hn HZ1.out HZ2.out HKK.out.e6 S1.out S2.out).mono ?_; rintro e w2 ⟨rfl, us, hv, hsm, hg⟩; have HV := Lib.hid hv; have HSM := Lib.hid hsm; have HG2 : Hid (Gr w w2 (some g) (some g)) := eq_gr HW.out HG.out hg; clear hv hsm hg)
                    go_meet
                    exact ⟨us, HV, HSM, HG2⟩
                  | false =>
                    have HN : Hid (¬ (a < j ∧ j < mid)) := iff_out HR.out
                    go_wp2_with fail
                    go_meet
                    exact ⟨ys, eq_vr HW.out HY.out, HKK.out.noleft HN.out S1.out S2.out, eq_gr' HW.out HG.out⟩
                case rest =>
                  clear HR HW rb HG HY
                  obtain ⟨us, HU, HSM, HG⟩ := hcut
                  have T3 : Hid (SortedOn mid E us) := S3.out.of_el fun k k1 k2 => HSM.out.el k (.inr k1)
                  have T4 : Hid (SortedOn E b us) := S4.out.of_el fun k k1 k2 => HSM.out.el k (.inr (Nat.le_trans HKK.out.e4 k1))
                  go_upto_region 43 with fail
                  go_cut [213] from 206 (fun r wx => ∃ rb : Bool, r = .bool rb ∧ Hid (Yes rb (mid < E ∧ E < b)) ∧ Hid (wx = wc))
                  case first =>
                    by_cases r1 : mid < E
                    · by_cases r2 : E < b
                      · have R : Hid (Yes true (mid < E ∧ E < b)) := iff_yes r1 r2
                        go_wp2_with fail
                        go_meet
                        exact ⟨true, rfl, R, rfl⟩
                      · have R : Hid (Yes false (mid < E ∧ E < b)) := iff_no2 r2
                        go_wp2_with fail
                        go_meet
                        exact ⟨false, rfl, R, rfl⟩
                    · have R : Hid (Yes false (mid < E ∧ E < b)) := iff_no1 r1
                      go_wp2_with fail
                      go_meet
                      exact ⟨false, rfl, R, rfl⟩
                  case rest =>
                    obtain ⟨rb, rfl, HR, HW⟩ := hcut
                    have HE3 : Hid (∀ vs, SM mid b us vs → SM a b xs vs) := fun vs hvs => HKK.out.close HMp.out S5.out HSM.out hvs
                    cases rb with
                    | true =>
                      obtain ⟨z1, z2⟩ := HR.out.1 rfl
                      have HZ1 := Lib.hid z1
                      have HZ2 := Lib.hid z2
                      clear z1 z2
                      go_wp2_with (refine (HIH.out mid E b n us base g c _ HKK.out.e8 (eq_vr HW.out HU.out) (eq_size HW.out (base_of hb HG.out)) hn HZ1.out HZ2.out hbn T3.out T4.out).mono ?_; rintro e w2 ⟨rfl, vs, hv, hsm, hg⟩; have HV := Lib.hid hv; have HSM2 := Lib.hid hsm; have HG2 : Hid (Gr w w2 (some g) (some g)) := eq_gr HW.out HG.out hg; clear hv hsm hg)
                      go_end0
                      exact ⟨rfl, vs, HV.out, HE3.out vs HSM2.out, HG2.out⟩
                    | false =>
                      have HN : Hid (¬ (mid < E ∧ E < b)) := iff_out HR.out
                      go_wp2_with fail
                      go_end0
                      exact ⟨rfl, us, eq_vr HW.out HU.out, HE3.out us (HKK.out.noright HN.out T3.out T4.out), eq_gr' HW.out HG.out⟩
end Go.Proofs.Ytndlhmnablefpaa

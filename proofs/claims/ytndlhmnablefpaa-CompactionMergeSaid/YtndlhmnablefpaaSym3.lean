/- What slices' rotate does to versions. -/
import Derived.Test.YtndlhmnablefpaaSym2
namespace Go.Proofs.Ytndlhmnablefpaa
open Go.RowKit
set_option linter.unusedSimpArgs false
set_option linter.unusedVariables false
theorem swapRange_int (a b m n : Nat) (A B M : Int) (hA : A = a) (hB : B = b) (hM : M = m) (xs : List Ver) (base g c : Nat) (w : World) (h : VR w base g c n xs) (hb : base ≤ w.heap.size) (hn : n ≤ 1000000) (hab : a + m ≤ b) (hbn : b + m ≤ n) (v : Value) :
    Calls Try.prog 120 #[.slice (some ⟨g, 0, none⟩) n c, .int .i64 A, .int .i64 B, .int .i64 M, v] w (MapPost (swI a b m) w base g c n xs) := by
  subst hA hB hM
  exact swapRange_any a b m n xs base g c w h hb hn hab hbn v
/-- What is left to rotate. -/
structure Left (a m b I J : Nat) (xs zs : List Ver) : Prop where
  maps : ∃ f, Maps f xs zs ∧ ∀ k, f (rotI (m - I) m (m + J) k) = rotI a m b k
  hI : 0 < I ∧ I ≤ m - a
  hJ : 0 < J ∧ J ≤ b - m
theorem Left.big {a m b I J : Nat} {xs zs ys : List Ver} (h : Left a m b I J xs zs) (hm : m ≤ 1000000) (hs : Maps (swI (m - I) m J) zs ys) (hJI : J < I) : Left a m b (I - J) J xs ys := by
  obtain ⟨⟨f, h1, h2⟩, hI, hJ⟩ := h
  refine ⟨⟨fun k => f (swI (m - I) m J k), h1.trans hs (fun _ => rfl), fun k => ?_⟩, by omega, hJ⟩
  show f (swI (m - I) m J (rotI (m - (I - J)) m (m + J) k)) = _
  rw [rot_big (a := m - I) (b := m + J) (by omega) (by omega) hJI (by omega) (by omega), h2]
theorem Left.small {a m b I J : Nat} {xs zs ys : List Ver} (h : Left a m b I J xs zs) (hm : m ≤ 1000000) (hs : Maps (swI (m - I) (m + J - I) I) zs ys) (hJI : I < J) : Left a m b I (J - I) xs ys := by
  obtain ⟨⟨f, h1, h2⟩, hI, hJ⟩ := h
  refine ⟨⟨fun k => f (swI (m - I) (m + J - I) I k), h1.trans hs (fun _ => rfl), fun k => ?_⟩, hI, by omega⟩
  show f (swI (m - I) (m + J - I) I (rotI (m - I) m (m + (J - I)) k)) = _
  rw [rot_small (a := m - I) (b := m + J) (by omega) (by omega) hJI (by omega) (by omega), h2]
theorem Left.even {a m b I : Nat} {xs zs ys : List Ver} (h : Left a m b I I xs zs) (hs : Maps (swI (m - I) m I) zs ys) : Maps (rotI a m b) xs ys := by
  obtain ⟨⟨f, h1, h2⟩, hI, hJ⟩ := h
  refine h1.trans hs fun k => ?_
  rw [rot_even (a := m - I) (b := m + I) (by omega) (by omega) (by omega) (by omega), h2]
set_option maxRecDepth 100000 in
set_option maxHeartbeats 2000000 in
theorem rotate_any (a m b n : Nat) (xs : List Ver) (base g c : Nat) (w : World) (h : VR w base g c n xs) (hb : base ≤ w.heap.size) (hn : n ≤ 1000000) (ham : a < m) (hmb : m < b) (hbn : b ≤ n) (v : Value) :
    Calls Try.prog 112 #[.slice (some ⟨g, 0, none⟩) n c, .int .i64 (a : Int), .int .i64 (m : Int), .int .i64 (b : Int), v] w (MapPost (rotI a m b) w base g c n xs) := by
  have H := Lib.hid h
  clear h
  have e1 : IntKind.i64.wrap ((m : Int) - (a : Int)) = (m : Int) - (a : Int) := IntWalk.i64_in _ (by omega)
  have e2 : IntKind.i64.wrap ((b : Int) - (m : Int)) = (b : Int) - (m : Int) := IntWalk.i64_in _ (by omega)
  go_enter Try.func112, Try.ntmps112
  go_wp2_with fail
  go_loopw [10, 11] (fun p q wr => ∃ (I J : Nat) (zs : List Ver), p = .int .i64 I ∧ q = .int .i64 J ∧ Hid (VR wr base g c n zs) ∧ Hid (Left a m b I J xs zs) ∧ Gr w wr (some g) (some g)) (fun p q _ => (intOf p).toNat + (intOf q).toNat)
  case atStart => exact ⟨m - a, b - m, xs, by congr 1; omega, by congr 1; omega, H, ⟨⟨_, Maps.refl _ (fun _ => rfl), fun k => by rw [show m - (m - a) = a by omega, show m + (b - m) = b by omega]⟩, by omega, by omega⟩, Gr.refl _ _⟩
  case round =>
    obtain ⟨I, J, zs, rfl, rfl, HX, HL, HG⟩ := hrel
    have hI := HL.out.hI
    have hJ := HL.out.hJ
    have f1 : IntKind.i64.wrap ((m : Int) - (I : Int)) = (m : Int) - (I : Int) := IntWalk.i64_in _ (by omega)
    have f2 : IntKind.i64.wrap ((I : Int) - (J : Int)) = (I : Int) - (J : Int) := IntWalk.i64_in _ (by omega)
    have f3 : IntKind.i64.wrap ((m : Int) + (J : Int)) = (m : Int) + (J : Int) := IntWalk.i64_in _ (by omega)
    have f4 : IntKind.i64.wrap ((m : Int) + (J : Int) - (I : Int)) = (m : Int) + (J : Int) - (I : Int) := IntWalk.i64_in _ (by omega)
    have f5 : IntKind.i64.wrap ((J : Int) - (I : Int)) = (J : Int) - (I : Int) := IntWalk.i64_in _ (by omega)
    have hbr : base ≤ wr.heap.size := Nat.le_trans hb HG.size
    by_cases hne : I = J
    · subst hne
      go_wp2_with (refine (swapRange_int (m - I) m I n _ _ _ (by omega) rfl rfl zs base g c _ HX.out hbr hn (by omega) (by omega) v).mono ?_; rintro e w2 ⟨rfl, ys, hv, hmp, hg⟩)
      go_end0
      exact ⟨rfl, ys, hv, HL.out.even hmp, HG.trans hg⟩
    · have hne' : ¬ (I : Int) = (J : Int) := by omega
      rcases Nat.lt_or_ge J I with hlt | hge
      · have hlt' : (J : Int) < (I : Int) := by omega
        go_wp2_with (refine (swapRange_int (m - I) m J n _ _ _ (by omega) rfl rfl zs base g c _ HX.out hbr hn (by omega) (by omega) v).mono ?_; rintro e w2 ⟨rfl, ys, hv, hmp, hg⟩)
        go_roundw
        case rel => exact ⟨I - J, J, ys, by congr 1; omega, rfl, hv, HL.out.big (by omega) hmp hlt, HG.trans hg⟩
        case measure => simp [intOf]; omega
      · have hge' : ¬ (J : Int) < (I : Int) := by omega
        go_wp2_with (refine (swapRange_int (m - I) (m + J - I) I n _ _ _ (by omega) (by omega) rfl zs base g c _ HX.out hbr hn (by omega) (by omega) v).mono ?_; rintro e w2 ⟨rfl, ys, hv, hmp, hg⟩)
        go_roundw
        case rel => exact ⟨I, J - I, ys, rfl, by congr 1; omega, hv, HL.out.small (by omega) hmp (by omega), HG.trans hg⟩
        case measure => simp [intOf]; omega
end Go.Proofs.Ytndlhmnablefpaa

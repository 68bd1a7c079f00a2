/- slices' stable sort of versions. -/
import Derived.Test.YtndlhmnablefpaaSym6
import Derived.Test.YtndlhmnablefpaaRuns
namespace Go.Proofs.Ytndlhmnablefpaa
open Go.RowKit
set_option linter.unusedSimpArgs false
set_option linter.unusedVariables false
theorem insertion_int (a b n : Nat) (A B : Int) (hA : A = a) (hB : B = b) (xs : List Ver) (base g c : Nat) (w : World) (h : VR w base g c n xs) (hb : base ≤ w.heap.size) (hn : n ≤ 1000000) (hbn : b ≤ n) (hab : a ≤ b) :
    Calls Try.prog 93 #[.slice (some ⟨g, 0, none⟩) n c, .int .i64 A, .int .i64 B, .func (.func 33) #[] #[]] w
      fun e w' => e = .returned (.tuple #[]) ∧ ∃ zs, VR w' base g c n zs ∧ Sorts a b xs zs ∧ Gr w w' (some g) (some g) := by
  subst hA hB
  refine (insertion_any a b n xs base g c w h hb hn hbn (by omega)).mono ?_
  rintro e w' ⟨he, h1, h2⟩
  exact ⟨he, _, h1, insertion_sorts hab (by rw [h.len]; exact hbn), h2⟩
theorem symMerge_int (a m b n : Nat) (A M B : Int) (hA : A = a) (hM : M = m) (hB : B = b) (xs : List Ver) (base g c : Nat) (w : World) (h : VR w base g c n xs) (hb : base ≤ w.heap.size) (hn : n ≤ 1000000) (ham : a < m) (hmb : m < b) (hbn : b ≤ n) (h1 : SortedOn a m xs) (h2 : SortedOn m b xs) :
    Calls Try.prog 94 #[.slice (some ⟨g, 0, none⟩) n c, .int .i64 A, .int .i64 M, .int .i64 B, .func (.func 33) #[] #[]] w (SymPost a b w base g c n xs) := by
  subst hA hM hB
  exact symMerge_any _ a m b n xs base g c w (Nat.le_refl _) h hb hn ham hmb hbn h1 h2
/-- p is k runs of t. -/
structure At (t p n : Nat) (zs xs : List Ver) : Prop where
  ex : ∃ k, p = k * t
  runs : RunsTo t p zs
  perm : zs.Perm xs
theorem At.next {t p n : Nat} {zs xs ys : List Ver} (ht : 0 < t) (h : At t p n zs xs) (hs : SortedOn p (p + t) ys) (he : ∀ i, i < p → el ys i = el zs i) (hp : ys.Perm zs) : At t (p + t) n ys xs := by
  obtain ⟨⟨k, rfl⟩, hr, hp0⟩ := h
  have h1 := RunsTo.step ht hr hs he
  rw [Nat.add_mul, Nat.one_mul] at h1
  exact ⟨⟨k + 1, by rw [Nat.add_mul, Nat.one_mul]⟩, h1, hp.trans hp0⟩
theorem At.all {t p n : Nat} {zs xs ys : List Ver} (ht : 0 < t) (h : At t p n zs xs) (hs : SortedOn p n ys) (he : ∀ i, i < p → el ys i = el zs i) (hp : p ≤ n) (hn : n < p + t) : Runs t 0 n ys := by
  obtain ⟨⟨k, rfl⟩, hr, _⟩ := h
  exact Runs.all ht (fun j hj => (hr j hj).of_el fun i _ h2 => he i (by omega)) hs hp hn
theorem Runs.leftAt {s p n : Nat} {zs : List Ver} (h : Runs s p n zs) (hp : ∃ k, p = k * (2 * s)) (hn : p + s ≤ n) : SortedOn p (p + s) zs := by
  obtain ⟨k, rfl⟩ := hp; exact h.left hn
theorem Runs.lastAt {s p n : Nat} {zs : List Ver} (h : Runs s p n zs) (hp : ∃ k, p = k * (2 * s)) (hn : n ≤ p + s) : SortedOn p n zs := by
  obtain ⟨k, rfl⟩ := hp; exact h.last hn
theorem Runs.rightAt {s p n : Nat} {zs : List Ver} (h : Runs s p n zs) (hp : ∃ k, p = k * (2 * s)) : SortedOn (p + s) (min (p + 2 * s) n) zs := by
  obtain ⟨k, rfl⟩ := hp; exact h.right
set_option maxRecDepth 100000 in
set_option maxHeartbeats 4000000 in
theorem stable_any (n : Nat) (xs : List Ver) (base g c : Nat) (w : World) (h : VR w base g c n xs) (hb : base ≤ w.heap.size) (hn : n ≤ 1000000) :
    Calls Try.prog 62 #[.slice (some ⟨g, 0, none⟩) n c, .int .i64 (n : Int), .func (.func 33) #[] #[]] w (SortPost w base g c n xs) := by
  have H := Lib.hid h
  clear h
  go_enter Try.func62, Try.ntmps62
  go_wp2_with fail
  go_loopw [7, 8] (fun a b wr => ∃ (p : Nat) (zs : List Ver), p ≤ n ∧ a = .int .i64 p ∧ b = .int .i64 ((p : Int) + 20) ∧ Hid (VR wr base g c n zs) ∧ Hid (At 20 p n zs xs) ∧ Gr w wr (some g) (some g)) (fun _ b _ => n + 20 - (intOf b).toNat)
  case atStart => exact ⟨0, xs, Nat.zero_le _, rfl, rfl, H, ⟨⟨0, rfl⟩, fun j hj => by omega, .refl _⟩, Gr.refl _ _⟩
  case round =>
    obtain ⟨p, zs, hp, rfl, rfl, HX, HA, HG⟩ := hrel
    have hbr : base ≤ wr.heap.size := Nat.le_trans hb HG.size
    by_cases hlt : p + 20 ≤ n
    · have hlt' : (p : Int) + 20 ≤ (n : Int) := by omega
      go_wp2_with (refine (insertion_int p (p + 20) n _ _ rfl (by omega) zs base g c _ HX.out hbr hn hlt (by omega)).mono ?_; rintro e w1 ⟨rfl, ys, hv, hso, hg⟩; have HV := Lib.hid hv; have HSO := Lib.hid hso; clear hv hso)
      go_roundw
      case rel => exact ⟨p + 20, ys, hlt, by go_num, by go_num, HV, HA.out.next (by decide) HSO.out.sort (fun i hi => HSO.out.el i (.inl hi)) HSO.out.perm, HG.trans hg⟩
      case measure => simp [intOf]; omega
    · have hlt' : ¬ (p : Int) + 20 ≤ (n : Int) := by omega
      go_wp2_with (refine (insertion_int p n n _ _ rfl rfl zs base g c _ HX.out hbr hn (Nat.le_refl _) hp).mono ?_; rintro e w1 ⟨rfl, ys, hv, hso, hg⟩; have HV := Lib.hid hv; have HSO := Lib.hid hso; clear hv hso)
      have HG1 := HG.trans hg
      have HR : Hid (Runs 20 0 n ys) := HA.out.all (by decide) HSO.out.sort (fun i hi => HSO.out.el i (.inl hi)) hp (by omega)
      have HPm : Hid (ys.Perm xs) := HSO.out.perm.trans HA.out.perm
      clear hg HG HSO HA HX hlt hlt' hp hbr
      go_loopw [6, 7, 8, 9] (fun q _ _ _ wr => ∃ (s : Nat) (zs : List Ver), 0 < s ∧ s ≤ 2000000 ∧ q = .int .i64 s ∧ Hid (VR wr base g c n zs) ∧ Hid (Runs s 0 n zs) ∧ Hid (zs.Perm xs) ∧ Gr w wr (some g) (some g)) (fun q _ _ _ _ => n - (intOf q).toNat)
      case atStart => exact ⟨20, ys, by decide, by decide, rfl, HV, HR, HPm, HG1⟩
      case round =>
        clear HV HR HPm HG1
        obtain ⟨s, zs, hs0, hs1, rfl, HX, HR, HPm, HG⟩ := hrel
        have hbr : base ≤ wr.heap.size := Nat.le_trans hb HG.size
        by_cases hsn : s < n
        · have hsn' : (s : Int) < (n : Int) := by omega
          have e1 : IntKind.i64.wrap (2 * (s : Int)) = 2 * (s : Int) := IntWalk.i64_in _ (by omega)
          go_wp2_with fail
          go_loopw [7, 8] (fun a b wq => ∃ (p : Nat) (ys : List Ver), p ≤ n ∧ a = .int .i64 p ∧ b = .int .i64 ((p : Int) + 2 * (s : Int)) ∧ Hid (VR wq base g c n ys) ∧ Hid (At (2 * s) p n ys xs) ∧ Hid (Runs s p n ys) ∧ Gr w wq (some g) (some g)) (fun _ b _ => n + 2 * s - (intOf b).toNat)
          case atStart => exact ⟨0, zs, Nat.zero_le _, rfl, by first | (congr 1; done) | (congr 1; omega), HX, ⟨⟨0, by omega⟩, fun j hj => by have : 1 * (2 * s) ≤ (j + 1) * (2 * s) := Nat.mul_le_mul_right _ (by omega); omega, HPm.out⟩, HR, HG⟩
          case round =>
            clear HX HR HPm HG hbr
            obtain ⟨p, ys, hp, rfl, rfl, HX, HA, HR, HG⟩ := hrel
            have hbr : base ≤ wr.heap.size := Nat.le_trans hb HG.size
            have e2 : IntKind.i64.wrap ((p : Int) + (s : Int)) = (p : Int) + (s : Int) := IntWalk.i64_in _ (by omega)
            by_cases hlt : p + 2 * s ≤ n
            · have hlt' : (p : Int) + 2 * (s : Int) ≤ (n : Int) := by omega
              have e3 : IntKind.i64.wrap ((p : Int) + 2 * (s : Int) + 2 * (s : Int)) = (p : Int) + 2 * (s : Int) + 2 * (s : Int) := IntWalk.i64_in _ (by omega)
              go_wp2_with (refine (symMerge_int p (p + s) (p + 2 * s) n _ _ _ rfl (by omega) (by omega) ys base g c _ HX.out hbr hn (by omega) (by omega) hlt (HR.out.leftAt HA.out.ex (by omega)) (by have := HR.out.rightAt HA.out.ex; rwa [Nat.min_eq_left hlt] at this)).mono ?_; rintro e w1 ⟨rfl, zs2, hv, hso, hg⟩; have HV := Lib.hid hv; have HSO := Lib.hid hso; clear hv hso)
              go_roundw
              case rel => exact ⟨p + 2 * s, zs2, hlt, by first | (congr 1; done) | (congr 1; omega), by first | (congr 1; done) | (congr 1; omega), HV, HA.out.next (by omega) HSO.out.sort (fun i hi => HSO.out.el i (.inl hi)) HSO.out.perm, HR.out.keep (by omega) (fun i hi => HSO.out.el i (.inr hi)), HG.trans hg⟩
              case measure => simp [intOf]; omega
            · have hlt' : ¬ (p : Int) + 2 * (s : Int) ≤ (n : Int) := by omega
              have e3 : IntKind.i64.wrap ((s : Int) * 2) = (s : Int) * 2 := IntWalk.i64_in _ (by omega)
              by_cases hps : p + s < n
              · have hps' : (p : Int) + (s : Int) < (n : Int) := by omega
                go_wp2_with (refine (symMerge_int p (p + s) n n _ _ _ rfl (by omega) rfl ys base g c _ HX.out hbr hn (by omega) hps (Nat.le_refl _) (HR.out.leftAt HA.out.ex (by omega)) (by have := HR.out.rightAt HA.out.ex; rwa [Nat.min_eq_right (by omega)] at this)).mono ?_; rintro e w1 ⟨rfl, zs2, hv, hso, hg⟩; have HV := Lib.hid hv; have HSO := Lib.hid hso; clear hv hso)
                go_roundw
                case rel => exact ⟨2 * s, zs2, by omega, by omega, by first | (congr 1; done) | (congr 1; omega), HV, HA.out.all (by omega) HSO.out.sort (fun i hi => HSO.out.el i (.inl hi)) hp (by omega), HSO.out.perm.trans HA.out.perm, HG.trans hg⟩
                case measure => simp [intOf]; omega
              · have hps' : ¬ (p : Int) + (s : Int) < (n : Int) := by omega
                go_wp2_with fail
                go_roundw
                case rel => exact ⟨2 * s, ys, by omega, by omega, by first | (congr 1; done) | (congr 1; omega), HX, HA.out.all (by omega) (HR.out.lastAt HA.out.ex (by omega)) (fun _ _ => rfl) hp (by omega), HA.out.perm, HG⟩
                case measure => simp [intOf]; omega
        · have hsn' : ¬ (s : Int) < (n : Int) := by omega
          go_wp2_with fail
          go_end0
          exact ⟨rfl, _, HX.out, sorts_of HPm.out H.out.len (HR.out.whole (by omega)), HG⟩
end Go.Proofs.Ytndlhmnablefpaa

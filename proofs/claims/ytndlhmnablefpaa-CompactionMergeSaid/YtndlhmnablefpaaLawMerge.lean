/- The law CompactionMerge is true. -/
import Derived.Test.YtndlhmnablefpaaFew
import Derived.Test.YtndlhmnablefpaaStable
import Derived.Test.YtndlhmnablefpaaRefMerge
namespace Go.Proofs.Ytndlhmnablefpaa
open Go.RowKit
set_option linter.unusedSimpArgs false
set_option linter.unusedVariables false
theorem strict_distinct {ps : List (List PVer)} {out : List PVer} (hp : out.Perm ps.flatten) (hs : out.Pairwise fun x y => before x y = true) : Distinct ps.flatten := by
  have h1 : Distinct out := hs.imp fun {a b} h => by
    rw [before_iff] at h
    rw [Ne, ord_iff]
    omega
  exact (hp.pairwise_iff (R := fun x y => ord x y ≠ 0) (fun h => ord_sym h)).1 h1
/-- There is one result only. -/
theorem MRes.uniq {ps : List (List PVer)} {o o' : List PVer} {e e' : Int} (h : MRes ps o e) (h' : MRes ps o' e') : o = o' ∧ e = e' := by
  cases h with
  | bad h =>
    cases h' with
    | bad _ => exact ⟨rfl, rfl⟩
    | twice h1 _ => exact absurd h1 h
    | ok _ h1 _ _ => exact absurd h1 h
  | twice h hd =>
    cases h' with
    | bad h1 => exact absurd h h1
    | twice _ _ => exact ⟨rfl, rfl⟩
    | ok _ _ hp hs => exact absurd (strict_distinct hp hs) hd
  | ok _ h hp hs =>
    cases h' with
    | bad h1 => exact absurd h h1
    | twice _ hd => exact absurd (strict_distinct hp hs) hd
    | ok _ _ hp' hs' => exact ⟨strict_unique (hp.trans hp'.symm) hs hs', rfl⟩
set_option maxRecDepth 100000 in
set_option maxHeartbeats 2000000 in
theorem lawMerge_any (s : Sl (Sl Ver)) (w : World) (h : (Kd.slice kVer).Inv w s) (hz : ∀ x, x ∈ s.xs → x.xs.length ≤ 140737488355328) (hf : ∀ x, x ∈ s.xs → VFits x.xs) :
    Ans Try.prog 4 #[.slice s.A s.xs.length s.cap] w (.bool true) := by
  unfold Ans
  have HI := Lib.hid h
  have HZ := Lib.hid hz
  have HF := Lib.hid hf
  clear h hz hf
  go_enter Try.func4, Try.ntmps4
  have HB := BW.refl w
  go_wp2_with fail
  refine Calls.mono (few_any s _ (HI.out.below HB.out) HZ.out) ?_
  rintro e v1 ⟨b, rfl, hb1, b1⟩
  replace HB := BW.next b1
  have HL := Lib.hid hb1
  clear b1 hb1
  cases b with
  | false =>
    go_wp2_with (refine (works_any _).mono ?_; rintro e v2 ⟨rfl, b2⟩; replace HB := BW.next b2)
    go_ret
    exact ⟨rfl, HB.out⟩
  | true =>
    have HL1 := Lib.hid (HL.out rfl)
    go_wp2_with fail
    refine Calls.mono (merge_any s (s.xs.flatMap (·.xs)) rfl _ (HI.out.below HB.out) HF.out (Nat.le_trans HL1.out (by decide)) (fun xs base g c w1 h1 h2 => stable_any _ xs base g c w1 h1 h2 (Nat.le_trans HL1.out (by decide)))) ?_
    rintro e v2 ⟨out, er, rfl, hi, hm, b2⟩
    replace HB := BW.next b2
    have HO := Lib.hid hi
    have HM := Lib.hid hm
    clear b2 hi hm
    have HB2 := BW.refl v2
    go_wp2_with fail
    refine Calls.mono (refMerge_any s (s.xs.flatMap (·.xs)) rfl _ (HI.out.below HB.out) HF.out (Nat.le_trans HL1.out (by decide))) ?_
    rintro e v3 ⟨out2, er2, rfl, hi2, hm2, b3⟩
    replace HB2 := BW.next b3
    obtain ⟨he1, rfl⟩ := HM.out.uniq hm2
    have HE := Lib.hid he1
    have HO2 := Lib.hid hi2
    clear b3 hi2 hm2 he1
    go_wp2_with fail
    refine Calls.mono (sameVersions_any out out2 _ (HO.out.below HB2.out) HO2.out HE.out) ?_
    rintro e v4 ⟨rfl, b4⟩
    replace HB2 := BW.next b4
    go_wp2_with (refine (works_any _).mono ?_; rintro e v5 ⟨rfl, b5⟩; replace HB2 := BW.next b5)
    go_ret
    exact ⟨rfl, (HB.trans HB2).out⟩
end Go.Proofs.Ytndlhmnablefpaa

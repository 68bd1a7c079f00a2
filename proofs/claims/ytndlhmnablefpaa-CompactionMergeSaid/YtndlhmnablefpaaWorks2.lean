/- law41.works is true: the walk. -/
import Derived.Test.YtndlhmnablefpaaWorks
namespace Go.Proofs.Ytndlhmnablefpaa
open Go.RowKit
set_option linter.unusedSimpArgs false
set_option linter.unusedVariables false
theorem choose_lit (xs : List Int) (f t n : Nat) (F T : Int) (cs : Array Value) {w : World} {g : Nat} (hb : Best xs f t) (hs : Small xs) (hn : n = xs.length) (hF : F = f) (hT : T = t) (hcs : (xs.flatMap kInt.cells).toArray = cs) (hg : w.heap[g]? = some (.cells cs 3 (0, 0))) :
    Ans Try.prog 10 #[.slice (some ⟨g, 0, none⟩) n n] w (.tuple #[.int .i64 F, .int .i64 T]) := by
  subst hn hF hT
  refine (choose_any ⟨some ⟨g, 0, none⟩, xs.length, xs⟩ w (lit_inv kInt xs hg hcs (fun _ _ => trivial) (Nat.le_trans hs.len (by decide))) hs).mono ?_
  rintro e w' ⟨f', t', rfl, hb', hw⟩
  obtain ⟨rfl, rfl⟩ := hb.uniq hb'
  exact ⟨rfl, hw⟩
theorem vv_inv (n : Int) (w : World) : kVer.inv w (vv n) := ⟨Nat.le_refl _, Nat.zero_le _, fun _ => rfl, fun h => absurd rfl h, fun _ h => by simp [vv, Ver.rowS] at h⟩
theorem fits_vv (n : Int) : Fits (vv n).p.row := fun v h => by simp [vv] at h
theorem lit2 {w : World} {g : Nat} (a b : Int) (h : w.heap[g]? = some (.cells ((vv a).cells ++ (vv b).cells).toArray 59 (0, 0))) : kVer.Inv w ⟨some ⟨g, 0, none⟩, 2, [vv a, vv b]⟩ :=
  lit_inv kVer [vv a, vv b] h (by simp [kVer]) (fun x hx => by simp at hx; rcases hx with rfl | rfl <;> exact vv_inv _ _) (show (2 : Nat) ≤ 9223372036854775807 by decide)
theorem lit4 {w : World} {g : Nat} (h : w.heap[g]? = some (.cells ((vv 1).cells ++ ((vv 2).cells ++ ((vv 3).cells ++ (vv 4).cells))).toArray 59 (0, 0))) : kVer.Inv w ⟨some ⟨g, 0, none⟩, 4, [vv 1, vv 2, vv 3, vv 4]⟩ :=
  lit_inv kVer [vv 1, vv 2, vv 3, vv 4] h (by simp [kVer]) (fun x hx => by simp at hx; rcases hx with rfl | rfl | rfl | rfl <;> exact vv_inv _ _) (show (4 : Nat) ≤ 9223372036854775807 by decide)
def MexPost (w : World) (e : Ending) (w' : World) : Prop := ∃ out : Sl Ver, e = .returned (.tuple #[.slice out.A out.xs.length out.cap, .int .i64 0]) ∧ kVer.Inv w' out ∧ pv out.xs = pv [vv 1, vv 2, vv 3, vv 4] ∧ Below w.heap.size w w'
set_option maxRecDepth 100000 in
theorem merge_ex {w : World} {g g1 g2 : Nat} (h : w.heap[g]? = some (.cells #[.slice (some ⟨g1, 0, none⟩) 2 2, .slice (some ⟨g2, 0, none⟩) 2 2] 29 (0, 0)))
    (h1 : w.heap[g1]? = some (.cells ((vv 1).cells ++ (vv 4).cells).toArray 59 (0, 0))) (h2 : w.heap[g2]? = some (.cells ((vv 2).cells ++ (vv 3).cells).toArray 59 (0, 0))) :
    Calls Try.prog 14 #[.slice (some ⟨g, 0, none⟩) 2 2] w (MexPost w) := by
  have hm := merge_any ⟨some ⟨g, 0, none⟩, 2, [⟨some ⟨g1, 0, none⟩, 2, [vv 1, vv 4]⟩, ⟨some ⟨g2, 0, none⟩, 2, [vv 2, vv 3]⟩]⟩ [vv 1, vv 4, vv 2, vv 3] rfl w
    (lit_inv (Kd.slice kVer) [⟨some ⟨g1, 0, none⟩, 2, [vv 1, vv 4]⟩, ⟨some ⟨g2, 0, none⟩, 2, [vv 2, vv 3]⟩] h rfl (fun x hx => by
      simp at hx
      rcases hx with rfl | rfl
      · exact lit2 _ _ h1
      · exact lit2 _ _ h2) (show (2 : Nat) ≤ 9223372036854775807 by decide))
    (fun x hx v hv => by
      simp at hx
      rcases hx with rfl | rfl <;> simp at hv <;> rcases hv with rfl | rfl <;> exact fits_vv _)
    (by decide) (fun xs base g c w1 hv hb => stable_small _ xs base g c w1 hv hb (by decide))
  refine hm.mono ?_
  rintro e w' ⟨out, er, rfl, hi, hr, hb⟩
  obtain ⟨ho, rfl⟩ := mres_ex hr
  exact ⟨out, rfl, hi, ho, hb⟩
theorem same_ex {w : World} {g : Nat} (out : Sl Ver) (hi : kVer.Inv w out) (ho : pv out.xs = pv [vv 1, vv 2, vv 3, vv 4]) (h : w.heap[g]? = some (.cells ((vv 1).cells ++ ((vv 2).cells ++ ((vv 3).cells ++ (vv 4).cells))).toArray 59 (0, 0))) :
    Ans Try.prog 16 #[.slice out.A out.xs.length out.cap, .slice (some ⟨g, 0, none⟩) 4 4] w (.bool true) :=
  sameVersions_any out ⟨some ⟨g, 0, none⟩, 4, [vv 1, vv 2, vv 3, vv 4]⟩ w hi (lit4 h) ho
theorem small1 : Small [5, 1, 1, 2] := ⟨by decide, by decide⟩
theorem small2 : Small [9, 4, 1] := ⟨by decide, by decide⟩
theorem small3 : Small [3, 3] := ⟨by decide, by decide⟩
theorem version_lit (id : Int) (w : World) :
    Ans Try.prog 29 #[.int .i64 id] w (.agg #[.int .i64 id, .int .i64 0, .slice none 0 0, .int .i64 0, .int .i64 1, .int .i64 0, .int .i64 1, .int .i64 1, .int .i64 2]) := version_any id w
set_option maxRecDepth 100000 in
set_option maxHeartbeats 2000000 in
theorem works_any (w : World) : Ans Try.prog 9 #[] w (.bool true) := by
  unfold Ans
  go_enter Try.func9, Try.ntmps9
  have HB := BW.refl w
  go_wp2_with fail
  refine Calls.mono (choose_lit [5, 1, 1, 2] 1 4 4 1 4 #[.int .i64 5, .int .i64 1, .int .i64 1, .int .i64 2] w1 small1 rfl rfl rfl rfl (heap_alloc_new _ _)) ?_
  rintro e u1 ⟨rfl, hb1⟩
  replace HB := BW.next hb1
  clear hb1
  go_wp2_with fail
  refine Calls.mono (choose_lit [9, 4, 1] 0 0 3 0 0 #[.int .i64 9, .int .i64 4, .int .i64 1] w2 small2 rfl rfl rfl rfl (heap_alloc_new _ _)) ?_
  rintro e u2 ⟨rfl, hb2⟩
  replace HB := BW.next hb2
  clear hb2
  go_wp2_with fail
  refine Calls.mono (choose_lit [3, 3] 0 2 2 0 2 #[.int .i64 3, .int .i64 3] w3 small3 rfl rfl rfl rfl (heap_alloc_new _ _)) ?_
  rintro e u3 ⟨rfl, hb3⟩
  replace HB := BW.next hb3
  clear hb3
  go_wp2_with fail
  refine (version_lit 1 _).mono ?_
  rintro e v1 ⟨rfl, b1⟩
  replace HB := BW.next b1
  clear b1
  go_wp2_with fail
  refine (version_lit 4 _).mono ?_
  rintro e v2 ⟨rfl, b2⟩
  replace HB := BW.next b2
  clear b2
  go_wp2_with fail
  refine (version_lit 2 _).mono ?_
  rintro e v3 ⟨rfl, b3⟩
  replace HB := BW.next b3
  have H1 := (b3.block _ szlt).trans (heap_alloc_new v2 _)
  clear b3
  go_wp2_with fail
  refine (version_lit 3 _).mono ?_
  rintro e v4 ⟨rfl, b4⟩
  replace HB := BW.next b4
  have H2 := (b4.block _ (Array.getElem?_eq_some_iff.1 H1).1).trans H1
  clear b4 H1
  go_wp2_with fail
  have hk : v2.heap.size < v4.heap.size := (Array.getElem?_eq_some_iff.1 H2).1
  refine Calls.mono (merge_ex (g1 := v2.heap.size) (g2 := v4.heap.size) ?_ ?_ ?_) ?_
  · exact heap_alloc2_new v4 _ _
  · exact (Below.heap_alloc _ _ _ (by simp; omega)).trans ((Below.heap_alloc _ _ _ hk).trans H2)
  · exact (Below.heap_alloc _ _ _ (by simp)).trans (heap_alloc_new v4 _)
  rintro e v5 ⟨out, rfl, hi, ho, b5⟩
  have HO := Lib.hid ho
  have HI := Lib.hid hi
  replace HB := BW.next b5
  clear b5 H2 hi ho hk
  have HC := BW.refl v5
  go_wp2_with fail
  refine (version_lit 1 _).mono ?_
  rintro e v6 ⟨rfl, b6⟩
  replace HC := BW.next b6
  clear b6
  go_wp2_with fail
  refine (version_lit 2 _).mono ?_
  rintro e v7 ⟨rfl, b7⟩
  replace HC := BW.next b7
  clear b7
  go_wp2_with fail
  refine (version_lit 3 _).mono ?_
  rintro e v8 ⟨rfl, b8⟩
  replace HC := BW.next b8
  clear b8
  go_wp2_with fail
  refine (version_lit 4 _).mono ?_
  rintro e v9 ⟨rfl, b9⟩
  replace HC := BW.next b9
  clear b9
  go_wp2_with fail
  refine Calls.mono (same_ex (g := v9.heap.size) out ?_ HO.out ?_) ?_
  · exact HI.out.below (HC.alloc _).out
  · exact heap_alloc_new v9 _
  rintro e v10 ⟨rfl, b10⟩
  replace HC := BW.next b10
  go_wp2_with fail
  go_ret
  exact ⟨rfl, (HB.trans HC).out⟩
end Go.Proofs.Ytndlhmnablefpaa

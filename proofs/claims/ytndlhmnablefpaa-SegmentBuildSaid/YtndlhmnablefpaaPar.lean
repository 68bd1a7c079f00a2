/- segment.parse: the first body, read. -/
import Derived.Test.YtndlhmnablefpaaSegM
import Derived.Test.YtndlhmnablefpaaSrcP
import Derived.Test.YtndlhmnablefpaaDecT
import Derived.Test.YtndlhmnablefpaaDecP
import Derived.Test.YtndlhmnablefpaaElem
namespace Go.Proofs.Ytndlhmnablefpaa
open Go.RowKit
set_option linter.unusedSimpArgs false
set_option linter.unusedVariables false
/-- The table and the number of blocks, or the error. -/
def ParV (r : Except Int (List UInt8 × Nat)) : Value := match r with
  | .error e => .tuple #[.string ⟨#[]⟩, .int .i64 0, .int .i64 e]
  | .ok (t, n) => .tuple #[.string ⟨t.toArray⟩, .int .i64 n, .int .i64 0]
theorem ParV.err {r : Except Int (List UInt8 × Nat)} {e : Int} (h : r = .error e) : ParV r = .tuple #[.string ⟨#[]⟩, .int .i64 0, .int .i64 e] := by rw [h]; rfl
/-- What is left of the first body: r pairs of periods. -/
def restP (b t : List UInt8) (M r q : Nat) : Except Int (List UInt8 × Nat) := match dPers b r q with
  | .error e => .error e
  | .ok k => if k < b.length then .error 3 else .ok (t, M)
/-- .. and a period ahead. -/
def restQ (b t : List UInt8) (M r q : Nat) : Except Int (List UInt8 × Nat) := match dPer b q with
  | .error e => .error e
  | .ok (_, k) => restP b t M r k
def rest2 (b t : List UInt8) (q : Nat) : Except Int (List UInt8 × Nat) := match dInt b q with
  | .error e => .error e
  | .ok (m, k) => if m < 0 then .error 1 else restP b t m.toNat m.toNat k
def rest1 (b t : List UInt8) (q : Nat) : Except Int (List UInt8 × Nat) := match dInt b q with
  | .error e => .error e
  | .ok (n, k) => if n < 0 then .error 1 else rest2 b t k
theorem dHead_rest {b t : List UInt8} {p : Nat} (h : dText b 0 200 = .ok (t, p)) : dHead b = rest1 b t p := by
  unfold dHead rest1
  rw [h]
  simp only
  cases dInt b p with
  | error e => rfl
  | ok x =>
    obtain ⟨n, k⟩ := x
    simp only
    split
    · rfl
    unfold rest2
    cases dInt b k with
    | error e => rfl
    | ok y =>
      obtain ⟨m, k'⟩ := y
      simp only
      split
      · rfl
      unfold restP
      cases dPers b m.toNat k' with
      | error e => rfl
      | ok q => rfl
theorem restP_next (b t : List UInt8) (M r q : Nat) : restP b t M (r + 1) q = match dPer b q with
    | .error e => .error e
    | .ok (_, k) => restQ b t M r k := by
  unfold restQ restP
  rw [dPers]
  cases dPer b q with
  | error e => rfl
  | ok x =>
    obtain ⟨v, k⟩ := x
    simp only
    cases dPer b k with
    | error e => rfl
    | ok y => rfl
/-- Two numbers in block g. -/
def Two (w : World) (g : Nat) (a b : Int) : Prop := w.heap[g]? = some (.cells #[.int .i64 a, .int .i64 b] 118 (0, 0))
theorem Two.cells {w : World} {g : Nat} {a b : Int} (h : Two w g a b) : w.cell? ⟨g, 0, none⟩ = some (.int .i64 a) ∧ w.cell? ⟨g, 1, none⟩ = some (.int .i64 b) := by
  refine ⟨?_, ?_⟩ <;> (rw [cell_of_row w g _ _ _ _ h]; rfl)
theorem Two.froz {w : World} {g : Nat} {a b : Int} (h : Two w g a b) (j : Nat) : w.frozen? ⟨g, j, none⟩ = false := by simp [World.frozen?, (show w.heap[g]? = _ from h)]
theorem Two.bw {w w' : World} {g : Nat} {a b : Int} (h : Two w g a b) (hb : BW w w') : Two w' g a b := (hb.out.block g (Array.getElem?_eq_some_iff.1 h).1).trans h
theorem Two.set0 {w : World} {g : Nat} {a b : Int} (h : Two w g a b) (c : Int) : Two (w.setCell ⟨g, 0, none⟩ (.int .i64 c)) g c b := heap_setCell_same w g 0 _ _ (.int .i64 c) h
theorem Two.set1 {w : World} {g : Nat} {a b : Int} (h : Two w g a b) (c : Int) : Two (w.setCell ⟨g, 1, none⟩ (.int .i64 c)) g a c := heap_setCell_same w g 1 _ _ (.int .i64 c) h
set_option maxRecDepth 100000 in
set_option maxHeartbeats 2000000 in
theorem parse_any (s : Sl UInt8) (w : World) (h : kByte.Inv w s) (hl : s.xs.length ≤ 9223372036854775000) :
    Ans Try.prog 54 #[.slice s.A s.xs.length s.cap] w (ParV (dHead s.xs)) := by
  unfold Ans
  have HI := Lib.hid h
  clear h
  have HB := BW.refl w
  go_enter Try.func54, Try.ntmps54
  cases hT : dText s.xs 0 200 with
  | error er =>
    have HT := Lib.hid hT
    have HX : Hid (ParV (dHead s.xs) = .tuple #[.string ⟨#[]⟩, .int .i64 0, .int .i64 er]) := by show _ = _; refine ParV.err ?_; unfold dHead; rw [hT]
    have hne : er ≠ 0 := by have := dText_err hT; omega
    clear hT
    go_wp2_with fail
    refine Calls.mono (cText_any s 0 200 w HI.out (by decide)) ?_
    rintro e1 w1 ⟨rfl, b1⟩
    rw [rdV_err HT.out]
    replace HB := HB.trans ⟨b1⟩
    go_wp2_with fail
    go_ret3
    exact ⟨by rw [HX.out]; rfl, HB.out⟩
  | ok r =>
    obtain ⟨t, p⟩ := r
    have HT := Lib.hid hT
    have HX := Lib.hid (dHead_rest hT)
    have hp := (dText_ok hT).2.1
    clear hT
    go_wp2_with fail
    refine Calls.mono (cText_any s 0 200 w HI.out (by decide)) ?_
    rintro e1 w1 ⟨rfl, b1⟩
    rw [rdV_ok HT.out]
    replace HB := HB.trans ⟨b1⟩
    simp only [vText]
    go_wp2_with fail
    have H20 : Hid (Two (w1.alloc (.cells #[.int .i64 0, .int .i64 0] 118)) w1.heap.size 0 0) := heap_alloc_new w1 _
    have HB2 : Hid (BW w (w1.alloc (.cells #[.int .i64 0, .int .i64 0] 118))) := HB.alloc _
    have hg : w.heap.size ≤ w1.heap.size := HB.out.size
    generalize hW : w1.alloc _ = W at H20 HB2 ⊢
    clear hW HB b1
    generalize w1.heap.size = g at H20 hg ⊢
    go_loopw [6, 7, 9, 21] (fun q _ _ i wr => ∃ (p' : Nat) (a b : Int), q = .int .i64 (p' : Int) ∧ p' ≤ s.xs.length ∧ Hid (Two wr g a b) ∧ BW w wr ∧ ((i = .int .i64 0 ∧ Hid (dHead s.xs = rest1 s.xs t p')) ∨ (i = .int .i64 1 ∧ Hid (dHead s.xs = rest2 s.xs t p')) ∨ (i = .int .i64 2 ∧ 0 ≤ b ∧ b ≤ 9223372036854775807 ∧ Hid (dHead s.xs = restP s.xs t b.toNat b.toNat p')))) (fun _ _ _ i _ => 2 - (intOf i).toNat)
    case atStart => exact ⟨p, 0, 0, rfl, hp, H20, HB2.out, .inl ⟨rfl, HX⟩⟩
    case round =>
      clear H20 HB2 HX hp
      obtain ⟨p', a, b, rfl, hp', H2, HB, ⟨rfl, HX⟩ | ⟨rfl, HX⟩ | ⟨rfl, hb0, hb1, HX⟩⟩ := hrel
      · cases hI : dInt s.xs p' with
        | error er =>
          have hne : er ≠ 0 := by have := dInt_err hI; omega
          have HR : Hid (ParV (dHead s.xs) = .tuple #[.string ⟨#[]⟩, .int .i64 0, .int .i64 er]) := by show _ = _; refine ParV.err ?_; rw [HX.out]; unfold rest1; rw [hI]
          have HE := Lib.hid hI
          clear hI
          go_wp2_with fail
          refine Calls.mono (cInt_any s p' _ (HI.out.below HB.out) (by omega)) ?_
          rintro e2 w2 ⟨rfl, b2⟩
          rw [rdV_err HE.out]
          simp only [vInt]
          have HS := Lib.hid (H2.out.bw ⟨b2⟩)
          obtain ⟨d0, d1⟩ := HS.out.cells
          have hf := HS.out.froz
          have HB3 := HB.trans ⟨b2⟩
          go_wp2_with fail
          go_ret3
          exact ⟨by rw [HR.out]; rfl, (HB3.setCell (by exact hg) _).out⟩
        | ok x =>
          obtain ⟨n, k⟩ := x
          have HE := Lib.hid hI
          obtain ⟨⟨hI64l, hI64⟩, _, hk⟩ := dInt_ok hI
          clear hI
          by_cases hn : n < 0
          · have HR : Hid (ParV (dHead s.xs) = .tuple #[.string ⟨#[]⟩, .int .i64 0, .int .i64 1]) := by show _ = _; refine ParV.err ?_; rw [HX.out]; unfold rest1; rw [HE.out]; simp only; rw [if_pos hn]
            go_wp2_with fail
            refine Calls.mono (cInt_any s p' _ (HI.out.below HB.out) (by omega)) ?_
            rintro e2 w2 ⟨rfl, b2⟩
            rw [rdV_ok HE.out]
            simp only [vInt]
            have HS := Lib.hid (H2.out.bw ⟨b2⟩)
            obtain ⟨d0, d1⟩ := HS.out.cells
            have hf := HS.out.froz
            have HB3 := HB.trans ⟨b2⟩
            go_wp2_with fail
            go_ret3
            exact ⟨by rw [HR.out]; rfl, (HB3.setCell (by exact hg) _).out⟩
          · have HN : Hid (dHead s.xs = rest2 s.xs t k) := by show _ = _; rw [HX.out]; unfold rest1; rw [HE.out]; simp only; rw [if_neg hn]
            go_wp2_with fail
            refine Calls.mono (cInt_any s p' _ (HI.out.below HB.out) (by omega)) ?_
            rintro e2 w2 ⟨rfl, b2⟩
            rw [rdV_ok HE.out]
            simp only [vInt]
            have HS := Lib.hid (H2.out.bw ⟨b2⟩)
            obtain ⟨d0, d1⟩ := HS.out.cells
            have hf := HS.out.froz
            have HB3 := HB.trans ⟨b2⟩
            go_wp2_with fail
            go_roundw
            case rel => exact ⟨k, n, b, rfl, hk, HS.out.set0 n, HB3.setCell (by exact hg) _, .inr (.inl ⟨by go_num, HN⟩)⟩
            case measure => simp [intOf]
      · cases hI : dInt s.xs p' with
        | error er =>
          have hne : er ≠ 0 := by have := dInt_err hI; omega
          have HR : Hid (ParV (dHead s.xs) = .tuple #[.string ⟨#[]⟩, .int .i64 0, .int .i64 er]) := by show _ = _; refine ParV.err ?_; rw [HX.out]; unfold rest2; rw [hI]
          have HE := Lib.hid hI
          clear hI
          go_wp2_with fail
          refine Calls.mono (cInt_any s p' _ (HI.out.below HB.out) (by omega)) ?_
          rintro e2 w2 ⟨rfl, b2⟩
          rw [rdV_err HE.out]
          simp only [vInt]
          have HS := Lib.hid (H2.out.bw ⟨b2⟩)
          obtain ⟨d0, d1⟩ := HS.out.cells
          have hf := HS.out.froz
          have HB3 := HB.trans ⟨b2⟩
          go_wp2_with fail
          go_ret3
          exact ⟨by rw [HR.out]; rfl, (HB3.setCell (by exact hg) _).out⟩
        | ok x =>
          obtain ⟨n, k⟩ := x
          have HE := Lib.hid hI
          obtain ⟨⟨hI64l, hI64⟩, _, hk⟩ := dInt_ok hI
          clear hI
          by_cases hn : n < 0
          · have HR : Hid (ParV (dHead s.xs) = .tuple #[.string ⟨#[]⟩, .int .i64 0, .int .i64 1]) := by show _ = _; refine ParV.err ?_; rw [HX.out]; unfold rest2; rw [HE.out]; simp only; rw [if_pos hn]
            go_wp2_with fail
            refine Calls.mono (cInt_any s p' _ (HI.out.below HB.out) (by omega)) ?_
            rintro e2 w2 ⟨rfl, b2⟩
            rw [rdV_ok HE.out]
            simp only [vInt]
            have HS := Lib.hid (H2.out.bw ⟨b2⟩)
            obtain ⟨d0, d1⟩ := HS.out.cells
            have hf := HS.out.froz
            have HB3 := HB.trans ⟨b2⟩
            go_wp2_with fail
            go_ret3
            exact ⟨by rw [HR.out]; rfl, (HB3.setCell (by exact hg) _).out⟩
          · have HN : Hid (dHead s.xs = restP s.xs t n.toNat n.toNat k) := by show _ = _; rw [HX.out]; unfold rest2; rw [HE.out]; simp only; rw [if_neg hn]
            go_wp2_with fail
            refine Calls.mono (cInt_any s p' _ (HI.out.below HB.out) (by omega)) ?_
            rintro e2 w2 ⟨rfl, b2⟩
            rw [rdV_ok HE.out]
            simp only [vInt]
            have HS := Lib.hid (H2.out.bw ⟨b2⟩)
            obtain ⟨d0, d1⟩ := HS.out.cells
            have hf := HS.out.froz
            have HB3 := HB.trans ⟨b2⟩
            go_wp2_with fail
            go_roundw
            case rel => exact ⟨k, a, n, rfl, hk, HS.out.set1 n, HB3.setCell (by exact hg) _, .inr (.inr ⟨by go_num, by omega, hI64, HN⟩)⟩
            case measure => simp [intOf]
      · obtain ⟨d0, d1⟩ := H2.out.cells
        obtain ⟨M, rfl⟩ : ∃ M : Nat, b = (M : Int) := ⟨b.toNat, by omega⟩
        rw [Int.toNat_natCast] at HX
        go_wp2_with fail
        clear d0 d1 hb0
        go_loopw [6, 7, 11, 48] (fun q _ i _ wq => ∃ (k r q' : Nat), k + r = M ∧ i = .int .i64 (k : Int) ∧ q = .int .i64 (q' : Int) ∧ q' ≤ s.xs.length ∧ Hid (dHead s.xs = restP s.xs t M r q') ∧ BW w wq) (fun _ _ i _ _ => M - (intOf i).toNat)
        case atStart => exact ⟨0, M, p', Nat.zero_add _, rfl, rfl, hp', HX, HB⟩
        case round =>
          clear HX HB H2 hp'
          obtain ⟨k, r, q', hkr, rfl, rfl, hq', HX, HB⟩ := hrel
          cases r with
          | zero =>
            have hkM : ¬ (k : Int) < (M : Int) := by omega
            by_cases hql : q' < s.xs.length
            · have hql' : (q' : Int) < (s.xs.length : Int) := by omega
              have HR : Hid (ParV (dHead s.xs) = .tuple #[.string ⟨#[]⟩, .int .i64 0, .int .i64 3]) := by show _ = _; refine ParV.err ?_; rw [HX.out]; unfold restP; rw [dPers]; simp only; rw [if_pos hql]
              go_wp2_with fail
              go_ret3
              exact ⟨by rw [HR.out]; rfl, HB.out⟩
            · have hql' : ¬ (q' : Int) < (s.xs.length : Int) := by omega
              have HR : Hid (ParV (dHead s.xs) = .tuple #[.string ⟨t.toArray⟩, .int .i64 M, .int .i64 0]) := by show _ = _; rw [HX.out]; unfold restP; rw [dPers]; simp only; rw [if_neg hql]; rfl
              go_wp2_with fail
              go_ret3
              exact ⟨by rw [HR.out]; rfl, HB.out⟩
          | succ r =>
          have hkM : (k : Int) < (M : Int) := by omega
          go_wp2_with fail
          go_loopw [6, 7, 48] (fun q _ j wq => ∃ q' : Nat, q = .int .i64 (q' : Int) ∧ q' ≤ s.xs.length ∧ BW w wq ∧ ((j = .int .i64 0 ∧ Hid (dHead s.xs = restP s.xs t M (r + 1) q')) ∨ (j = .int .i64 1 ∧ Hid (dHead s.xs = restQ s.xs t M r q')) ∨ (j = .int .i64 2 ∧ Hid (dHead s.xs = restP s.xs t M r q')))) (fun _ _ j _ => 2 - (intOf j).toNat)
          case atStart => exact ⟨q', rfl, hq', HB, .inl ⟨rfl, HX⟩⟩
          case round =>
            clear HX HB hq'
            obtain ⟨q', rfl, hq', HB, ⟨rfl, HX⟩ | ⟨rfl, HX⟩ | ⟨rfl, HX⟩⟩ := hrel
            · cases hI : dPer s.xs q' with
              | error er =>
                have hne : er ≠ 0 := by have := dPer_err hI; omega
                have HR : Hid (ParV (dHead s.xs) = .tuple #[.string ⟨#[]⟩, .int .i64 0, .int .i64 er]) := by show _ = _; refine ParV.err ?_; rw [HX.out]; rw [restP_next, hI]
                have HE := Lib.hid hI
                clear hI
                go_wp2_with fail
                refine Calls.mono (cPeriod_any s q' _ (HI.out.below HB.out) (by omega)) ?_
                rintro e2 w2 ⟨rfl, b2⟩
                rw [rdV_err HE.out]
                simp only [vPer]
                replace HB := HB.trans ⟨b2⟩
                go_wp2_with fail
                go_ret3
                exact ⟨by rw [HR.out]; rfl, HB.out⟩
              | ok x =>
                obtain ⟨v, k1⟩ := x
                have HE := Lib.hid hI
                have hk1 := (dPer_ok hI).2.1
                clear hI
                have HN : Hid (dHead s.xs = restQ s.xs t M r k1) := by show _ = _; rw [HX.out, restP_next, HE.out]
                go_wp2_with fail
                refine Calls.mono (cPeriod_any s q' _ (HI.out.below HB.out) (by omega)) ?_
                rintro e2 w2 ⟨rfl, b2⟩
                rw [rdV_ok HE.out]
                simp only [vPer]
                replace HB := HB.trans ⟨b2⟩
                go_wp2_with fail
                go_roundw
                case rel => exact ⟨k1, rfl, hk1, HB, .inr (.inl ⟨by go_num, HN⟩)⟩
                case measure => simp [intOf]
            · cases hI : dPer s.xs q' with
              | error er =>
                have hne : er ≠ 0 := by have := dPer_err hI; omega
                have HR : Hid (ParV (dHead s.xs) = .tuple #[.string ⟨#[]⟩, .int .i64 0, .int .i64 er]) := by show _ = _; refine ParV.err ?_; rw [HX.out]; unfold restQ; rw [hI]
                have HE := Lib.hid hI
                clear hI
                go_wp2_with fail
                refine Calls.mono (cPeriod_any s q' _ (HI.out.below HB.out) (by omega)) ?_
                rintro e2 w2 ⟨rfl, b2⟩
                rw [rdV_err HE.out]
                simp only [vPer]
                replace HB := HB.trans ⟨b2⟩
                go_wp2_with fail
                go_ret3
                exact ⟨by rw [HR.out]; rfl, HB.out⟩
              | ok x =>
                obtain ⟨v, k1⟩ := x
                have HE := Lib.hid hI
                have hk1 := (dPer_ok hI).2.1
                clear hI
                have HN : Hid (dHead s.xs = restP s.xs t M r k1) := by show _ = _; rw [HX.out]; unfold restQ; rw [HE.out]
                go_wp2_with fail
                refine Calls.mono (cPeriod_any s q' _ (HI.out.below HB.out) (by omega)) ?_
                rintro e2 w2 ⟨rfl, b2⟩
                rw [rdV_ok HE.out]
                simp only [vPer]
                replace HB := HB.trans ⟨b2⟩
                go_wp2_with fail
                go_roundw
                case rel => exact ⟨k1, rfl, hk1, HB, .inr (.inr ⟨by go_num, HN⟩)⟩
                case measure => simp [intOf]
            · go_wp2_with fail
              go_roundw
              case rel => exact ⟨k + 1, r, q', by omega, by go_num, rfl, hq', HX, HB⟩
              case measure => simp [intOf]; omega
end Go.Proofs.Ytndlhmnablefpaa

/- What codec's Value answers. -/
import Derived.Test.YtndlhmnablefpaaSrcP
namespace Go.Proofs.Ytndlhmnablefpaa
open Go.RowKit
set_option linter.unusedSimpArgs false
set_option linter.unusedVariables false
def vVal (v : Vl) : Value := .agg v.cells.toArray
def zVal : Value := .agg #[.int .i64 0, .int .i64 0, .string ⟨#[]⟩]
theorem cInt_int (s : Sl UInt8) (p : Nat) {q : Int} (hq : q = (p : Int)) {A : Option Addr} (hA : s.A = A) (w : World) (h : kByte.Inv w s) (hp : p ≤ 9223372036854775807) :
    Ans Try.prog 86 #[.slice A s.xs.length s.cap, .int .i64 q] w (rdV vInt (vInt 0) (dInt s.xs p)) := by
  subst hq hA; exact cInt_any s p w h hp
theorem cText_int (s : Sl UInt8) (p : Nat) {q : Int} (hq : q = (p : Int)) {A : Option Addr} (hA : s.A = A) (most : Int) (w : World) (h : kByte.Inv w s) (hp : p ≤ 9223372036854775807) :
    Ans Try.prog 85 #[.slice A s.xs.length s.cap, .int .i64 q, .int .i64 most] w (rdV vText (.string ⟨#[]⟩) (dText s.xs p most)) := by
  subst hq hA; exact cText_any s p most w h hp
/-- The result's box, behind a call. -/
theorem zbox {w w1 : World} (h : Below (w.heap.size + 1) (w.alloc (.cells #[.int .i64 0, .int .i64 0, .string ⟨#[]⟩] 67)) w1) : w1.cell? ⟨w.heap.size, 0, none⟩ = some (.int .i64 0) ∧ w1.cell? ⟨w.heap.size, 1, none⟩ = some (.int .i64 0) ∧ w1.cell? ⟨w.heap.size, 2, none⟩ = some (.string ⟨#[]⟩) ∧ w1.frozen? ⟨w.heap.size, 0, none⟩ = false ∧ w1.frozen? ⟨w.heap.size, 1, none⟩ = false ∧ w1.frozen? ⟨w.heap.size, 2, none⟩ = false ∧ w.heap.size < w1.heap.size := by
  have hg := (h.block w.heap.size (by omega)).trans (heap_alloc_new w (.cells #[.int .i64 0, .int .i64 0, .string ⟨#[]⟩] 67))
  have hs := h.size
  simp at hs
  refine ⟨?_, ?_, ?_, ?_, ?_, ?_, by omega⟩
  · rw [cell_of_row w1 _ 0 _ _ _ hg]; rfl
  · rw [cell_of_row w1 _ 1 _ _ _ hg]; rfl
  · rw [cell_of_row w1 _ 2 _ _ _ hg]; rfl
  all_goals simp [World.frozen?, hg]
theorem okVal_text (t : List UInt8) (h : t.length ≤ 200) : okVal ⟨2, 0, ⟨t.toArray⟩⟩ = printable t := by
  unfold okVal
  simp [ByteArray.size]
  intro _
  exact h
theorem bw3 {w w1 : World} (h : BW w w1 := by (repeat (first | assumption | exact BW.refl _ | apply BW.alloc | apply BW.drewN | apply BW.drew | refine BW.setCell ?_ (by first | (simp; done) | (simp; omega)) _))) : Below w.heap.size w w1 := h.out
set_option maxRecDepth 100000 in
set_option maxHeartbeats 2000000 in
theorem cValue_any (s : Sl UInt8) (p : Nat) (w : World) (h : kByte.Inv w s) (hp : p ≤ 9223372036854775806) :
    Ans Try.prog 125 #[.slice s.A s.xs.length s.cap, .int .i64 (p : Int)] w (rdV vVal zVal (dVal s.xs p)) := by
  unfold Ans
  have HI := Lib.hid h
  have hle := h.le
  have hmx : s.cap ≤ 9223372036854775807 := h.mx
  have hp0 : 0 ≤ (p : Int) := by omega
  clear h
  by_cases hpl : s.xs.length < p
  · have hpl' : (s.xs.length : Int) < (p : Int) := by omega
    have HX : Hid (dVal s.xs p = .error 6) := by show _ = _; unfold dVal; rw [if_pos hpl]
    go_enter Try.func125, Try.ntmps125
    go_wp2_with fail
    exact bodyPost_ret (v := .tuple #[zVal, .int .i64 0, .int .i64 6]) (by simp [results, Try.results125, go_sem, zVal]) rfl ⟨by rw [rdV_err HX.out], bw3⟩
  by_cases hpe : p = s.xs.length
  · have HX : Hid (dVal s.xs s.xs.length = .error 2) := by
      show _ = _
      unfold dVal
      rw [if_neg (by omega), List.getElem?_eq_none (by omega)]
    subst hpe
    have hpl' : ¬ (s.xs.length : Int) < (s.xs.length : Int) := by omega
    go_enter Try.func125, Try.ntmps125
    go_wp2_with fail
    exact bodyPost_ret (v := .tuple #[zVal, .int .i64 0, .int .i64 2]) (by simp [results, Try.results125, go_sem, zVal]) rfl ⟨by rw [rdV_err HX.out], bw3⟩
  have hlt : p < s.xs.length := by omega
  have hpl' : ¬ (s.xs.length : Int) < (p : Int) := by omega
  have hpn : ¬ (p : Int) = (s.xs.length : Int) := by omega
  have hplt : (p : Int) < (s.xs.length : Int) := by omega
  obtain ⟨b, o, hA, _, c0⟩ := byte_at HI.out p hlt
  have HA := Lib.hid hA
  rw [hA]
  clear hA
  obtain ⟨c, hc⟩ : ∃ c, c = s.xs[p] := ⟨_, rfl⟩
  rw [← hc] at c0
  have HD : Hid (dVal s.xs p = if c.toNat = 0 then .ok (⟨0, 0, noText⟩, p + 1)
      else if c.toNat = 1 then match dInt s.xs (p + 1) with
        | .error e => .error e
        | .ok (n, k) => if n < -1125899906842624 ∨ 1125899906842624 < n then .error 6 else .ok (⟨1, n, noText⟩, k)
      else if c.toNat = 2 then match dText s.xs (p + 1) 200 with
        | .error e => .error e
        | .ok (s, k) => if printable s = true then .ok (⟨2, 0, ⟨s.toArray⟩⟩, k) else .error 1
      else if c.toNat = 3 ∨ c.toNat = 4 then .ok (⟨3, (c.toNat : Int) - 3, noText⟩, p + 1)
      else .error 1) := by
    show _ = _
    unfold dVal
    rw [if_neg hpl, List.getElem?_eq_getElem hlt, ← hc]
    rfl
  have hx1 : IntKind.i64.wrap ((p : Int) + 1) = (p : Int) + 1 := IntWalk.i64_in _ (by omega)
  have HE : Hid ((p : Int) + 1 = ((p + 1 : Nat) : Int)) := by show _ = _; omega
  clear hc hpl hpe
  by_cases h0 : c.toNat = 0
  · have HX : Hid (dVal s.xs p = .ok (⟨0, 0, noText⟩, p + 1)) := by show _ = _; rw [HD.out, if_pos h0]
    have hi0 : ((c.toNat : Int) == 0) = true := by simp [h0]
    go_enter Try.func125, Try.ntmps125
    go_wp2_with fail
    exact bodyPost_ret (v := .tuple #[zVal, .int .i64 ((p : Int) + 1), .int .i64 0]) (by simp [results, Try.results125, go_sem, zVal]) rfl ⟨by rw [rdV_ok HX.out, ← HE.out]; rfl, bw3⟩
  have hi0 : ((c.toNat : Int) == 0) = false := beq_eq_false_iff_ne.2 (by omega)
  by_cases h1 : c.toNat = 1
  · have hi1 : ((c.toNat : Int) == 1) = true := by simp [h1]
    have H0 := Lib.hid h0
    have H1 := Lib.hid h1
    clear h0 h1
    go_enter Try.func125, Try.ntmps125
    have HB := BW.refl w
    go_wp2_with fail
    cases hd : dInt s.xs (p + 1) with
    | error e =>
      have hde := dInt_err hd
      have HDI := Lib.hid hd
      have HX : Hid (dVal s.xs p = .error e) := by show _ = _; rw [HD.out, if_neg H0.out, if_pos H1.out, hd]
      have he0 : ¬ e = 0 := by omega
      clear hd hde
      refine Calls.mono (cInt_int s (p + 1) HE.out HA.out _ (HI.out.below (by exact BW.fin)) (by omega)) ?_
      rintro e1 w1 ⟨rfl, b1⟩
      rw [rdV_err HDI.out]
      obtain ⟨z0, z1, z2, f0, f1, f2, hz⟩ := zbox (w := w) (by have := b1; simpa using this)
      replace HB := BW.next b1
      clear b1
      go_wp2_with fail
      exact bodyPost_ret (v := .tuple #[zVal, .int .i64 0, .int .i64 e]) (by simp [results, Try.results125, go_sem, zVal, z0, z1, z2, hz]) rfl ⟨by rw [rdV_err HX.out], bw3⟩
    | ok r =>
      obtain ⟨n, k⟩ := r
      have HDI := Lib.hid hd
      have HX : Hid (dVal s.xs p = if n < -1125899906842624 ∨ 1125899906842624 < n then .error 6 else .ok (⟨1, n, noText⟩, k)) := by show _ = _; rw [HD.out, if_neg H0.out, if_pos H1.out, hd]
      clear hd
      refine Calls.mono (cInt_int s (p + 1) HE.out HA.out _ (HI.out.below (by exact BW.fin)) (by omega)) ?_
      rintro e1 w1 ⟨rfl, b1⟩
      rw [rdV_ok HDI.out]
      unfold vInt
      obtain ⟨z0, z1, z2, f0, f1, f2, hz⟩ := zbox (w := w) (by have := b1; simpa using this)
      replace HB := BW.next b1
      clear b1
      by_cases hr : n < -1125899906842624 ∨ 1125899906842624 < n
      · have HX6 : Hid (dVal s.xs p = .error 6) := by show _ = _; rw [HX.out, if_pos hr]
        go_wp2_with fail
        all_goals exact bodyPost_ret (v := .tuple #[zVal, .int .i64 0, .int .i64 6]) (by simp [results, Try.results125, go_sem, zVal, z0, z1, z2, hz]) rfl ⟨by rw [rdV_err HX6.out], bw3⟩
      · have HX0 : Hid (dVal s.xs p = .ok (⟨1, n, noText⟩, k)) := by show _ = _; rw [HX.out, if_neg hr]
        have hr1 : ¬ n < -1125899906842624 := fun h => hr (.inl h)
        have hr2 : ¬ 1125899906842624 < n := fun h => hr (.inr h)
        clear hr
        go_wp2_with fail
        exact bodyPost_ret (v := .tuple #[.agg #[.int .i64 1, .int .i64 n, .string ⟨#[]⟩], .int .i64 (k : Int), .int .i64 0]) (by simp [results, Try.results125, go_sem, z0, z1, z2, hz]) rfl ⟨by rw [rdV_ok HX0.out]; rfl, bw3⟩
  have hi1 : ((c.toNat : Int) == 1) = false := beq_eq_false_iff_ne.2 (by omega)
  by_cases h2 : c.toNat = 2
  · have hi2 : ((c.toNat : Int) == 2) = true := by simp [h2]
    have H0 := Lib.hid h0
    have H1 := Lib.hid h1
    have H2 := Lib.hid h2
    clear h0 h1 h2
    go_enter Try.func125, Try.ntmps125
    have HB := BW.refl w
    go_wp2_with fail
    cases hd : dText s.xs (p + 1) 200 with
    | error e =>
      have hde := dText_err hd
      have HDI := Lib.hid hd
      have HX : Hid (dVal s.xs p = .error e) := by show _ = _; rw [HD.out, if_neg H0.out, if_neg H1.out, if_pos H2.out, hd]
      have he0 : ¬ e = 0 := by omega
      clear hd hde
      refine Calls.mono (cText_int s (p + 1) HE.out HA.out 200 _ (HI.out.below (by exact BW.fin)) (by omega)) ?_
      rintro e1 w1 ⟨rfl, b1⟩
      rw [rdV_err HDI.out]
      obtain ⟨z0, z1, z2, f0, f1, f2, hz⟩ := zbox (w := w) (by have := b1; simpa using this)
      replace HB := BW.next b1
      clear b1
      go_wp2_with fail
      exact bodyPost_ret (v := .tuple #[zVal, .int .i64 0, .int .i64 e]) (by simp [results, Try.results125, go_sem, zVal, z0, z1, z2, hz]) rfl ⟨by rw [rdV_err HX.out], bw3⟩
    | ok r =>
      obtain ⟨t, k⟩ := r
      have HDI := Lib.hid hd
      have HX : Hid (dVal s.xs p = if printable t = true then .ok (⟨2, 0, ⟨t.toArray⟩⟩, k) else .error 1) := by show _ = _; rw [HD.out, if_neg H0.out, if_neg H1.out, if_pos H2.out, hd]
      have htl : t.length ≤ 200 := by have := (dText_ok hd).2.2; omega
      have HOV := Lib.hid (okVal_text t htl)
      clear hd
      refine Calls.mono (cText_int s (p + 1) HE.out HA.out 200 _ (HI.out.below (by exact BW.fin)) (by omega)) ?_
      rintro e1 w1 ⟨rfl, b1⟩
      rw [rdV_ok HDI.out]
      unfold vText
      have HB1 := Lib.hid b1
      replace HB := BW.next b1
      clear b1
      have hz0 : w.heap.size < w1.heap.size := by have := HB1.out.size; simp at this; omega
      go_wp2_with fail
      refine Calls.mono (valValid_any ⟨2, 0, ⟨t.toArray⟩⟩ _ (by show (ByteArray.mk t.toArray).size ≤ _; simp [ByteArray.size]; omega)) ?_
      rintro e2 w2 ⟨rfl, b2⟩
      rw [HOV.out]
      have HB2 : Hid (Below (w.heap.size + 1) (w.alloc (.cells #[.int .i64 0, .int .i64 0, .string ⟨#[]⟩] 67)) w2) := by
        show Below _ _ _
        have h1 : Below (w.heap.size + 1) (w.alloc (.cells #[.int .i64 0, .int .i64 0, .string ⟨#[]⟩] 67)) w1 := by have := HB1.out; simpa using this
        refine (h1.alloc (by omega) _).trans (b2.mono ?_)
        have := HB1.out.size
        simp at this ⊢
        omega
      have HC2 : Hid (w2.heap[w1.heap.size]? = some (.cells #[.int .i64 2, .int .i64 0, .string ⟨t.toArray⟩] 67 (0, 0))) := (b2.block _ szlt).trans (heap_alloc_new w1 _)
      replace HB := BW.next b2
      clear b2
      obtain ⟨z0, z1, z2, f0, f1, f2, hz⟩ := zbox HB2.out
      have y0 : w2.cell? ⟨w1.heap.size, 0, none⟩ = some (.int .i64 2) := by rw [cell_of_row w2 _ 0 _ _ _ HC2.out]; rfl
      have y1 : w2.cell? ⟨w1.heap.size, 1, none⟩ = some (.int .i64 0) := by rw [cell_of_row w2 _ 1 _ _ _ HC2.out]; rfl
      have y2 : w2.cell? ⟨w1.heap.size, 2, none⟩ = some (.string ⟨t.toArray⟩) := by rw [cell_of_row w2 _ 2 _ _ _ HC2.out]; rfl
      cases hpr : printable t with
      | true =>
        have HX0 : Hid (dVal s.xs p = .ok (⟨2, 0, ⟨t.toArray⟩⟩, k)) := by show _ = _; rw [HX.out, if_pos hpr]
        go_wp2_with fail
        exact bodyPost_ret (v := .tuple #[.agg #[.int .i64 2, .int .i64 0, .string ⟨t.toArray⟩], .int .i64 (k : Int), .int .i64 0]) (by simp [results, Try.results125, go_sem, z0, z1, z2, hz]) rfl ⟨by rw [rdV_ok HX0.out]; rfl, bw3⟩
      | false =>
        have HX1 : Hid (dVal s.xs p = .error 1) := by show _ = _; rw [HX.out, if_neg (by simp [hpr])]
        go_wp2_with fail
        exact bodyPost_ret (v := .tuple #[zVal, .int .i64 0, .int .i64 1]) (by simp [results, Try.results125, go_sem, zVal, z0, z1, z2, hz]) rfl ⟨by rw [rdV_err HX1.out], bw3⟩
  have hi2 : ((c.toNat : Int) == 2) = false := beq_eq_false_iff_ne.2 (by omega)
  by_cases h3 : c.toNat = 3 ∨ c.toNat = 4
  · have HX : Hid (dVal s.xs p = .ok (⟨3, (c.toNat : Int) - 3, noText⟩, p + 1)) := by show _ = _; rw [HD.out, if_neg h0, if_neg h1, if_neg h2, if_pos h3]
    have hc3 : (3 : Int) ≤ (c.toNat : Int) := by omega
    have hc4 : (c.toNat : Int) ≤ 4 := by omega
    have hs3 : IntKind.u8.wrap ((c.toNat : Int) - 3) = (c.toNat : Int) - 3 := IntWalk.u8_in _ (by omega)
    clear h0 h1 h2
    by_cases h33 : c.toNat = 3
    · have hi3 : ((c.toNat : Int) == 3) = true := by simp [h33]
      clear h3 h33
      go_enter Try.func125, Try.ntmps125
      go_wp2_with fail
      exact bodyPost_ret (v := .tuple #[.agg #[.int .i64 3, .int .i64 ((c.toNat : Int) - 3), .string ⟨#[]⟩], .int .i64 ((p : Int) + 1), .int .i64 0]) (by simp [results, Try.results125, go_sem]) rfl ⟨by rw [rdV_ok HX.out, ← HE.out]; rfl, bw3⟩
    · have hi3 : ((c.toNat : Int) == 3) = false := beq_eq_false_iff_ne.2 (by omega)
      have hi4 : ((c.toNat : Int) == 4) = true := by have : c.toNat = 4 := by omega
                                                     simp [this]
      clear h3 h33
      go_enter Try.func125, Try.ntmps125
      go_wp2_with fail
      exact bodyPost_ret (v := .tuple #[.agg #[.int .i64 3, .int .i64 ((c.toNat : Int) - 3), .string ⟨#[]⟩], .int .i64 ((p : Int) + 1), .int .i64 0]) (by simp [results, Try.results125, go_sem]) rfl ⟨by rw [rdV_ok HX.out, ← HE.out]; rfl, bw3⟩
  · have HX : Hid (dVal s.xs p = .error 1) := by show _ = _; rw [HD.out, if_neg h0, if_neg h1, if_neg h2, if_neg h3]
    have hi3 : ((c.toNat : Int) == 3) = false := beq_eq_false_iff_ne.2 (by omega)
    have hi4 : ((c.toNat : Int) == 4) = false := beq_eq_false_iff_ne.2 (by omega)
    clear h0 h1 h2 h3
    go_enter Try.func125, Try.ntmps125
    go_wp2_with fail
    exact bodyPost_ret (v := .tuple #[zVal, .int .i64 0, .int .i64 1]) (by simp [results, Try.results125, go_sem, zVal]) rfl ⟨by rw [rdV_err HX.out], bw3⟩
end Go.Proofs.Ytndlhmnablefpaa

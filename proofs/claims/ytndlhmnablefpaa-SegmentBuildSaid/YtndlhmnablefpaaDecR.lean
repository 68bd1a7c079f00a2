/- What codec's Row answers. -/
import Derived.Test.YtndlhmnablefpaaDecP
import Derived.Test.YtndlhmnablefpaaElem
namespace Go.Proofs.Ytndlhmnablefpaa
open Go.RowKit
set_option linter.unusedSimpArgs false
set_option linter.unusedVariables false
section
variable {P : Program} {ops : Array Oper} {rest : List Oper} {o : Oper} {a : Act} {Q : Exit → Act → World → Prop} {α : Type}
/-- An element is stored, in a list of operations. -/
theorem put_elem (d : Kd α) {e ty : TypeId} {W : World} {base g c : Nat} {xs : List α} (hgd : o.guard = none) (hd : o.dst = none) (h : Row d e W base g c xs) (x y : Operand) (ho : o.op = .store ty x y) (i : Nat) (hx : a.eval x = .pointer (some ⟨g, i * d.sz, none⟩)) (z : α) (hy : a.eval y = .agg (d.cells z).toArray)
    (hi : (P.info? ty).map (·.size) = some d.sz) (hil : i < xs.length) (hz : d.inv W z) (hza : ∀ k, k ∈ d.foot z → k ≠ g)
    (hK : ∀ w1, Row d e w1 base g c (xs.set i z) → Gr W w1 (some g) (some g) → wpList P ops Q rest a w1) : wpList P ops Q (o :: rest) a W :=
  wpList_plain hgd fun _ hK' => wp_store_elem d h x y ho i hx z hy hi hil hz hza fun w1 h1 g1 => hK' _ _ (by rw [hd]; exact hK w1 h1 g1)
end
theorem BW.grow {w W V : World} {g : Nat} {r : Option Nat} (h : BW w W) (hg : Gr W V (some g) r) (hn : w.heap.size ≤ g) : BW w V :=
  ⟨h.out.trans (hg.below h.out.size (fun k hk => by have := Option.some.inj hk; omega))⟩
def zVl : Vl := ⟨0, 0, noText⟩
theorem infoz_vl : InfoZ Try.prog 67 kVl zVl 32 := ⟨.agg #[.int .i64 0, .int .i64 0, .string ⟨#[]⟩], by kernel_rfl, rfl⟩
/-- What codec.Row leaves. -/
def RowPost (w : World) (r : Rd (List Vl)) (e : Ending) (w' : World) : Prop :=
  Below w.heap.size w w' ∧ match r with
  | .error er => e = .returned (.tuple #[.slice none 0 0, .int .i64 0, .int .i64 er])
  | .ok (row, k) => ∃ A c, e = .returned (.tuple #[.slice A row.length c, .int .i64 (k : Int), .int .i64 0]) ∧ kVl.Inv w' ⟨A, c, row⟩ ∧ (∀ a, A = some a → w.heap.size ≤ a.block)
theorem RowPost.err {w w' : World} {r : Rd (List Vl)} {er : Int} (h : r = .error er) (hb : Below w.heap.size w w') : RowPost w r (.returned (.tuple #[.slice none 0 0, .int .i64 0, .int .i64 er])) w' := by
  subst h; exact ⟨hb, rfl⟩
theorem RowPost.ok {w w' : World} {r : Rd (List Vl)} {row : List Vl} {k : Nat} {A : Option Addr} {n c : Nat} (h : r = .ok (row, k)) (hn : n = row.length) (hi : kVl.Inv w' ⟨A, c, row⟩) (ha : ∀ a, A = some a → w.heap.size ≤ a.block) (hb : Below w.heap.size w w') : RowPost w r (.returned (.tuple #[.slice A n c, .int .i64 (k : Int), .int .i64 0])) w' := by
  subst h hn; exact ⟨hb, A, c, rfl, hi, ha⟩
/-- How far the row has been read. -/
structure RowAt (b : List UInt8) (p0 n k p : Nat) (done : List Vl) : Prop where
  len : done.length = k
  kn : k ≤ n
  n12 : n ≤ 12
  run : dRow b p0 = dMany (dVal b) (n - k) p done
  pl : p ≤ b.length
theorem RowAt.err {b : List UInt8} {p0 n k p : Nat} {done : List Vl} {e : Int} (h : RowAt b p0 n k p done) (hk : k < n) (hv : dVal b p = .error e) : dRow b p0 = .error e := by
  rw [h.run, show n - k = (n - (k + 1)) + 1 by omega, dMany, hv]
theorem RowAt.next {b : List UInt8} {p0 n k p q : Nat} {done : List Vl} {v : Vl} (h : RowAt b p0 n k p done) (hk : k < n) (hv : dVal b p = .ok (v, q)) : RowAt b p0 n (k + 1) q (done ++ [v]) := by
  refine ⟨by simp [h.len], by omega, h.n12, ?_, (dVal_ok hv).2⟩
  rw [h.run, show n - k = (n - (k + 1)) + 1 by omega, dMany, hv]
theorem RowAt.done {b : List UInt8} {p0 n k p : Nat} {done : List Vl} (h : RowAt b p0 n k p done) (hk : ¬ k < n) : dRow b p0 = .ok (done, p) := by
  rw [h.run, show n - k = 0 by have := h.kn; omega, dMany]
theorem set_rep {done : List Vl} {k n : Nat} {v z : Vl} (hl : done.length = k) (hk : k < n) : (done ++ List.replicate (n - k) z).set k v = (done ++ [v]) ++ List.replicate (n - (k + 1)) z := by
  subst hl
  rw [show n - done.length = (n - (done.length + 1)) + 1 by omega, List.replicate_succ, List.set_append_right _ _ (Nat.le_refl _), Nat.sub_self, List.set_cons_zero]
  simp
set_option maxRecDepth 100000 in
set_option maxHeartbeats 2000000 in
theorem cRow_any (s : Sl UInt8) (p : Nat) (w : World) (h : kByte.Inv w s) (hp : p ≤ 9223372036854775806) (hsl : s.xs.length ≤ 9223372036854775000) :
    Calls Try.prog 119 #[.slice s.A s.xs.length s.cap, .int .i64 (p : Int)] w (RowPost w (dRow s.xs p)) := by
  have HI := Lib.hid h
  have hle := h.le
  have hmx : s.cap ≤ 9223372036854775807 := h.mx
  clear h
  go_enter Try.func119, Try.ntmps119
  have HB := BW.refl w
  go_wp2_with fail
  cases hd : dInt s.xs p with
  | error e =>
    have hde := dInt_err hd
    have HDI := Lib.hid hd
    have HX : Hid (dRow s.xs p = .error e) := by show _ = _; unfold dRow; rw [hd]
    have he0 : ¬ e = 0 := by omega
    clear hd hde
    refine Calls.mono (cInt_any s p _ (HI.out.below (by exact BW.fin)) (by omega)) ?_
    rintro e1 w1 ⟨rfl, b1⟩
    rw [rdV_err HDI.out]
    replace HB := BW.next b1
    go_wp2_with fail
    go_ret3
    exact RowPost.err HX.out HB.out
  | ok r =>
    obtain ⟨n, k⟩ := r
    obtain ⟨_, hk1, hk2⟩ := dInt_ok hd
    have HDI := Lib.hid hd
    have HX : Hid (dRow s.xs p = if n < 0 then .error 1 else if 12 < n then .error 5 else dMany (dVal s.xs) n.toNat k []) := by show _ = _; unfold dRow; rw [hd]
    clear hd
    refine Calls.mono (cInt_any s p _ (HI.out.below (by exact BW.fin)) (by omega)) ?_
    rintro e1 w1 ⟨rfl, b1⟩
    rw [rdV_ok HDI.out]
    unfold vInt
    replace HB := BW.next b1
    clear b1
    by_cases h0 : n < 0
    · have HX1 : Hid (dRow s.xs p = .error 1) := by show _ = _; rw [HX.out, if_pos h0]
      go_wp2_with fail
      go_ret3
      exact RowPost.err HX1.out HB.out
    by_cases h12 : 12 < n
    · have HX1 : Hid (dRow s.xs p = .error 5) := by show _ = _; rw [HX.out, if_neg h0, if_pos h12]
      go_wp2_with fail
      go_ret3
      exact RowPost.err HX1.out HB.out
    obtain ⟨m, rfl⟩ : ∃ m : Nat, n = (m : Int) := ⟨n.toNat, by omega⟩
    have HA0 : Hid (RowAt s.xs p m 0 k []) := ⟨rfl, Nat.zero_le _, by omega, by rw [HX.out, if_neg h0, if_neg h12]; simp, hk2⟩
    have hm12 : m ≤ 12 := by omega
    clear HX h0
    go_wp2_with (at_make; refine list_make kVl zVl rfl (.tmp 29) (.tmp 29) 57 67 32 rfl Try.underlying57 infoz_vl m _ _ rfl rfl rfl rfl (by omega) (by omega) ?_)
    have HR0 : Hid (Row kVl 67 (w1.alloc (.cells ((List.replicate m zVl).flatMap kVl.cells).toArray 67)) w.heap.size w1.heap.size m ([] ++ List.replicate (m - 0) zVl)) :=
      made_row kVl _ _ (by simp) (heap_alloc_new w1 _) HB.out.size (by omega) (fun _ _ => trivial) (fun x _ k hk => by simp [kVl, Kd.flat] at hk)
    obtain ⟨g, hg⟩ : ∃ g, g = w1.heap.size := ⟨_, rfl⟩
    have hgb : w.heap.size ≤ g := by rw [hg]; exact HB.out.size
    rw [← hg] at HR0 ⊢
    have HB1 : BW w (w1.alloc (.cells ((List.replicate m zVl).flatMap kVl.cells).toArray 67)) := HB.alloc _
    clear hg HB
    go_wp2_with fail
    go_loopw [4, 5, 6, 8, 9, 11, 33] (fun _ _ _ q _ _ i wr => ∃ (j q' : Nat) (done : List Vl), j ≤ m ∧ i = .int .i64 j ∧ q = .int .i64 q' ∧ Hid (RowAt s.xs p m j q' done) ∧ Hid (Row kVl 67 wr w.heap.size g m (done ++ List.replicate (m - j) zVl)) ∧ BW w wr) (fun _ _ _ _ _ _ i _ => m - (intOf i).toNat)
    case atStart => exact ⟨0, k, [], Nat.zero_le _, rfl, rfl, HA0, HR0, HB1⟩
    case round =>
      clear HB1 HR0 HA0
      obtain ⟨j, q, done, hj, rfl, rfl, HA, HR, HB⟩ := hrel
      have hql := HA.out.pl
      have hdl := HA.out.len
      by_cases hjm : j < m
      · have hjl : j < (done ++ List.replicate (m - j) zVl).length := by simp; omega
        have hjm' : (j : Int) < (m : Int) := by omega
        go_wp2_with fail
        cases hv : dVal s.xs q with
        | error e =>
          have hde := dVal_err hv
          have HV := Lib.hid hv
          have HX : Hid (dRow s.xs p = .error e) := HA.out.err hjm hv
          have he0 : ¬ e = 0 := by omega
          clear hv hde
          refine Calls.mono (cValue_any s q _ (HI.out.below (by exact BW.fin)) (by omega)) ?_
          rintro e1 w2 ⟨rfl, b2⟩
          rw [rdV_err HV.out]
          have HR2 := Lib.hid (HR.out.below b2)
          replace HB := BW.next b2
          clear b2
          unfold zVal
          go_wp2_with (refine put_elem kVl rfl rfl HR2.out (.tmp 45) (.tmp 42) rfl j rfl zVl rfl (by kernel_rfl) hjl trivial (fun k hk => by simp [kVl, Kd.flat] at hk) ?_; intro w3 hs3 gs3; have HB3 := HB.grow gs3 hgb)
          go_ret3
          exact RowPost.err HX.out HB3.out
        | ok r =>
          obtain ⟨v, q2⟩ := r
          have HV := Lib.hid hv
          have HN : Hid (RowAt s.xs p m (j + 1) q2 (done ++ [v])) := HA.out.next hjm hv
          clear hv
          refine Calls.mono (cValue_any s q _ (HI.out.below (by exact BW.fin)) (by omega)) ?_
          rintro e1 w2 ⟨rfl, b2⟩
          rw [rdV_ok HV.out]
          have HR2 := Lib.hid (HR.out.below b2)
          replace HB := BW.next b2
          clear b2
          unfold vVal
          go_wp2_with (refine put_elem kVl rfl rfl HR2.out (.tmp 45) (.tmp 42) rfl j rfl v rfl (by kernel_rfl) hjl trivial (fun k hk => by simp [kVl, Kd.flat] at hk) ?_; intro w3 hs3 gs3; have HB3 := HB.grow gs3 hgb; have HS3 := Lib.hid hs3; clear hs3)
          go_roundw
          case rel => exact ⟨j + 1, q2, done ++ [v], by omega, by go_num, rfl, HN, (by have := HS3.out; rw [set_rep hdl hjm] at this; exact this), HB3⟩
          case measure => simp [intOf]; omega
      · have HX : Hid (dRow s.xs p = .ok (done, q)) := HA.out.done hjm
        have hjn : j = m := by omega
        have HRd : Hid (Row kVl 67 wr w.heap.size g m done) := by
          have := HR.out
          rw [show m - j = 0 by omega, List.replicate_zero, List.append_nil] at this
          exact this
        go_wp2_with fail
        go_ret3
        refine RowPost.ok HX.out (by omega) ?_ (fun a ha => by have := Option.some.inj ha; subst this; exact hgb) HB.out
        obtain ⟨A, c', hv, hi, _⟩ := HRd.out.own.sl
        simp only [Value.slice.injEq, true_and] at hv
        obtain ⟨rfl, rfl⟩ := hv
        exact hi
end Go.Proofs.Ytndlhmnablefpaa

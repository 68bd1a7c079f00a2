/- Small functions: whether two rows of bytes are equal; law37's version, few. -/
import Derived.Test.YtndlhmnablefpaaSub
import Derived.Test.YtndlhmnablefpaaRec3
import Derived.Laws.Rows
namespace Go.Proofs.Ytndlhmnablefpaa
open Go.RowKit
set_option linter.unusedSimpArgs false
set_option linter.unusedVariables false
theorem bytes_eq_iff (a b : List UInt8) : (decide ((⟨a.toArray⟩ : ByteArray) = ⟨b.toArray⟩)) = decide (a = b) := by
  congr 1
  simp
set_option maxRecDepth 100000 in
set_option maxHeartbeats 1000000 in
theorem bytesEqual_any (s t : Sl UInt8) (w : World) (h : kByte.Inv w s) (h' : kByte.Inv w t) :
    Ans Try.prog 56 #[.slice s.A s.xs.length s.cap, .slice t.A t.xs.length t.cap] w (.bool (decide (s.xs = t.xs))) := by
  unfold Ans
  have h1 := convert_bytes (w := w) (A := s.A) (c := s.cap) (ys := s.xs) h s.xs.length rfl
  have h2 := convert_bytes (w := w) (A := t.A) (c := t.cap) (ys := t.xs) h' t.xs.length rfl
  clear h h'
  go_enter Try.func56, Try.ntmps56
  go_wp2_with fail
  go_ret
  refine ⟨ret_bool ?_, (BW.refl w).out⟩
  rw [Bool.eq_iff_iff]
  simp
/-- What few tells: where it says true there are at most 100 versions. -/
def Few37 (w : World) (l : List Ver) (e : Ending) (w' : World) : Prop := ∃ b : Bool, e = .returned (.bool b) ∧ (b = true → l.length ≤ 100) ∧ Below w.heap.size w w'
set_option maxRecDepth 100000 in
set_option maxHeartbeats 1000000 in
theorem few37_any (s : Sl Ver) (w : World) (h : kVer.Inv w s) : Calls Try.prog 17 #[.slice s.A s.xs.length s.cap] w (Few37 w s.xs) := by
  have HI := Lib.hid h
  have hmx : s.xs.length ≤ 9223372036854775807 := Nat.le_trans h.le h.mx
  clear h
  go_enter Try.func17, Try.ntmps17
  go_wp2_with fail
  go_loopw [3] (fun i wr => ∃ k : Nat, k ≤ s.xs.length ∧ k ≤ 100 ∧ i = .int .i64 k ∧ BW w wr) (fun i _ => 100 - (intOf i).toNat)
  case atStart => exact ⟨0, Nat.zero_le _, Nat.zero_le _, rfl, BW.refl w⟩
  case round =>
    obtain ⟨k, hk, hk100, rfl, HB⟩ := hrel
    by_cases hlt : k < s.xs.length
    · by_cases h100 : k < 100
      · obtain ⟨b, o, hA, hb, c0, c1, c2, c3, c4, c5, c6, c7, c8, hr⟩ := ver_at (HI.out.below HB.out) k hlt
        have hrl : s.xs[k].p.row.length ≤ 9223372036854775807 := Nat.le_trans hr.le hr.mx
        have HA := Lib.hid hA
        rw [hA]
        clear hA hr
        by_cases hbig : s.xs[k].p.row.length ≤ 20
        · have hbig' : ¬ (20 : Int) < (s.xs[k].p.row.length : Int) := by omega
          go_wp2_with fail
          go_roundw
          case rel => exact ⟨k + 1, by omega, by omega, by go_num, HB⟩
          case measure => simp [intOf]; omega
        · have hbig' : (20 : Int) < (s.xs[k].p.row.length : Int) := by omega
          go_wp2_with fail
          go_ret
          exact ⟨false, rfl, (fun h => by cases h), HB.out⟩
      · have h100' : ¬ (k : Int) < 100 := by omega
        have hle : ¬ (s.xs.length : Int) ≤ 100 := by omega
        go_wp2_with fail
        go_ret
        exact ⟨false, rfl, (fun h => by cases h), HB.out⟩
    · have hle : (s.xs.length : Int) ≤ 100 := by omega
      go_wp2_with fail
      go_ret
      exact ⟨true, rfl, (fun _ => by omega), HB.out⟩
/-- law37's version. -/
def v37 (id f t : Int) : PVer := ⟨id, 0, [⟨1, id, ⟨#[]⟩⟩], 0, 1099511627776, f, t, 1, 2⟩
def V37Post (w : World) (id f t : Int) (e : Ending) (w' : World) : Prop := ∃ z : Ver, e = .returned (.agg #[.int .i64 id, .int .i64 0, .slice z.A 1 z.c, .int .i64 0, .int .i64 1099511627776, .int .i64 f, .int .i64 t, .int .i64 1, .int .i64 2]) ∧ z.p = v37 id f t ∧ kVer.inv w' z ∧ Below w.heap.size w w'
set_option maxRecDepth 100000 in
set_option maxHeartbeats 1000000 in
theorem version37_any (id f t : Int) (w : World) : Calls Try.prog 38 #[.int .i64 id, .int .i64 f, .int .i64 t] w (V37Post w id f t) := by
  go_enter Try.func38, Try.ntmps38
  go_wp2_with fail
  refine bodyPost_ret (results_cell_row rfl _ _ w.heap.size 59 _ (0, 0) _ rfl ((Below.heap_alloc _ _ _ (by simp)).trans (heap_alloc_new w _)) Try.underlying59 rfl (by kernel_rfl)) rfl ?_
  refine ⟨⟨v37 id f t, some ⟨w.heap.size + 1, 0, none⟩, 1⟩, rfl, rfl, ?_, by exact BW.fin⟩
  refine lit_inv kVl [⟨1, id, ⟨#[]⟩⟩] (e := 67) (fr := (0, 0)) (cs := #[.int .i64 1, .int .i64 id, .string ⟨#[]⟩]) ?_ rfl (fun _ _ => trivial) (show (1 : Nat) ≤ 9223372036854775807 by decide)
  have h1 := heap_alloc_new (w.alloc (.cells #[.int .i64 id, .int .i64 0, .slice (some ⟨w.heap.size + 1, 0, none⟩) 1 1, .int .i64 0, .int .i64 1099511627776, .int .i64 f, .int .i64 t, .int .i64 1, .int .i64 2] 59)) (.cells #[.int .i64 1, .int .i64 id, .string ⟨#[]⟩] 67)
  rw [World.size_alloc] at h1
  exact h1
end Go.Proofs.Ytndlhmnablefpaa

/- ref09: texts, periods, values, rows written. -/
import Derived.Test.YtndlhmnablefpaaRefW
import Derived.Test.YtndlhmnablefpaaDecP
namespace Go.Proofs.Ytndlhmnablefpaa
open Go.RowKit
set_option linter.unusedSimpArgs false
set_option linter.unusedVariables false
/-- The bytes of a text, made anew. -/
theorem conv_inv (w : World) (s : ByteArray) (cap : Nat) (h1 : s.size ≤ cap) (h2 : cap ≤ 9223372036854775807) (t : TypeId) (fr : Nat × Nat) :
    kByte.Inv ((w.alloc (.cells (Go.bytesRow s cap) t fr)).drew) ⟨some ⟨w.heap.size, 0, none⟩, cap, s.data.toList⟩ := by
  refine ⟨by simpa using h1, h2, (fun h => by cases h), fun _ => ⟨w.heap.size, 0, rfl, fun i x hx j u hu => ?_⟩, fun _ _ => trivial⟩
  have hi : i < s.data.size := by
    have := (List.getElem?_eq_some_iff.1 hx).1
    simpa using this
  have hxe : x = s.data[i] := by
    rw [List.getElem?_eq_getElem (by simpa using hi)] at hx
    simpa using (Option.some.inj hx).symm
  have hj : j = 0 := by
    have := (List.getElem?_eq_some_iff.1 hu).1
    simp [kByte, Kd.flat] at this
    exact this
  subst hj
  have hue : u = .int .u8 (x.toNat : Int) := by
    simp [kByte, Kd.flat] at hu
    exact hu.symm
  subst hue hxe
  have h3 := Go.World.cell?_alloc_mark w.drew (Go.bytesRow s cap) t fr i
  rw [show w.drew.heap.size = w.heap.size from rfl] at h3
  rw [show 0 + i * kByte.sz + 0 = i by simp [kByte, Kd.flat]]
  refine Eq.trans (show _ = (w.drew.alloc (.cells (Go.bytesRow s cap) t fr)).cell? ⟨w.heap.size, i, none⟩ from rfl) ?_
  rw [h3]
  unfold Go.bytesRow
  rw [Array.getElem?_append_left (by simpa using hi), Array.getElem?_map, Array.getElem?_eq_getElem hi]
  rfl
set_option maxRecDepth 100000 in
set_option maxHeartbeats 1000000 in
theorem rPutText_any {A : Option Addr} {c : Nat} {xs : List UInt8} (s : ByteArray) (w : World) (h : kByte.Inv w ⟨A, c, xs⟩) (hl : xs.length + s.size ≤ 140737488353000) :
    Calls Try.prog 48 #[.slice A xs.length c, .string s] w (NewB w (xs ++ encText s.data.toList)) := by
  have H := Lib.hid h
  have hsz : s.data.toList.length = s.size := by simp
  have HSZ := Lib.hid hsz
  have hi : I64 (s.size : Int) := I64.nat (by omega)
  have hel := encInt_len hi
  have HCV := Lib.hid (fun w' : World => Go.run_bytes_of_string (P := Try.prog) w' 9 35 5 s Try.underlying9 Try.underlying35 Try.underlying5)
  clear h hsz
  go_enter Try.func48, Try.ntmps48
  go_wp2_with fail
  refine Calls.mono (rPutInt_any (s.size : Int) hi w H.out (by omega)) ?_
  rintro e1 w1 ⟨A1, c1, rfl, hi1, HB1⟩
  have HI1 := Lib.hid hi1
  have hcv := HCV.out w1
  have HI2 := Lib.hid (conv_inv w1 s (grownCap w1 s.size 0 5) (Go.grownCap_ge _ _ _ _) (Go.grownCap_le_maxLen _ _ _ _ (by simp only [Go.maxLen]; omega)) 5 ((Go.bytesRow s (grownCap w1 s.size 0 5)).size, (Go.bytesRow s (grownCap w1 s.size 0 5)).size + 1))
  have HB2 : Hid (BW w1 ((w1.alloc (.cells (Go.bytesRow s (grownCap w1 s.size 0 5)) 5 ((Go.bytesRow s (grownCap w1 s.size 0 5)).size, (Go.bytesRow s (grownCap w1 s.size 0 5)).size + 1))).drew)) := ((BW.refl w1).alloc _).drew
  obtain ⟨ys, hys⟩ : ∃ ys, ys = xs ++ encInt (s.size : Int) := ⟨_, rfl⟩
  have hyl : ys.length ≤ xs.length + 10 := by rw [hys, List.length_append]; omega
  rw [← hys] at HI1 ⊢
  have HYS := Lib.hid hys
  clear hi1 hys
  go_wp2_with fail
  generalize World.drew (World.alloc _ _) = W at HI2 HB2 ⊢
  clear hcv
  refine Calls.mono (show Calls _ _ #[.slice A1 ys.length c1, .slice (some ⟨w1.heap.size, 0, none⟩) s.size _] W _ by rw [← HSZ.out]; exact with_any W (HI1.out.below HB2.out.out) HI2.out (by rw [HSZ.out]; omega)) ?_
  rintro e3 w3 ⟨A3, c3, rfl, hi3, HB3⟩
  rw [HYS.out] at hi3
  have HI3 := Lib.hid hi3
  clear hi3
  go_wp2_with fail
  go_ret
  refine ⟨A3, c3, ?_, ?_, HB1.trans (HB2.out.trans HB3)⟩
  · have hel2 : (xs ++ encText s.data.toList).length = ys.length + s.size := by
      rw [HYS.out]
      unfold encText
      simp only [List.length_append, HSZ.out]
      omega
    rw [hel2]; rfl
  · have h1 := HI3.out
    rw [List.append_assoc] at h1
    simpa [encText] using h1
theorem rPutText_bs {A : Option Addr} {N c : Nat} {xs : List UInt8} (s : ByteArray) (w : World) (h : BS w A N c xs) (hl : N + s.size ≤ 140737488353000) :
    Calls Try.prog 48 #[.slice A N c, .string s] w (NewS w (xs ++ encText s.data.toList)) := by
  obtain ⟨i1, rfl⟩ := h
  exact (rPutText_any s w i1 hl).mono fun _ _ h => h.s
set_option maxRecDepth 100000 in
set_option maxHeartbeats 1000000 in
theorem rPutPeriod_bs {A : Option Addr} {N c : Nat} {xs : List UInt8} (a b : Int) (ha : I64 a) (hb : I64 b) (w : World) (h : BS w A N c xs) (hl : N ≤ 140737488353000) :
    Calls Try.prog 50 #[.slice A N c, .agg #[.int .i64 a, .int .i64 b]] w (NewS w (xs ++ encPer a b)) := by
  have hla : (encInt a).length ≤ 10 := encInt_len ha
  go_enter Try.func50, Try.ntmps50
  have HC := BW.refl w
  go_wp2_with fail
  go_region_held3 (fun W => W.cell? ⟨w.heap.size, 0, none⟩ = some (.int .i64 a) ∧ W.cell? ⟨w.heap.size, 1, none⟩ = some (.int .i64 b)) (go_keep) (first
    | (go_at_call_of 47 (Value.int .i64 a); refine Calls.mono (rPutInt_bs a ha _ (h.bw ⟨by exact BW.fin⟩) (by omega)) ?_; rintro e1 w1 ⟨A1, N1, c1, rfl, h1, HB1⟩; have hn1 : N1 ≤ N + 10 := (by have h2 := h1.len; have h3 := h.len; rw [List.length_append] at h2; omega); replace HC := BW.next HB1.out; have hcc := bcell HB1.out; have hz1 : w.heap.size < w1.heap.size := (by have := HB1.out.size; (try simp [World.drew] at this); omega))
    | (go_at_call_of 47 (Value.int .i64 b); refine Calls.mono (rPutInt_bs b hb _ h1 (by omega)) ?_; rintro e2 w2 ⟨A2, N2, c2, rfl, h2, HB2⟩; replace HC := BW.next HB2.out; have hcd := bcell HB2.out))
  all_goals
    go_wp2_with fail
    go_ret
    rw [List.append_assoc] at h2
    exact ⟨A2, N2, c2, rfl, h2, HC⟩
set_option maxRecDepth 100000 in
set_option maxHeartbeats 2000000 in
theorem rPutValue_bs {A : Option Addr} {N c : Nat} {xs : List UInt8} (v : Vl) (w : World) (h : BS w A N c xs) (hv : okVal v = true) (hl : N ≤ 140737488352000) :
    Calls Try.prog 117 #[.slice A N c, .agg v.cells.toArray] w (NewS w (xs ++ encVal v)) := by
  obtain ⟨k, n, t⟩ := v
  obtain ⟨hn, ht⟩ := okVal_i64 hv
  simp only at hn ht
  simp only [Vl.cells]
  go_enter Try.func117, Try.ntmps117
  have HC := BW.refl w
  by_cases hk1 : k = 1
  · subst hk1
    have HE : Hid (encVal ⟨1, n, t⟩ = [1] ++ encInt n) := rfl
    clear hv
    have HX : Hid ((w.alloc (.cells #[.int .i64 1, .int .i64 n, .string t] 67)).heap[w.heap.size]? = some (.cells #[.int .i64 1, .int .i64 n, .string t] 67 (0, 0))) := heap_alloc_new w _
    have HV : Hid (BW w (w.alloc (.cells #[.int .i64 1, .int .i64 n, .string t] 67))) := (BW.refl w).alloc _
    go_wp2_with fail
    generalize w.alloc _ = V0 at HX HV ⊢
    obtain ⟨g, hg⟩ : ∃ g, g = w.heap.size := ⟨_, rfl⟩
    rw [← hg] at HX ⊢
    clear hg
    replace HC := BW.refl V0
    have hgl : g < V0.heap.size := (Array.getElem?_eq_some_iff.1 HX.out).1
    have x1 : V0.cell? ⟨g, 1, none⟩ = some (.int .i64 n) := by rw [cell_of_row V0 g _ _ _ _ HX.out]; rfl
    have x2 : V0.cell? ⟨g, 2, none⟩ = some (.string t) := by rw [cell_of_row V0 g _ _ _ _ HX.out]; rfl
    replace h := h.bw HV.out
    go_region_held3 (fun W => W.cell? ⟨g, 1, none⟩ = some (.int .i64 n) ∧ W.cell? ⟨g, 2, none⟩ = some (.string t)) (go_keep) (first
      | (go_at_call 77; refine Calls.mono (with_bs (xs := xs) (ys := [1]) _ (h.bw ⟨by exact BW.fin⟩) ?lt (by omega)) ?_; (case lt => exact ⟨lit_inv kByte [1] (e := 5) (fr := (0, 0)) (cs := #[.int .u8 1]) (by first | exact heap_new (by simp) | exact heap_new_drew (by simp)) rfl (fun _ _ => trivial) (show (1 : Nat) ≤ 9223372036854775807 by decide), rfl⟩); rintro e1 w1 ⟨A1, N1, c1, rfl, h1, HB1⟩; have hn1 : N1 ≤ N + 1 := (by have h2 := h1.len; have h3 := h.len; rw [List.length_append] at h2; simp at h2; omega); replace HC := BW.next HB1.out; have hcc := bcell HC.out)
      | (go_at_call 47; refine Calls.mono (rPutInt_bs n hn _ (h1.bw ⟨by exact BW.fin⟩) (by omega)) ?_; rintro e2 w2 ⟨A2, N2, c2, rfl, h2, HB2⟩; replace HC := BW.next HB2.out; have hcd := bcell HC.out))
    all_goals
      go_wp2_with fail
      go_ret
      rw [List.append_assoc, ← HE.out] at h2
      exact ⟨A2, N2, c2, rfl, h2, HV.out.trans HC⟩
  by_cases hk2 : k = 2
  · subst hk2
    have HE : Hid (encVal ⟨2, n, t⟩ = [2] ++ encText t.data.toList) := rfl
    clear hv
    have HX : Hid ((w.alloc (.cells #[.int .i64 2, .int .i64 n, .string t] 67)).heap[w.heap.size]? = some (.cells #[.int .i64 2, .int .i64 n, .string t] 67 (0, 0))) := heap_alloc_new w _
    have HV : Hid (BW w (w.alloc (.cells #[.int .i64 2, .int .i64 n, .string t] 67))) := (BW.refl w).alloc _
    go_wp2_with fail
    generalize w.alloc _ = V0 at HX HV ⊢
    obtain ⟨g, hg⟩ : ∃ g, g = w.heap.size := ⟨_, rfl⟩
    rw [← hg] at HX ⊢
    clear hg
    replace HC := BW.refl V0
    have hgl : g < V0.heap.size := (Array.getElem?_eq_some_iff.1 HX.out).1
    have x1 : V0.cell? ⟨g, 1, none⟩ = some (.int .i64 n) := by rw [cell_of_row V0 g _ _ _ _ HX.out]; rfl
    have x2 : V0.cell? ⟨g, 2, none⟩ = some (.string t) := by rw [cell_of_row V0 g _ _ _ _ HX.out]; rfl
    replace h := h.bw HV.out
    go_region_held3 (fun W => W.cell? ⟨g, 1, none⟩ = some (.int .i64 n) ∧ W.cell? ⟨g, 2, none⟩ = some (.string t)) (go_keep) (first
      | (go_at_call 77; refine Calls.mono (with_bs (xs := xs) (ys := [2]) _ (h.bw ⟨by exact BW.fin⟩) ?lt (by omega)) ?_; (case lt => exact ⟨lit_inv kByte [2] (e := 5) (fr := (0, 0)) (cs := #[.int .u8 2]) (by first | exact heap_new (by simp) | exact heap_new_drew (by simp)) rfl (fun _ _ => trivial) (show (1 : Nat) ≤ 9223372036854775807 by decide), rfl⟩); rintro e1 w1 ⟨A1, N1, c1, rfl, h1, HB1⟩; have hn1 : N1 ≤ N + 1 := (by have h2 := h1.len; have h3 := h.len; rw [List.length_append] at h2; simp at h2; omega); replace HC := BW.next HB1.out; have hcc := bcell HC.out)
      | (go_at_call 48; refine Calls.mono (rPutText_bs t _ (h1.bw ⟨by exact BW.fin⟩) (by omega)) ?_; rintro e2 w2 ⟨A2, N2, c2, rfl, h2, HB2⟩; replace HC := BW.next HB2.out; have hcd := bcell HC.out))
    all_goals
      go_wp2_with fail
      go_ret
      rw [List.append_assoc, ← HE.out] at h2
      exact ⟨A2, N2, c2, rfl, h2, HV.out.trans HC⟩
  by_cases hk3 : k = 3
  · subst hk3
    have hn01 : n = 0 ∨ n = 1 := by
      unfold okVal at hv
      simp at hv
      omega
    clear hv
    rcases hn01 with rfl | rfl
    · have HE : Hid (encVal ⟨3, 0, t⟩ = [3]) := rfl
      go_wp2_with (first
        | (go_at_call 77; refine Calls.mono (with_bs (xs := xs) (ys := [3]) _ (h.bw ⟨by exact BW.fin⟩) ?lt (by omega)) ?_; (case lt => exact ⟨lit_inv kByte [3] (e := 5) (fr := (0, 0)) (cs := #[.int .u8 3]) (by first | exact heap_new (by simp) | exact heap_new_drew (by simp)) rfl (fun _ _ => trivial) (show (1 : Nat) ≤ 9223372036854775807 by decide), rfl⟩); rintro e1 w1 ⟨A1, N1, c1, rfl, h1, HB1⟩; have hn1 : N1 ≤ N + 1 := (by have h2 := h1.len; have h3 := h.len; rw [List.length_append] at h2; simp at h2; omega); replace HC := BW.next HB1.out; have hcc := bcell HB1.out; have hz1 : w.heap.size < w1.heap.size := (by have := HB1.out.size; (try simp [World.drew] at this); omega)))
      go_ret
      rw [← HE.out] at h1
      exact ⟨A1, N1, c1, rfl, h1, HC⟩
    · have HE : Hid (encVal ⟨3, 1, t⟩ = [4]) := rfl
      go_wp2_with (first
        | (go_at_call 77; refine Calls.mono (with_bs (xs := xs) (ys := [4]) _ (h.bw ⟨by exact BW.fin⟩) ?lt (by omega)) ?_; (case lt => exact ⟨lit_inv kByte [4] (e := 5) (fr := (0, 0)) (cs := #[.int .u8 4]) (by first | exact heap_new (by simp) | exact heap_new_drew (by simp)) rfl (fun _ _ => trivial) (show (1 : Nat) ≤ 9223372036854775807 by decide), rfl⟩); rintro e1 w1 ⟨A1, N1, c1, rfl, h1, HB1⟩; have hn1 : N1 ≤ N + 1 := (by have h2 := h1.len; have h3 := h.len; rw [List.length_append] at h2; simp at h2; omega); replace HC := BW.next HB1.out; have hcc := bcell HB1.out; have hz1 : w.heap.size < w1.heap.size := (by have := HB1.out.size; (try simp [World.drew] at this); omega)))
      go_ret
      rw [← HE.out] at h1
      exact ⟨A1, N1, c1, rfl, h1, HC⟩
  have HE : Hid (encVal ⟨k, n, t⟩ = [0]) := by
    show _ = _
    unfold encVal
    simp [hk1, hk2, hk3]
  clear hv
  go_wp2_with (first
    | (go_at_call 77; refine Calls.mono (with_bs (xs := xs) (ys := [0]) _ (h.bw ⟨by exact BW.fin⟩) ?lt (by omega)) ?_; (case lt => exact ⟨lit_inv kByte [0] (e := 5) (fr := (0, 0)) (cs := #[.int .u8 0]) (by first | exact heap_new (by simp) | exact heap_new_drew (by simp)) rfl (fun _ _ => trivial) (show (1 : Nat) ≤ 9223372036854775807 by decide), rfl⟩); rintro e1 w1 ⟨A1, N1, c1, rfl, h1, HB1⟩; have hn1 : N1 ≤ N + 1 := (by have h2 := h1.len; have h3 := h.len; rw [List.length_append] at h2; simp at h2; omega); replace HC := BW.next HB1.out; have hcc := bcell HB1.out; have hz1 : w.heap.size < w1.heap.size := (by have := HB1.out.size; (try simp [World.drew] at this); omega)))
  go_ret
  rw [← HE.out] at h1
  exact ⟨A1, N1, c1, rfl, h1, HC⟩
end Go.Proofs.Ytndlhmnablefpaa

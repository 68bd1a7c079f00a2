/- What codec's put answers. -/
import Derived.Test.YtndlhmnablefpaaRec2
import Derived.Test.YtndlhmnablefpaaCode
import Derived.Deep.DeepMust
namespace Go.Proofs.Ytndlhmnablefpaa
open Go.RowKit
theorem info_u8 : Info Try.prog 5 1 1 := ⟨.int .u8 0, by kernel_rfl, rfl, by decide⟩
/-- The row v has grown by ys. -/
def PutPost {α : Type} (d : Kd α) (e : TypeId) (base : Nat) (row : Option Nat) (xs : List α) (w : World) (en : Ending) (w' : World) : Prop :=
  ∃ v', en = .returned v' ∧ Own d e w' base v' xs ∧ Gr w w' row v'.ownBlock
theorem uvar_len_of {ys xs : List UInt8} {u : Nat} {n : Int} (h : Hid (ys ++ uvar u = xs ++ encInt n)) (hn : I64 n) : ys.length + 1 ≤ xs.length + 10 := by
  have h1 := congrArg List.length h.out
  have h2 := encInt_len hn
  have h3 := List.length_pos_iff.2 (uvar_ne u)
  simp only [List.length_append] at h1
  omega
set_option maxHeartbeats 800000 in
set_option maxRecDepth 100000 in
theorem put_any (n : Int) (hn : I64 n) (xs : List UInt8) (v : Value) (row : Option Nat) (base : Nat) (w : World) (h : Apd kByte 5 w base v row xs) (hb : base ≤ w.heap.size) (hl : xs.length ≤ 140737488355000) : 
    Calls Try.prog 99 #[v, .int .i64 n] w (PutPost kByte 5 base row (xs ++ encInt n) w) := by
  have HO := Lib.hid h
  have HN := Lib.hid (zig_bits hn)
  have HZ := zig_lt hn
  clear h
  go_enter Try.func99, Try.ntmps99
  go_wp2
  rw [HN.out]
  go_loopw [0, 5] (fun v u wr => ∃ (u' : Nat) (ys : List UInt8) (r' : Option Nat), u = .int .u64 u' ∧ U64 u' ∧ Hid (Apd kByte 5 wr base v r' ys) ∧ Gr w wr row r' ∧ Hid (ys ++ uvar u' = xs ++ encInt n)) (fun _ u _ => (intOf u).toNat)
  case atStart => exact ⟨zig n, xs, row, rfl, HZ, HO, Gr.refl _ _, rfl⟩
  case round =>
    obtain ⟨u', ys, r', rfl, HU, HO, HG, HY⟩ := hrel
    have hyl := uvar_len_of HY hn
    have hbr := Nat.le_trans hb HG.size
    by_cases hu : u' < 128
    · have hy : Hid (uvar u' = [loByte u']) := uvar_small hu
      have hbo := byte_wrap u'
      go_wp2_with (at_builtin; refine append_one kByte base rfl (.tmp 23) (.tmp 26) 35 5 1 rfl Try.underlying35 info_u8 _ r' ys (loByte u') _ rfl rfl _ rfl rfl HO.out trivial nofoot hbr (by omega) ?_; intro v1 w1 ho hg; have HO1 := Lib.hid ho; clear ho hbo)
      go_ret
      exact ⟨_, rfl, by rw [← HY.out, hy.out]; exact HO1.out, HG.trans hg⟩
    · have hbo := byte_or' u'
      have hd : Hid (U64 (u' / 128)) := HU.div 128
      go_wp2_with (at_builtin; refine append_one kByte base rfl (.tmp 15) (.tmp 19) 35 5 1 rfl Try.underlying35 info_u8 _ r' ys (hiByte u') _ rfl rfl _ rfl rfl HO.out trivial nofoot hbr (by omega) ?_; intro v1 w1 ho hg; have HO1 := Lib.hid ho; clear ho hbo)
      go_roundw
      case rel => exact ⟨u' / 128, ys ++ [hiByte u'], _, by go_num, hd, Apd.own HO1.out, HG.trans hg, by show _ = _; rw [List.append_assoc, ← HY.out, uvar_big hu]; rfl⟩
      case measure => simp [intOf]; omega

theorem grow_any (A : Option Addr) (n c : Nat) (h : n ≤ c) (w : World) : Calls Try.prog 100 #[.slice A n c] w fun e w' => e = .returned (.slice A n n) ∧ w = w' := by
  go_enter Try.func100, Try.ntmps100
  go_wp2
  go_ret
  exact ⟨rfl, rfl⟩
/-- Bytes that are read, and how many there may be. -/
structure Bytes (w : World) (s : Sl UInt8) (m : Nat) : Prop where
  inv : kByte.Inv w s
  len : s.xs.length ≤ m
theorem Bytes.full {w : World} {s : Sl UInt8} {m : Nat} (h : Bytes w s m) (e : TypeId) (B : Nat) : Apd kByte e w B (.slice s.A s.xs.length s.xs.length) none s.xs :=
  .full ⟨Nat.le_refl _, Nat.le_trans h.inv.le h.inv.mx, fun h0 => by have := h.inv.nil h0; have := h.inv.le; simp only; omega, h.inv.at', h.inv.inv⟩
theorem putInt_any (s : Sl UInt8) (n : Int) (w : World) (h : Bytes w s 140737488355000) (hn : I64 n) :
    Calls Try.prog 72 #[.slice s.A s.xs.length s.cap, .int .i64 n] w (PutPost kByte 5 w.heap.size none (s.xs ++ encInt n) w) := by
  go_enter Try.func72, Try.ntmps72
  have HH := Lib.hid h
  have HC := Lib.hid (fun w => grow_any s.A s.xs.length s.cap h.inv.le w)
  clear h
  go_wp2_with (first | (go_at_call 100; refine (HC.out _).mono ?_; rintro e w1 ⟨rfl, rfl⟩) | (go_at_call 99; refine (put_any n hn s.xs _ none w.heap.size _ (HH.out.full _ _) (Nat.le_refl _) HH.out.len).mono ?_; rintro e w1 ⟨v1, rfl, ho, hg⟩; have HO := Lib.hid ho; clear ho))
  go_ret
  exact ⟨_, rfl, HO.out, hg⟩
set_option maxRecDepth 100000 in
set_option maxHeartbeats 800000 in
theorem putPeriod_any (s : Sl UInt8) (a b : Int) (w : World) (h : Bytes w s 140737488354000) (ha : I64 a) (hb : I64 b) :
    Calls Try.prog 73 #[.slice s.A s.xs.length s.cap, .agg #[.int .i64 a, .int .i64 b]] w (PutPost kByte 5 w.heap.size none (s.xs ++ encPer a b) w) := by
  have HH := Lib.hid h
  have HC := Lib.hid (fun w => grow_any s.A s.xs.length s.cap h.inv.le w)
  clear h
  go_enter Try.func73, Try.ntmps73
  go_wp2_with (fail)
  have hla : (encInt a).length ≤ 10 := encInt_len ha
  go_region_held3 (fun W => W.cell? ⟨w.heap.size, 0, none⟩ = some (.int .i64 a) ∧ W.cell? ⟨w.heap.size, 1, none⟩ = some (.int .i64 b)) (go_keep) (first
    | (go_at_call 100; refine (HC.out _).mono ?_; rintro e w1 ⟨rfl, rfl⟩)
    | (go_at_call_of 99 (Value.int .i64 a); refine Calls.mono (put_any a ha s.xs _ none (w.heap.size + 1) _ ?_ ?_ ?_) ?_; (exact (HH.out.full _ _).below BW.fin); (exact szle); (exact Nat.le_trans HH.out.len (by omega)); rintro e w1 ⟨v1, rfl, ho, hg⟩; have HO := Lib.hid ho; clear ho; have hcc := bcell hg.belowN)
    | (go_at_call_of 99 (Value.int .i64 b); refine Calls.mono (put_any b hb (s.xs ++ encInt a) _ _ (w.heap.size + 1) _ (Apd.own HO.out) ?_ ?_) ?_; (have := hg.size; simp [World.drew] at this; exact this); (simp only [List.length_append]; have := HH.out.len; omega); rintro e w2 ⟨v2, rfl, ho2, hg2⟩; have HO2 := Lib.hid ho2; clear ho2; have hc2 := bcellB (hg2.below (B := w.heap.size + 1) (by have := hg.size; simp [World.drew] at this; exact this) (fun k hk => (HO.out.base_le k hk).1))))
  go_wp2
  go_ret
  exact ⟨_, rfl, by rw [encPer, ← List.append_assoc]; exact HO2.out.lower szle, (Gr.fin (w := w)).trans (hg.trans hg2)⟩
/-- A string's bytes. -/
theorem byteCells_kByte (s : ByteArray) : byteCells s = s.data.toList.flatMap kByte.cells := by
  unfold byteCells kByte Kd.flat
  simp only [List.map_eq_flatMap]
theorem src_str {W : World} {tx : TypeId} (hk : Try.prog.underlying tx = some .string) (s : ByteArray) : Src Try.prog kByte.sz tx (.string s) s.data.toList.length (s.data.toList.flatMap kByte.cells) W := by
  rw [← byteCells_kByte]
  have := Src.ofString (P := Try.prog) W hk s
  show Src _ 1 _ _ _ _ _
  simpa using this
theorem putText_any (s : Sl UInt8) (x : ByteArray) (w : World) (h : Bytes w s 140737488354000) (hx : s.xs.length + x.size ≤ 140737488354000) :
    Calls Try.prog 71 #[.slice s.A s.xs.length s.cap, .string x] w (PutPost kByte 5 w.heap.size none (s.xs ++ encText x.data.toList) w) := by
  have HH := Lib.hid h
  have HC := Lib.hid (fun w => grow_any s.A s.xs.length s.cap h.inv.le w)
  clear h
  have hx2 : I64 (x.size : Int) := I64.nat (by omega)
  have hla : (encInt (x.size : Int)).length ≤ 10 := encInt_len hx2
  go_enter Try.func71, Try.ntmps71
  go_wp2_with (first | (go_at_call 100; refine (HC.out _).mono ?_; rintro e w1 ⟨rfl, rfl⟩) | (go_at_call 99; refine (put_any _ hx2 s.xs _ none w.heap.size _ (HH.out.full _ _) (Nat.le_refl _) (Nat.le_trans HH.out.len (by omega))).mono ?_; rintro e w1 ⟨v1, rfl, ho, hg⟩; have HO := Lib.hid ho; clear ho) | (at_builtin; refine append_all kByte w.heap.size rfl (.tmp 9) (.tmp 10) 35 9 5 1 rfl Try.underlying35 info_u8 v1 _ (s.xs ++ encInt (x.size : Int)) x.data.toList rfl (.string x) rfl (src_str Try.underlying9 x) (Apd.own HO.out) (fun _ _ => trivial) (fun y _ k hk => by simp [kByte, Kd.flat] at hk) hg.size (by simp; omega) ?_; intro v2 w2 r2 ha hg2 hn; have HA := Lib.hid (hn (.inr ⟨HO.out, rfl⟩)); clear ha hn))
  go_ret
  obtain ⟨ho2, rfl⟩ := HA.out
  exact ⟨_, rfl, by rw [encText, ← List.append_assoc]; simpa using ho2, hg.trans hg2⟩
end Go.Proofs.Ytndlhmnablefpaa
/-! What codec's PutValue and PutRow answer. -/
namespace Go.Proofs.Ytndlhmnablefpaa
open Go.RowKit
set_option maxRecDepth 100000 in
set_option maxHeartbeats 1600000 in
theorem putValue_int (s : Sl UInt8) (n : Int) (t : ByteArray) (w : World) (h : Bytes w s 140737488353000) (hn : I64 n) :
    Calls Try.prog 124 #[.slice s.A s.xs.length s.cap, .agg #[.int .i64 1, .int .i64 n, .string t]] w (PutPost kByte 5 w.heap.size none (s.xs ++ (1 :: encInt n)) w) := by
  have HH := Lib.hid h
  have HC := Lib.hid (fun w => grow_any s.A s.xs.length s.cap h.inv.le w)
  clear h
  go_enter Try.func124, Try.ntmps124
  go_wp2_with (first | (go_at_call 100; refine (HC.out _).mono ?_; rintro e w1 ⟨rfl, rfl⟩))
  have hle := HH.out.len
  go_region_held3 (fun W => W.cell? ⟨w.heap.size, 1, none⟩ = some (.int .i64 n)) (first | exact hk1 | go_keep) (first
    | (refine step_of_wp rfl (wp_append_one kByte (w.heap.size + 1) (.tmp 11) (.tmp 12) 35 5 1 rfl Try.underlying35 info_u8 (.slice s.A s.xs.length s.xs.length) none s.xs 1 #[.int .u8 1] rfl _ rfl ?_ ?_ ?_ trivial nofoot ?_ ?_ ?_); (refine heap_new_drew ?_; simp); rfl; (exact (HH.out.full _ _).below BW.fin); (exact szle); omega; intro v1 w1 ho hg; have HO := Lib.hid ho; clear ho; have hk1 := (bcellB (hg.below (B := w.heap.size + 1) szle (fun k hk => by simp at hk)) w.heap.size 1 szlt).trans (by simp : _ = some (Value.int .i64 n)))
    | (go_at_call 99; refine Calls.mono (put_any n hn (s.xs ++ [1]) _ _ (w.heap.size + 1) _ (Apd.own HO.out) ?_ ?_) ?_; (have := hg.size; simp [World.drew] at this; omega); (simp only [List.length_append, List.length_singleton]; omega); rintro e w2 ⟨v2, rfl, ho2, hg2⟩; have HO2 := Lib.hid ho2; clear ho2; have hk1 := (bcellB (hg2.below (B := w.heap.size + 1) (by have := hg.size; simp [World.drew] at this; omega) (fun k hk => (HO.out.base_le k hk).1)) w.heap.size 1 szlt).trans hk1))
  go_wp2
  go_ret
  exact ⟨_, rfl, by simpa using HO2.out.lower szle, (Gr.fin (w := w)).trans (hg.trans hg2)⟩
set_option maxRecDepth 100000 in
set_option maxHeartbeats 1600000 in
theorem putValue_text (s : Sl UInt8) (n : Int) (t : ByteArray) (w : World) (h : Bytes w s 140737488353000) (ht : t.size ≤ 200) :
    Calls Try.prog 124 #[.slice s.A s.xs.length s.cap, .agg #[.int .i64 2, .int .i64 n, .string t]] w (PutPost kByte 5 w.heap.size none (s.xs ++ (2 :: encText t.data.toList)) w) := by
  have HH := Lib.hid h
  have HC := Lib.hid (fun w => grow_any s.A s.xs.length s.cap h.inv.le w)
  clear h
  have hx2 : I64 (t.size : Int) := I64.nat (by omega)
  have hla : (encInt (t.size : Int)).length ≤ 10 := encInt_len hx2
  go_enter Try.func124, Try.ntmps124
  go_wp2_with (first | (go_at_call 100; refine (HC.out _).mono ?_; rintro e w1 ⟨rfl, rfl⟩))
  have hle := HH.out.len
  go_region_held3 (fun W => W.cell? ⟨w.heap.size, 2, none⟩ = some (.string t)) (first | exact hk3 | exact hk2 | exact hk1 | go_keep) (first
    | (refine step_of_wp rfl (wp_append_one kByte (w.heap.size + 1) (.tmp 19) (.tmp 20) 35 5 1 rfl Try.underlying35 info_u8 (.slice s.A s.xs.length s.xs.length) none s.xs 2 #[.int .u8 2] rfl _ rfl ?_ ?_ ?_ trivial nofoot ?_ ?_ ?_); (refine heap_new_drew ?_; simp); rfl; (exact (HH.out.full _ _).below BW.fin); (exact szle); omega; intro v1 w1 ho hg; have HO := Lib.hid ho; clear ho; have hk1 := (bcellB (hg.below (B := w.heap.size + 1) szle (fun k hk => by simp at hk)) w.heap.size 2 szlt).trans (by simp : _ = some (Value.string t)))
    | (go_at_call 99; refine Calls.mono (put_any _ hx2 (s.xs ++ [2]) _ _ (w.heap.size + 1) _ (Apd.own HO.out) ?_ ?_) ?_; (have := hg.size; simp [World.drew] at this; omega); (simp only [List.length_append, List.length_singleton]; omega); rintro e w2 ⟨v2, rfl, ho2, hg2⟩; have HO2 := Lib.hid ho2; clear ho2; have hk2 := (bcellB (hg2.below (B := w.heap.size + 1) (by have := hg.size; simp [World.drew] at this; omega) (fun k hk => (HO.out.base_le k hk).1)) w.heap.size 2 szlt).trans hk1)
    | (refine step_of_wp rfl (wp_append kByte (w.heap.size + 1) (.tmp 25) (.tmp 27) 35 9 5 1 rfl Try.underlying35 info_u8 v2 _ (s.xs ++ [2] ++ encInt (t.size : Int)) t.data.toList rfl (.string t) rfl (src_str Try.underlying9 t) (Apd.own HO2.out) (fun _ _ => trivial) nofoots ?_ ?_ ?_); (have := hg.size; have := hg2.size; simp [World.drew] at *; omega); (simp; omega); intro v3 w3 r3 ha hg3 hn; have HA := Lib.hid (hn (.inr ⟨HO2.out, rfl⟩)); clear ha hn; have hk3 := (bcellB (hg3.below (B := w.heap.size + 1) (by have := hg.size; have := hg2.size; simp [World.drew] at *; omega) (fun k hk => (HO2.out.base_le k hk).1)) w.heap.size 2 szlt).trans hk2))
  go_wp2
  go_ret
  obtain ⟨ho3, rfl⟩ := HA.out
  exact ⟨_, rfl, by simpa [encText] using ho3.lower szle, (Gr.fin (w := w)).trans (hg.trans (hg2.trans hg3))⟩
theorem bits_and0 : bits .and .i64 0 1 = 0 := by decide
theorem bits_and1 : bits .and .i64 1 1 = 1 := by decide
set_option maxHeartbeats 800000 in
theorem putValue_bool (s : Sl UInt8) (n : Int) (hn : n = 0 ∨ n = 1) (t : ByteArray) (w : World) (h : Bytes w s 140737488353000) :
    Calls Try.prog 124 #[.slice s.A s.xs.length s.cap, .agg #[.int .i64 3, .int .i64 n, .string t]] w (PutPost kByte 5 w.heap.size none (s.xs ++ [UInt8.ofNat (3 + n % 2).toNat]) w) := by
  have HH := Lib.hid h
  have HC := Lib.hid (fun w => grow_any s.A s.xs.length s.cap h.inv.le w)
  clear h
  have hle := HH.out.len
  have b0 := bits_and0
  have b1 := bits_and1
  rcases hn with rfl | rfl
  · go_enter Try.func124, Try.ntmps124
    go_wp2_with (first | (go_at_call 100; refine (HC.out _).mono ?_; rintro e w1 ⟨rfl, rfl⟩) | (at_builtin; refine append_one kByte (w.heap.size + 1) rfl (.tmp 31) (.tmp 37) 35 5 1 rfl Try.underlying35 info_u8 _ none s.xs 3 _ rfl rfl _ rfl (by simp) ((HH.out.full _ _).below BW.fin) trivial nofoot szle (by omega) ?_; intro v1 w1 ho hg; have HO1 := Lib.hid ho; clear ho))
    go_ret
    exact ⟨_, rfl, HO1.out.lower szle, (Gr.fin (w := w)).trans hg⟩
  · go_enter Try.func124, Try.ntmps124
    go_wp2_with (first | (go_at_call 100; refine (HC.out _).mono ?_; rintro e w1 ⟨rfl, rfl⟩) | (at_builtin; refine append_one kByte (w.heap.size + 1) rfl (.tmp 31) (.tmp 37) 35 5 1 rfl Try.underlying35 info_u8 _ none s.xs 4 _ rfl rfl _ rfl (by simp) ((HH.out.full _ _).below BW.fin) trivial nofoot szle (by omega) ?_; intro v1 w1 ho hg; have HO1 := Lib.hid ho; clear ho))
    go_ret
    exact ⟨_, rfl, HO1.out.lower szle, (Gr.fin (w := w)).trans hg⟩
set_option maxHeartbeats 800000 in
theorem putValue_null (s : Sl UInt8) (n : Int) (t : ByteArray) (w : World) (h : Bytes w s 140737488353000) :
    Calls Try.prog 124 #[.slice s.A s.xs.length s.cap, .agg #[.int .i64 0, .int .i64 n, .string t]] w (PutPost kByte 5 w.heap.size none (s.xs ++ [0]) w) := by
  have HH := Lib.hid h
  have HC := Lib.hid (fun w => grow_any s.A s.xs.length s.cap h.inv.le w)
  clear h
  have hle := HH.out.len
  go_enter Try.func124, Try.ntmps124
  go_wp2_with (first | (go_at_call 100; refine (HC.out _).mono ?_; rintro e w1 ⟨rfl, rfl⟩) | (at_builtin; refine append_one kByte (w.heap.size + 1) rfl (.tmp 39) (.tmp 40) 35 5 1 rfl Try.underlying35 info_u8 _ none s.xs 0 _ rfl rfl _ rfl (by simp) ((HH.out.full _ _).below BW.fin) trivial nofoot szle (by omega) ?_; intro v1 w1 ho hg; have HO1 := Lib.hid ho; clear ho))
  go_ret
  exact ⟨_, rfl, HO1.out.lower szle, (Gr.fin (w := w)).trans hg⟩
theorem okVal_kind {v : Vl} (h : okVal v = true) : v.k = 0 ∨ v.k = 1 ∨ v.k = 2 ∨ v.k = 3 := by
  unfold okVal at h
  split at h
  · simp at *; omega
  split at h
  · simp at *; omega
  split at h
  · simp at *; omega
  split at h
  · simp at *; omega
  · simp at h
theorem okVal_bool {v : Vl} (h : okVal v = true) (hk : v.k = 3) : v.n = 0 ∨ v.n = 1 := by
  unfold okVal at h
  simp [hk] at h
  exact h.2
/-- What PutValue appends, of a valid value. -/
theorem putValue_any (s : Sl UInt8) (v : Vl) (w : World) (h : Bytes w s 140737488353000) (hv : okVal v = true) :
    Calls Try.prog 124 #[.slice s.A s.xs.length s.cap, .agg v.cells.toArray] w (PutPost kByte 5 w.heap.size none (s.xs ++ encVal v) w) := by
  obtain ⟨hn, ht⟩ := okVal_i64 hv
  have hb := okVal_bool hv
  obtain ⟨k, n, t⟩ := v
  rcases okVal_kind hv with hk | hk | hk | hk <;> simp only at hk <;> subst hk
  · exact putValue_null s n t w h
  · exact putValue_int s n t w h hn
  · exact putValue_text s n t w h ht
  · exact putValue_bool s n (hb rfl) t w h

/-- What is owned is read. -/
theorem Own.bytes {e : TypeId} {w : World} {base : Nat} {v : Value} {xs : List UInt8} {m : Nat} (h : Own kByte e w base v xs) (hm : xs.length ≤ m) : ∃ s : Sl UInt8, v = .slice s.A s.xs.length s.cap ∧ Bytes w s m ∧ s.xs = xs := by
  obtain ⟨A, c, rfl, hi, _⟩ := h.sl
  exact ⟨⟨A, c, xs⟩, rfl, ⟨hi, hm⟩, rfl⟩
set_option maxRecDepth 100000 in
set_option maxHeartbeats 1600000 in
theorem putRow_any (s : Sl UInt8) (r : Sl Vl) (w : World) (h : Bytes w s 140737488350000) (hr : kVl.Inv w r) (hok : okRow r.xs = true) :
    Calls Try.prog 116 #[.slice s.A s.xs.length s.cap, .slice r.A r.xs.length r.cap] w (PutPost kByte 5 w.heap.size none (s.xs ++ encRow r.xs) w) := by
  have HH := Lib.hid h
  have HC := Lib.hid (fun w => grow_any s.A s.xs.length s.cap h.inv.le w)
  have HR := Lib.hid hr
  obtain ⟨hl12, hval⟩ := okRow_all hok
  have HV := Lib.hid hval
  clear h hr hok hval
  have hle := HH.out.len
  have hx2 : I64 (r.xs.length : Int) := I64.nat (by omega)
  have hla : (encInt (r.xs.length : Int)).length ≤ 10 := encInt_len hx2
  have HL : Hid (∀ k, ((r.xs.take k).flatMap encVal).length ≤ 2532) := fun k => by
    have := flatMap_len encVal 211 (r.xs.take k) fun v hv => encVal_len (HV.out v (List.mem_of_mem_take hv))
    have h2 : (r.xs.take k).length ≤ 12 := Nat.le_trans (List.length_take_le' _ _) hl12
    omega
  go_enter Try.func116, Try.ntmps116
  go_wp2_with (first | (go_at_call 100; refine (HC.out _).mono ?_; rintro e w1 ⟨rfl, rfl⟩) | (go_at_call 99; refine (put_any _ hx2 s.xs _ none w.heap.size _ (HH.out.full _ _) (Nat.le_refl _) (Nat.le_trans HH.out.len (by omega))).mono ?_; rintro e w1 ⟨v1, rfl, ho, hg⟩; have HO := Lib.hid ho; clear ho))
  go_loopw [0, 14] (fun v i wr => ∃ k : Nat, k ≤ r.xs.length ∧ i = .int .i64 k ∧ Hid (Own kByte 5 wr w.heap.size v (s.xs ++ encInt (r.xs.length : Int) ++ (r.xs.take k).flatMap encVal)) ∧ BW w wr) (fun _ i _ => r.xs.length - (intOf i).toNat)
  case atStart => exact ⟨0, Nat.zero_le _, rfl, (by show Own _ _ _ _ _ _; simpa using HO.out), ⟨hg.belowN⟩⟩
  case round =>
    clear HO hg
    obtain ⟨k, hk, rfl, HO, HB⟩ := hrel
    by_cases hlt : k < r.xs.length
    · obtain ⟨b, o, hA, hb, c0, c1, c2⟩ := vl_at (HR.out.below HB.out) k hlt
      have HA := Lib.hid hA
      rw [hA]
      clear hA
      obtain ⟨z, rfl, hz, hzx⟩ := HO.out.bytes (m := 140737488353000) (by simp only [List.length_append]; have := HL.out k; omega)
      have HZ := Lib.hid hz
      have HX := Lib.hid hzx
      clear hz hzx HO
      go_wp2_with (go_at_call 124; refine (putValue_any z r.xs[k] _ ⟨HZ.out.inv.below (by exact BW.fin), HZ.out.len⟩ (HV.out _ (List.getElem_mem hlt))).mono ?_; rintro e w2 ⟨v2, rfl, ho2, hg2⟩; have HO2 := Lib.hid ho2; clear ho2)
      go_roundw
      case rel => exact ⟨k + 1, by omega, by go_num, (by show Own _ _ _ _ _ _; rw [take_flat _ _ _ hlt, ← List.append_assoc, ← HX.out]; exact HO2.out.lower (by have := HB.out.size; simp; omega)), HB.trans (BW.mk (((Gr.fin (w := wr)).trans hg2).belowN))⟩
      case measure => simp [intOf]; omega
    · go_wp2
      go_ret
      have hk2 : k = r.xs.length := by omega
      exact ⟨_, rfl, by have := HO.out; rw [List.take_of_length_le (by omega)] at this; rw [encRow, ← List.append_assoc]; exact this, Gr.of_own HB HO.out⟩
end Go.Proofs.Ytndlhmnablefpaa

/- What a row hands in, read as the walks' kinds: whole numbers, texts, values, versions, slices of them. -/
import Derived.Test.YtndlhmnablefpaaRec2
import Derived.Test.YtndlhmnablefpaaCode
import Derived.SizedLaws
import Derived.Deep.Slices
namespace Go.Proofs.Ytndlhmnablefpaa
open Go.RowKit Go.ChangeShapes Go.WideShapes
set_option linter.unusedSimpArgs false
set_option linter.unusedVariables false
/-- What is read at the type t is of the kind d; where its parts are of a size that a machine bears, fit holds. -/
structure Reads {α : Type} (P : Program) (d : Kd α) (t : TypeId) (fit : α → Prop) : Prop where
  sz : P.cellsOf t = d.sz
  rd : ∀ (H : Type) (enc : TypeId × Value → H) (w : World) (fuel : Nat) (cs : List Value) (x : DataW H × List MemPlace), DataW.trod enc P w 0 (fun _ => true) true fuel t cs = some x →
    ∃ y : α, d.cells y = cs ∧ d.inv w y ∧ ((∀ n, n ∈ x.1.weights P t → n ≤ reachBytes) → fit y)
theorem list_of {α : Type} {p : Nat → α → Prop} : ∀ (n : Nat), (∀ i, i < n → ∃ x, p i x) → ∃ l : List α, l.length = n ∧ ∀ (i : Nat) (x : α), l[i]? = some x → p i x
  | 0, _ => ⟨[], rfl, fun i x h => by simp at h⟩
  | n + 1, h => by
    obtain ⟨l, hl, hp⟩ := list_of n fun i hi => h i (by omega)
    obtain ⟨x, hx⟩ := h n (by omega)
    refine ⟨l ++ [x], by simp [hl], fun i y hy => ?_⟩
    rcases Nat.lt_or_ge i n with hi | hi
    · rw [List.getElem?_append_left (by omega)] at hy
      exact hp i y hy
    · rw [List.getElem?_append_right (by omega)] at hy
      have h0 : i - l.length = 0 := by
        have := (List.getElem?_eq_some_iff.1 hy).1
        simp at this; omega
      rw [h0] at hy
      simp at hy
      subst hy
      rw [show i = n by omega]; exact hx
theorem mem_weightsAll {H : Type} {P : Program} {e : TypeId} {d : DataW H} {n : Nat} : ∀ {l : List (DataW H)}, d ∈ l → n ∈ d.weights P e → n ∈ DataW.weightsAll P e l
  | x :: l, hd, hn => by
    rw [DataW.weightsAll, List.mem_append]
    rcases List.mem_cons.1 hd with rfl | hd
    · exact .inl hn
    · exact .inr (mem_weightsAll hd hn)
theorem reads_int {P : Program} {t : TypeId} (ht : P.underlying t = some (.int .i64)) (h1 : P.cellsOf t = 1) : Reads P kInt t I64 := by
  refine ⟨h1, fun H enc w fuel cs x h => ?_⟩
  obtain ⟨n, rfl, rfl, hw⟩ := DataW.trod_int ht h
  refine ⟨n, rfl, trivial, fun _ => ?_⟩
  have h2 : -9223372036854775808 ≤ n ∧ n ≤ 9223372036854775807 := by simpa [Lit.wf, IntKind.min, IntKind.max, IntKind.signed, IntKind.bits] using hw
  exact ⟨h2.1, h2.2⟩
/-- A slice of them. -/
theorem reads_slice {α : Type} {P : Program} {d : Kd α} {e t : TypeId} {fit : α → Prop} (h : Reads P d e fit) (ht : P.underlying t = some (.slice e)) (h1 : P.cellsOf t = 1) :
    Reads P (Kd.slice d) t (fun s => s.xs.length * P.bytesOf e ≤ reachBytes ∧ ∀ y, y ∈ s.xs → fit y) := by
  refine ⟨h1, fun H enc w fuel cs x hx => ?_⟩
  rcases Go.Deep.open_slice ht hx with ⟨rfl, rfl⟩ | ⟨a, len, cap, m, n, D, Pl, rfl, _, hle, hmx, hm, rfl, hel⟩
  · exact ⟨⟨none, 0, []⟩, rfl, ⟨Nat.le_refl _, Nat.zero_le _, fun _ => rfl, fun h => absurd rfl h, fun _ h => by simp at h⟩, fun _ => ⟨by simp, fun _ h => by simp at h⟩⟩
  · have hm' : m = cap := by simpa using hm
    subst hm'
    obtain ⟨l, hl, hp⟩ := list_of (p := fun i (y : α) => (∀ (j : Nat) (u : Value), (d.cells y)[j]? = some u → w.cell? (a.add (i * d.sz + j)) = some u) ∧ d.inv w y ∧ ((∀ n, n ∈ (D i).weights P e → n ≤ reachBytes) → fit y)) len fun i hi => by
      obtain ⟨cs', hc, htr⟩ := hel i (by omega)
      obtain ⟨y, hy1, hy2, hy3⟩ := h.rd H enc w n cs' _ htr
      obtain ⟨_, hcl, hcg⟩ := World.cells?_some hc
      refine ⟨y, fun j u hu => ?_, hy2, hy3⟩
      have hj : j < d.sz := by
        rw [← d.hsz y]
        exact (List.getElem?_eq_some_iff.1 hu).1
      have := hcg j (by rw [h.sz]; exact hj)
      rw [h.sz, Go.Deep.add_add] at this
      rw [this, ← hy1]; exact hu
    subst hl
    refine ⟨⟨some a, m, l⟩, rfl, ⟨hle, Nat.le_trans hmx (by decide), (fun h => by cases h), fun hne => ?_, fun y hy => ?_⟩, fun hw => ⟨?_, fun y hy => ?_⟩⟩
    · obtain ⟨b, o, spot⟩ := a
      obtain ⟨y0, t0, h0⟩ := List.exists_cons_of_ne_nil hne
      have hy0 : l[0]? = some y0 := by rw [show l = y0 :: t0 from h0]; rfl
      obtain ⟨u0, hu0⟩ : ∃ u, (d.cells y0)[0]? = some u := ⟨_, List.getElem?_eq_getElem (by rw [d.hsz]; exact d.pos)⟩
      have hs : spot = none := by simpa [Addr.add] using World.cell?_spot ((hp 0 y0 hy0).1 0 u0 hu0)
      subst hs
      refine ⟨b, o, rfl, fun i y hi j u hu => ?_⟩
      have := (hp i y hi).1 j u hu
      rw [Addr.add_lit] at this
      rw [Nat.add_assoc]; exact this
    · obtain ⟨i, hi, rfl⟩ := List.getElem_of_mem hy
      exact (hp i _ (List.getElem?_eq_getElem hi)).2.1
    · have hw1 := hw ((((List.range l.length).map D).length + ((List.range (m - l.length)).map fun j => D (l.length + j)).length) * P.bytesOf e) (by simp [DataW.weights, ht])
      refine Nat.le_trans (Nat.mul_le_mul_right _ ?_) hw1
      simp
    · obtain ⟨i, hi, rfl⟩ := List.getElem_of_mem hy
      refine (hp i _ (List.getElem?_eq_getElem hi)).2.2 fun n hn => hw n ?_
      simp only [DataW.weights, ht, List.mem_cons, List.mem_append]
      exact .inr (.inl (mem_weightsAll (List.mem_map_of_mem (List.mem_range.2 hi)) hn))
theorem list3 {α : Type} {l : List α} (h : l.length = 3) : ∃ a b c, l = [a, b, c] := by
  match l, h with
  | [a, b, c], _ => exact ⟨a, b, c, rfl⟩
theorem list2 {α : Type} {l : List α} (h : l.length = 2) : ∃ a b, l = [a, b] := by
  match l, h with
  | [a, b], _ => exact ⟨a, b, rfl⟩
theorem list7 {α : Type} {l : List α} (h : l.length = 7) : ∃ a b c d e f g, l = [a, b, c, d, e, f, g] := by
  match l, h with
  | [a, b, c, d, e, f, g], _ => exact ⟨a, b, c, d, e, f, g, rfl⟩
theorem list9 {α : Type} {l : List α} (h : l.length = 9) : ∃ a b c d e f g i j, l = [a, b, c, d, e, f, g, i, j] := by
  match l, h with
  | [a, b, c, d, e, f, g, i, j], _ => exact ⟨a, b, c, d, e, f, g, i, j, rfl⟩
theorem cellsInt : Try.prog.cellsOf 3 = 1 := by kernel_rfl
theorem cellsStr : Try.prog.cellsOf 9 = 1 := by kernel_rfl
theorem cellsVl : Try.prog.cellsOf 67 = 3 := by kernel_rfl
theorem cellsPer : Try.prog.cellsOf 49 = 2 := by kernel_rfl
theorem cellsVer : Try.prog.cellsOf 59 = 9 := by kernel_rfl
theorem cellsVls : Try.prog.cellsOf 57 = 1 := by kernel_rfl
theorem cellsVers : Try.prog.cellsOf 29 = 1 := by kernel_rfl
theorem reads_vl : Reads Try.prog kVl 67 (fun v => v.t.size ≤ 9223372036854775807) := by
  refine ⟨cellsVl, fun H enc w fuel cs x h => ?_⟩
  obtain ⟨xs, n, rfl, rfl, hcl, hxl, hf⟩ := DataW.trod_struct Try.underlying67 h
  rw [cellsVl] at hcl
  obtain ⟨c0, c1, c2, rfl⟩ := list3 hcl
  obtain ⟨x0, x1, x2, rfl⟩ := list3 (by simpa using hxl)
  have h0 : DataW.trod enc Try.prog w 0 (fun _ => true) true n 3 ((([c0, c1, c2] : List Value).drop 0).take (Try.prog.cellsOf 3)) = some x0 := hf 0 _ rfl
  have h1 : DataW.trod enc Try.prog w 0 (fun _ => true) true n 3 ((([c0, c1, c2] : List Value).drop 1).take (Try.prog.cellsOf 3)) = some x1 := hf 1 _ rfl
  have h2 : DataW.trod enc Try.prog w 0 (fun _ => true) true n 9 ((([c0, c1, c2] : List Value).drop 2).take (Try.prog.cellsOf 9)) = some x2 := hf 2 _ rfl
  rw [cellsInt] at h0 h1
  rw [cellsStr] at h2
  simp only [List.drop, List.take] at h0 h1 h2
  obtain ⟨k, e0, _, _⟩ := DataW.trod_int Try.underlying3 h0
  obtain ⟨m, e1, _, _⟩ := DataW.trod_int Try.underlying3 h1
  obtain ⟨s, e2, _, hs⟩ := DataW.trod_string Try.underlying9 h2
  simp only [List.cons.injEq, and_true] at e0 e1 e2
  subst e0 e1 e2
  exact ⟨⟨k, m, s⟩, rfl, trivial, fun _ => Nat.le_trans hs (by decide)⟩
theorem reads_per {H : Type} {enc : TypeId × Value → H} {w : World} {fuel : Nat} {cs : List Value} {x : DataW H × List MemPlace} (h : DataW.trod enc Try.prog w 0 (fun _ => true) true fuel 49 cs = some x) : ∃ a b : Int, cs = [.int .i64 a, .int .i64 b] := by
  obtain ⟨xs, n, rfl, rfl, hcl, hxl, hf⟩ := DataW.trod_struct Try.underlying49 h
  rw [cellsPer] at hcl
  obtain ⟨c0, c1, rfl⟩ := list2 hcl
  obtain ⟨x0, x1, rfl⟩ := list2 (by simpa using hxl)
  have h0 : DataW.trod enc Try.prog w 0 (fun _ => true) true n 3 ((([c0, c1] : List Value).drop 0).take (Try.prog.cellsOf 3)) = some x0 := hf 0 _ rfl
  have h1 : DataW.trod enc Try.prog w 0 (fun _ => true) true n 3 ((([c0, c1] : List Value).drop 1).take (Try.prog.cellsOf 3)) = some x1 := hf 1 _ rfl
  rw [cellsInt] at h0 h1
  simp only [List.drop, List.take] at h0 h1
  obtain ⟨k, e0, _, _⟩ := DataW.trod_int Try.underlying3 h0
  obtain ⟨m, e1, _, _⟩ := DataW.trod_int Try.underlying3 h1
  simp only [List.cons.injEq, and_true] at e0 e1
  subst e0 e1
  exact ⟨k, m, rfl⟩
theorem reads_ver : Reads Try.prog kVer 59 (fun v => Fits v.p.row) := by
  refine ⟨cellsVer, fun H enc w fuel cs x h => ?_⟩
  obtain ⟨xs, n, rfl, rfl, hcl, hxl, hf⟩ := DataW.trod_struct Try.underlying59 h
  rw [cellsVer] at hcl
  obtain ⟨c0, c1, c2, c3, c4, c5, c6, c7, c8, rfl⟩ := list9 hcl
  obtain ⟨x0, x1, x2, x3, x4, x5, x6, rfl⟩ := list7 (by simpa using hxl)
  have h0 : DataW.trod enc Try.prog w 0 (fun _ => true) true n 3 ((([c0, c1, c2, c3, c4, c5, c6, c7, c8] : List Value).drop 0).take (Try.prog.cellsOf 3)) = some x0 := hf 0 _ rfl
  have h1 : DataW.trod enc Try.prog w 0 (fun _ => true) true n 3 ((([c0, c1, c2, c3, c4, c5, c6, c7, c8] : List Value).drop 1).take (Try.prog.cellsOf 3)) = some x1 := hf 1 _ rfl
  have h2 : DataW.trod enc Try.prog w 0 (fun _ => true) true n 57 ((([c0, c1, c2, c3, c4, c5, c6, c7, c8] : List Value).drop 2).take (Try.prog.cellsOf 57)) = some x2 := hf 2 _ rfl
  have h3 : DataW.trod enc Try.prog w 0 (fun _ => true) true n 49 ((([c0, c1, c2, c3, c4, c5, c6, c7, c8] : List Value).drop 3).take (Try.prog.cellsOf 49)) = some x3 := hf 3 _ rfl
  have h4 : DataW.trod enc Try.prog w 0 (fun _ => true) true n 49 ((([c0, c1, c2, c3, c4, c5, c6, c7, c8] : List Value).drop 5).take (Try.prog.cellsOf 49)) = some x4 := hf 4 _ rfl
  have h5 : DataW.trod enc Try.prog w 0 (fun _ => true) true n 3 ((([c0, c1, c2, c3, c4, c5, c6, c7, c8] : List Value).drop 7).take (Try.prog.cellsOf 3)) = some x5 := hf 5 _ rfl
  have h6 : DataW.trod enc Try.prog w 0 (fun _ => true) true n 3 ((([c0, c1, c2, c3, c4, c5, c6, c7, c8] : List Value).drop 8).take (Try.prog.cellsOf 3)) = some x6 := hf 6 _ rfl
  rw [cellsInt] at h0 h1 h5 h6
  rw [cellsVls] at h2
  rw [cellsPer] at h3 h4
  simp only [List.drop, List.take] at h0 h1 h2 h3 h4 h5 h6
  obtain ⟨id, e0, _, _⟩ := DataW.trod_int Try.underlying3 h0
  obtain ⟨sch, e1, _, _⟩ := DataW.trod_int Try.underlying3 h1
  obtain ⟨r, e2, hr, hrf⟩ := (reads_slice reads_vl Try.underlying57 cellsVls).rd H enc w n _ _ h2
  obtain ⟨vf, vt, e3⟩ := reads_per h3
  obtain ⟨sf, st, e4⟩ := reads_per h4
  obtain ⟨by', e5, _, _⟩ := DataW.trod_int Try.underlying3 h5
  obtain ⟨un, e6, _, _⟩ := DataW.trod_int Try.underlying3 h6
  simp only [List.cons.injEq, and_true, Kd.slice] at e0 e1 e2 e3 e4 e5 e6
  obtain ⟨rfl, rfl⟩ := e3
  obtain ⟨rfl, rfl⟩ := e4
  subst e0 e1 e2 e5 e6
  obtain ⟨A, c, row⟩ := r
  refine ⟨⟨⟨id, sch, row, vf, vt, sf, st, by', un⟩, A, c⟩, rfl, hr, fun hw => ?_⟩
  refine (hrf fun k hk => hw k ?_).2
  simp only [DataW.weights, Try.underlying59, List.map, DataW.weightsEach, List.mem_append]
  simp [DataW.weightsEach, hk]
theorem reads_vls : Reads Try.prog (Kd.slice kVer) 29 (fun s => s.xs.length * Try.prog.bytesOf 59 ≤ reachBytes ∧ ∀ y, y ∈ s.xs → Fits y.p.row) := reads_slice reads_ver Try.underlying29 cellsVers
theorem bytesVer : Try.prog.bytesOf 59 = 88 := by kernel_rfl
theorem vlen_of {n : Nat} (h : n * Try.prog.bytesOf 59 ≤ reachBytes) : n ≤ 140737488355328 := by
  rw [bytesVer] at h
  have h2 : reachBytes ≤ 140737488355328 := Nat.le_of_lt reachBytes_lt
  generalize reachBytes = r at h h2
  omega
end Go.Proofs.Ytndlhmnablefpaa

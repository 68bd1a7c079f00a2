/- What a Go value is and where it lies: kinds of elements, slices that are read, rows that a call makes; how these facts move from world to world; append. No program in sight. -/
import Derived.WalkKit
import Derived.KernelRfl
import Derived.LoopTactic
import Derived.Deep.LoopGhost
import Derived.WalkLawsBesides
import Derived.WalkSpells
import Derived.BigQuiet
import Derived.Deep.QuietTactic
import Derived.Maps.AppendAt
import Derived.Deep.AppendSrc
import Derived.Deep.AppendLies
import Derived.Lib.Hide
namespace Go.Proofs.Ytndlhmnablefpaa
open Go.RowKit

/-! ### 1. Kinds and slices -/
/-- A slice: where it lies, its capacity, its elements. -/
structure Sl (α : Type) where
  A : Option Addr
  cap : Nat
  xs : List α

/-- A kind of element: its cells, the blocks that its slices lie in, what memory must hold. -/
structure Kd (α : Type) where
  sz : Nat
  cells : α → List Value
  foot : α → List Nat
  inv : World → α → Prop
  pos : 0 < sz
  hsz : ∀ x, (cells x).length = sz
  one : ∀ x v, v ∈ cells x → v.oneCell' = true
  lt : ∀ w x, inv w x → ∀ k, k ∈ foot x → k < w.heap.size
  move : ∀ w w' x, inv w x → (∀ k, k ∈ foot x → w'.heap[k]? = w.heap[k]?) → inv w' x

/-- A slice is read: its elements' cells lie behind its address. -/
structure Kd.Inv {α : Type} (d : Kd α) (w : World) (s : Sl α) : Prop where
  le : s.xs.length ≤ s.cap
  mx : s.cap ≤ 9223372036854775807
  nil : s.A = none → s.cap = 0
  at' : s.xs ≠ [] → ∃ b o, s.A = some ⟨b, o, none⟩ ∧ ∀ (i : Nat) (x : α), s.xs[i]? = some x → ∀ (j : Nat) (u : Value), (d.cells x)[j]? = some u → w.cell? ⟨b, o + i * d.sz + j, none⟩ = some u
  inv : ∀ x, x ∈ s.xs → d.inv w x

def Sl.blk {α : Type} (s : Sl α) : List Nat := match s.A, s.xs with | some a, _ :: _ => [a.block] | _, _ => []
def Sl.foot {α : Type} (d : Kd α) (s : Sl α) : List Nat := s.blk ++ s.xs.flatMap d.foot

theorem mem_blk {α : Type} {s : Sl α} {k : Nat} (h : k ∈ s.blk) : ∃ a, s.A = some a ∧ a.block = k ∧ s.xs ≠ [] := by
  obtain ⟨A, c, xs⟩ := s
  cases A <;> cases xs <;> simp [Sl.blk] at h ⊢
  exact h.symm
theorem blk_mem {α : Type} {s : Sl α} {a : Addr} (ha : s.A = some a) (hx : s.xs ≠ []) : a.block ∈ s.blk := by
  obtain ⟨A, c, xs⟩ := s
  cases xs with
  | nil => exact absurd rfl hx
  | cons => simp at ha; subst ha; simp [Sl.blk]

section
variable {α : Type} {d : Kd α} {w w' : World} {s : Sl α}
theorem Kd.Inv.lt (h : d.Inv w s) : ∀ k, k ∈ s.foot d → k < w.heap.size := by
  intro k hk
  rcases List.mem_append.1 hk with hk | hk
  · obtain ⟨a, ha, rfl, hx⟩ := mem_blk hk
    obtain ⟨b, o, hA, hc⟩ := h.at' hx
    rw [hA] at ha
    obtain rfl := Option.some.inj ha
    obtain ⟨x, t, ht⟩ := List.exists_cons_of_ne_nil hx
    have h0 : s.xs[0]? = some x := by rw [ht]; rfl
    obtain ⟨u, hu⟩ : ∃ u, (d.cells x)[0]? = some u := ⟨_, List.getElem?_eq_getElem (by rw [d.hsz]; exact d.pos)⟩
    exact World.block_lt_of_cell? w (⟨b, o + 0 * d.sz + 0, none⟩ : Addr) (hc 0 x h0 0 u hu)
  · obtain ⟨x, hx, hk⟩ := List.mem_flatMap.1 hk
    exact d.lt w x (h.inv x hx) k hk
theorem Kd.Inv.move (h : d.Inv w s) (hm : ∀ k, k ∈ s.foot d → w'.heap[k]? = w.heap[k]?) : d.Inv w' s := by
  refine ⟨h.le, h.mx, h.nil, fun hx => ?_, fun x hx => d.move w w' x (h.inv x hx) fun k hk => hm k (List.mem_append_right _ (List.mem_flatMap.2 ⟨x, hx, hk⟩))⟩
  obtain ⟨b, o, hA, hc⟩ := h.at' hx
  refine ⟨b, o, hA, fun i x hi j u hu => ?_⟩
  rw [World.cell?_of_block (w := w) (a := ⟨b, o + i * d.sz + j, none⟩) (hm b (List.mem_append_left _ (blk_mem (a := ⟨b, o, none⟩) hA hx)))]
  exact hc i x hi j u hu
theorem Kd.Inv.below (h : d.Inv w s) (hb : Below w.heap.size w w') : d.Inv w' s := h.move fun k hk => hb.block k (h.lt k hk)
theorem Kd.Inv.belowAt {w0 : World} (h : d.Inv w0 s) {B : Nat} (hb : Below B w0 w) (hB : w0.heap.size ≤ B) : d.Inv w s := h.below (hb.mono hB)
theorem Kd.Inv.grown (h : d.Inv w s) {row : Option Nat} (hg : w.grownBy w' row) (hr : ∀ k, k ∈ s.foot d → some k ≠ row) : d.Inv w' s := h.move fun k hk => hg.block k (h.lt k hk) (hr k hk)
theorem Kd.below (d : Kd α) {x : α} (h : d.inv w x) (hb : Below w.heap.size w w') : d.inv w' x := d.move w w' x h fun k hk => hb.block k (d.lt w x h k hk)
theorem Kd.grown (d : Kd α) {x : α} (h : d.inv w x) {row : Option Nat} (hg : w.grownBy w' row) (hr : ∀ k, k ∈ d.foot x → some k ≠ row) : d.inv w' x := d.move w w' x h fun k hk => hg.block k (d.lt w x h k hk) (hr k hk)
/-- Element i: where its cells lie. -/
theorem Kd.Inv.get (h : d.Inv w s) (i : Nat) (hi : i < s.xs.length) : ∃ b o, s.A = some ⟨b, o, none⟩ ∧ b < w.heap.size ∧ (∀ (j : Nat) (u : Value), (d.cells s.xs[i])[j]? = some u → w.cell? ⟨b, o + i * d.sz + j, none⟩ = some u) ∧ d.inv w s.xs[i] := by
  have hx : s.xs ≠ [] := by intro e; rw [e] at hi; simp at hi
  obtain ⟨b, o, hA, hc⟩ := h.at' hx
  exact ⟨b, o, hA, h.lt b (List.mem_append_left _ (blk_mem (a := ⟨b, o, none⟩) hA hx)), fun j u hu => hc i _ (List.getElem?_eq_getElem hi) j u hu, h.inv _ (List.getElem_mem hi)⟩
end

/-- Slices as elements. -/
def Kd.slice {α : Type} (d : Kd α) : Kd (Sl α) where
  sz := 1
  cells s := [.slice s.A s.xs.length s.cap]
  foot s := s.foot d
  inv w s := d.Inv w s
  pos := by decide
  hsz _ := rfl
  one s v h := by simp at h; subst h; rfl
  lt w s h := h.lt
  move w w' s h hm := h.move hm

def Kd.flat {α : Type} (sz : Nat) (cells : α → List Value) (hp : 0 < sz) (hs : ∀ x, (cells x).length = sz) (h1 : ∀ x v, v ∈ cells x → v.oneCell' = true) : Kd α where
  sz := sz
  cells := cells
  foot _ := []
  inv _ _ := True
  pos := hp
  hsz := hs
  one := h1
  lt _ _ _ _ h := by simp at h
  move _ _ _ h _ := h
def kInt : Kd Int := Kd.flat 1 (fun n => [.int .i64 n]) (by decide) (fun _ => rfl) (fun x v h => by simp at h; subst h; rfl)
def kByte : Kd UInt8 := Kd.flat 1 (fun n => [.int .u8 n.toNat]) (by decide) (fun _ => rfl) (fun x v h => by simp at h; subst h; rfl)
def kStr : Kd ByteArray := Kd.flat 1 (fun s => [.string s]) (by decide) (fun _ => rfl) (fun x v h => by simp at h; subst h; rfl)

/-! ### 2. Rows of the call's own -/
structure Own {α : Type} (d : Kd α) (e : TypeId) (w : World) (base : Nat) (v : Value) (xs : List α) : Prop where
  row : w.ownsRow base e d.sz v xs.length (xs.flatMap d.cells)
  inv : ∀ x, x ∈ xs → d.inv w x
  apart : ∀ x, x ∈ xs → ∀ k, k ∈ d.foot x → v.ownBlock ≠ some k

theorem length_cells {α : Type} (d : Kd α) (xs : List α) : (xs.flatMap d.cells).length = xs.length * d.sz := by
  induction xs with
  | nil => simp
  | cons x xs ih => rw [List.flatMap_cons, List.length_append, ih, d.hsz, List.length_cons, Nat.add_mul]; omega
theorem getElem_cells {α : Type} (d : Kd α) (xs : List α) (i j : Nat) (x : α) (u : Value) (hi : xs[i]? = some x) (hu : (d.cells x)[j]? = some u) : (xs.flatMap d.cells)[i * d.sz + j]? = some u := by
  induction xs generalizing i with
  | nil => simp at hi
  | cons y xs ih =>
    have hj : j < d.sz := by rw [← d.hsz x]; exact (List.getElem?_eq_some_iff.1 hu).1
    cases i with
    | zero =>
      simp at hi
      subst hi
      rw [List.flatMap_cons, Nat.zero_mul, Nat.zero_add, List.getElem?_append_left (by rw [d.hsz]; exact hj)]
      exact hu
    | succ i =>
      rw [List.flatMap_cons, List.getElem?_append_right (by rw [d.hsz, Nat.add_mul]; omega), d.hsz, show (i + 1) * d.sz + j - d.sz = i * d.sz + j by rw [Nat.add_mul]; omega]
      exact ih i (by simpa using hi)

section
variable {α : Type} {d : Kd α} {e : TypeId} {w w' : World} {base : Nat} {v : Value} {xs : List α}
theorem Own.nil (d : Kd α) (e : TypeId) (w : World) (base : Nat) : Own d e w base (.slice none 0 0) [] := ⟨World.ownsRow_nil w base e d.sz, fun _ h => by simp at h, fun _ h => by simp at h⟩
theorem Own.grown (h : Own d e w base v xs) {row : Option Nat} (hg : w.grownBy w' row) (hv : v.ownBlock = none ∨ v.ownBlock ≠ row) (hr : ∀ x, x ∈ xs → ∀ k, k ∈ d.foot x → some k ≠ row) : Own d e w' base v xs :=
  ⟨h.row.kept hg hv, fun x hx => d.grown (h.inv x hx) hg (hr x hx), h.apart⟩
theorem grownBy_below (hb : Below w.heap.size w w') (row : Option Nat) : w.grownBy w' row := ⟨hb.os, hb.tape, hb.output, hb.size, fun k hk _ => hb.block k hk⟩
theorem Own.below (h : Own d e w base v xs) (hb : Below w.heap.size w w') : Own d e w' base v xs :=
  ⟨h.row.kept (grownBy_below hb none) (by cases v.ownBlock <;> simp), fun x hx => d.below (h.inv x hx) hb, h.apart⟩
theorem Own.alloc (h : Own d e w base v xs) (o : Obj) : Own d e (w.alloc o) base v xs := h.below ((Below.refl _ _).alloc (Nat.le_refl _) o)
theorem Own.drew (h : Own d e w base v xs) : Own d e w.drew base v xs := h.below ((Below.refl _ _).drew)
theorem below_drewN {B : Nat} {a w : World} (h : Below B a w) (n : Nat) : Below B a (w.drewN n) := ⟨h.os, h.tape, h.output, h.size, h.block⟩
theorem Own.drewN (h : Own d e w base v xs) (n : Nat) : Own d e (w.drewN n) base v xs := h.below (below_drewN (Below.refl _ _) n)
theorem Own.base_le (h : Own d e w base v xs) (k : Nat) (hk : v.ownBlock = some k) : base ≤ k ∧ k < w.heap.size := h.row.lt k hk
theorem Own.lower (h : Own d e w base v xs) {b : Nat} (hb : b ≤ base) : Own d e w b v xs := by
  refine ⟨⟨h.row.1, ?_⟩, h.inv, h.apart⟩
  rcases h.row.2 with hn | ⟨g, cap, cur, rfl, hg, rest⟩
  · exact .inl hn
  · exact .inr ⟨g, cap, cur, rfl, Nat.le_trans hb hg, rest⟩
/-- What is owned is a slice that is read. -/
theorem Own.sl (h : Own d e w base v xs) : ∃ A c, v = .slice A xs.length c ∧ d.Inv w ⟨A, c, xs⟩ ∧ (∀ a, A = some a → v.ownBlock = some a.block ∧ base ≤ a.block) := by
  rcases h.row.2 with ⟨rfl, hn⟩ | ⟨g, cap, cur, rfl, hg, hh, hle, hmx, hcs, htake⟩
  · have hx : xs = [] := List.eq_nil_of_length_eq_zero hn
    subst hx
    exact ⟨none, 0, rfl, ⟨Nat.le_refl _, by simp, fun _ => rfl, fun h => absurd rfl h, h.inv⟩, fun a h => by simp at h⟩
  · refine ⟨_, cap, rfl, ⟨hle, by simp only [maxLen] at hmx; simp only; omega, fun h => by simp at h, fun _ => ⟨g, 0, rfl, fun i x hi j u hu => ?_⟩, h.inv⟩, fun a ha => ?_⟩
    · have := h.row.cells (g := g) rfl (i * d.sz + j) u (getElem_cells d xs i j x u hi hu)
      rw [Addr.add_lit, Nat.zero_add] at this
      rw [show 0 + i * d.sz + j = i * d.sz + j by omega]
      exact this
    · simp at ha
      subst ha
      exact ⟨rfl, hg⟩
/-- A row of one's own, cut short. -/
theorem Own.form (h : Own d e w base v xs) : ∃ A c, v = .slice A xs.length c := let ⟨A, c, hv, _⟩ := h.sl; ⟨A, c, hv⟩
end

/-! ### 4. What may be appended to: a row of one's own, or a slice without spare capacity -/
inductive Apd {α : Type} (d : Kd α) (e : TypeId) (w : World) (base : Nat) : Value → Option Nat → List α → Prop
  | own {v : Value} {xs : List α} (h : Own d e w base v xs) : Apd d e w base v v.ownBlock xs
  | full {A : Option Addr} {xs : List α} (h : d.Inv w ⟨A, xs.length, xs⟩) : Apd d e w base (.slice A xs.length xs.length) none xs
/-- From w to wr the row alone has been written (and what is new); the row has become row'. -/
structure Gr (w wr : World) (row row' : Option Nat) : Prop where
  by' : w.grownBy wr row
  at' : row' = row ∨ ∃ b, row' = some b ∧ w.heap.size ≤ b
theorem Gr.refl (w : World) (row : Option Nat) : Gr w w row row := ⟨⟨rfl, rfl, rfl, Nat.le_refl _, fun _ _ _ => rfl⟩, .inl rfl⟩
theorem Gr.trans {w w1 w2 : World} {r r1 r2 : Option Nat} (h : Gr w w1 r r1) (k : Gr w1 w2 r1 r2) : Gr w w2 r r2 := by
  refine ⟨⟨k.by'.os.trans h.by'.os, k.by'.tape.trans h.by'.tape, k.by'.output.trans h.by'.output, Nat.le_trans h.by'.size k.by'.size, fun i hi hne => ?_⟩, ?_⟩
  · refine (k.by'.block i (Nat.lt_of_lt_of_le hi h.by'.size) ?_).trans (h.by'.block i hi hne)
    rcases h.at' with e | ⟨b, e, hb⟩
    · rw [e]; exact hne
    · rw [e]; intro he; have := Option.some.inj he; omega
  · rcases k.at' with e | ⟨b, e, hb⟩
    · rcases h.at' with e' | ⟨b, e', hb⟩
      · exact .inl (e.trans e')
      · exact .inr ⟨b, e.trans e', hb⟩
    · exact .inr ⟨b, e, Nat.le_trans h.by'.size hb⟩
theorem Gr.of_below {w wr : World} (row : Option Nat) (h : Below w.heap.size w wr) : Gr w wr row row := ⟨grownBy_below h row, .inl rfl⟩
theorem Gr.alloc {w wr : World} {r r' : Option Nat} (h : Gr w wr r r') (o : Obj) : Gr w (wr.alloc o) r r' := h.trans (.of_below _ ((Below.refl _ _).alloc (Nat.le_refl _) o))
theorem Gr.drewN {w wr : World} {r r' : Option Nat} (h : Gr w wr r r') (n : Nat) : Gr w (wr.drewN n) r r' := h.trans (.of_below _ (below_drewN (Below.refl _ _) n))
theorem Gr.drew {w wr : World} {r r' : Option Nat} (h : Gr w wr r r') : Gr w wr.drew r r' := h.trans (.of_below _ ((Below.refl _ _).drew))
theorem Gr.call {w wr w1 : World} {r r' : Option Nat} (h : Gr w wr r r') (hb : Below wr.heap.size wr w1) : Gr w w1 r r' := h.trans (.of_below _ hb)
theorem Gr.below {w wr : World} {r r' : Option Nat} (h : Gr w wr r r') {B : Nat} (hB : B ≤ w.heap.size) (hr : ∀ k, r = some k → B ≤ k) : Below B w wr := (Below.refl B w).grown h.by' hB hr
theorem Gr.belowN {w wr : World} {r' : Option Nat} (h : Gr w wr none r') : Below w.heap.size w wr := h.below (Nat.le_refl _) (fun k hk => by simp at hk)
theorem Gr.size {w wr : World} {r r' : Option Nat} (h : Gr w wr r r') : w.heap.size ≤ wr.heap.size := h.by'.size

section
variable {α : Type} {d : Kd α} {e : TypeId} {w w' : World} {base : Nat} {v : Value} {row : Option Nat} {xs : List α}
theorem Apd.below (h : Apd d e w base v row xs) (hb : Below w.heap.size w w') : Apd d e w' base v row xs := by
  cases h with
  | own h => exact .own (h.below hb)
  | full h => exact .full (h.below hb)
theorem Apd.alloc (h : Apd d e w base v row xs) (o : Obj) : Apd d e (w.alloc o) base v row xs := h.below ((Below.refl _ _).alloc (Nat.le_refl _) o)
theorem Apd.form (h : Apd d e w base v row xs) : ∃ A c, v = .slice A xs.length c := by
  cases h with
  | own h => exact h.form
  | full h => exact ⟨_, _, rfl⟩
theorem Apd.rowb (h : Apd d e w base v row xs) : ∀ k, row = some k → base ≤ k ∧ k < w.heap.size := by
  cases h with
  | own h => exact h.base_le
  | full h => intro k hk; simp at hk
end

/-! ### 5. append, of whatever is appended -/
/-- What is known of an element type: its zero, its cells, its bytes. -/
def Info (P : Program) (e : TypeId) (sz bytes : Nat) : Prop := ∃ z : Value, (P.info? e).map (fun i => (i.zero, i.size, i.bytes)) = some (some z, sz, bytes) ∧ z.cells.size = sz ∧ 0 < bytes
section
variable {P : Program} (W : World)
theorem run_append_zero (t tx ty e : TypeId) (i : TypeInfo) (ht : P.underlying t = some (.slice e)) (hi : P.info? e = some i) (A : Option Addr) (n c : Nat) (x : Value) (hs : Src P i.size tx x 0 [] W) (hn : n ≤ c) :
    (Builtin.append_ #[t, tx] ty #[.slice A n c, x]).run P W = .ok (.slice A n c) W := by
  rcases hs.kind with ⟨e', hk⟩ | hk <;> cases A <;> simp [Builtin.append_, run_underlying ht, run_underlying hk, sizeOf, typeInfo, hi, hs.len, hn, hs.cells, storeCells]
theorem run_append_room_row (t tx ty e : TypeId) (i : TypeInfo) (ht : P.underlying t = some (.slice e)) (hi : P.info? e = some i)
    (g sLen sCap : Nat) (cur : Array Value) (hg : W.heap[g]? = some (.cells cur e (0, 0))) (x : Value) (m : Nat) (news : List Value) (hs : Src P i.size tx x m news W) (hroom : sLen + m ≤ sCap) (hfit : sLen * i.size + news.length ≤ cur.size) :
    (Builtin.append_ #[t, tx] ty #[.slice (some ⟨g, 0, none⟩) sLen sCap, x]).run P W =
      .ok (.slice (some ⟨g, 0, none⟩) (sLen + m) sCap) (W.setRow g (cur.toList.take (sLen * i.size) ++ news ++ cur.toList.drop (sLen * i.size + news.length)).toArray) := by
  have hst := run_storeCells_at P g (sLen * i.size) e news 0 cur W hg (by simpa using hfit) hs.one
  simp only [Nat.add_zero] at hst
  rcases hs.kind with ⟨e', hk⟩ | hk <;> simp [Builtin.append_, run_underlying ht, run_underlying hk, sizeOf, typeInfo, hi, hs.len, hroom, hs.cells, Addr.add_lit, hst]
variable {α : Type}
/-- Cell j of the row of cells. -/
theorem cells_flat {d : Kd α} {xs : List α} {j : Nat} {u : Value} (hu : (xs.flatMap d.cells)[j]? = some u) : ∃ i k x, xs[i]? = some x ∧ (d.cells x)[k]? = some u ∧ j = i * d.sz + k := by
  have hj : j < xs.length * d.sz := by rw [← length_cells]; exact (List.getElem?_eq_some_iff.1 hu).1
  have hdp := d.pos
  have hi' : j / d.sz < xs.length := by rw [Nat.div_lt_iff_lt_mul hdp]; exact hj
  have hm : j % d.sz < d.sz := Nat.mod_lt _ hdp
  have hdj : j / d.sz * d.sz + j % d.sz = j := by rw [Nat.mul_comm]; exact Nat.div_add_mod j d.sz
  refine ⟨j / d.sz, j % d.sz, xs[j / d.sz], List.getElem?_eq_getElem hi', ?_, hdj.symm⟩
  have h2 := getElem_cells d xs (j / d.sz) (j % d.sz) xs[j / d.sz] ((d.cells xs[j / d.sz])[j % d.sz]'(by rw [d.hsz]; exact hm)) (List.getElem?_eq_getElem hi') (List.getElem?_eq_getElem _)
  rw [hdj, hu] at h2
  rw [List.getElem?_eq_getElem (by rw [d.hsz]; exact hm)]
  exact h2.symm
variable {W}
theorem Kd.Inv.flat {d : Kd α} {s : Sl α} (h : d.Inv W s) : ∀ b, s.A = some b → ∀ j u, (s.xs.flatMap d.cells)[j]? = some u → W.cell? (b.add j) = some u := by
  intro b hb j u hu
  have hx0 : s.xs ≠ [] := by intro e; rw [e] at hu; simp at hu
  obtain ⟨b', o', hA', hc'⟩ := h.at' hx0
  have : b = ⟨b', o', none⟩ := by rw [hA'] at hb; exact (Option.some.inj hb).symm
  subst this
  obtain ⟨i, k, x, hi, hk, rfl⟩ := cells_flat hu
  rw [Addr.add_lit, ← Nat.add_assoc]
  exact hc' i x hi k u hk
/-- What a slice that is read yields. -/
theorem Kd.Inv.src {d : Kd α} {A : Option Addr} {c : Nat} {ys : List α} (h : d.Inv W ⟨A, c, ys⟩) {tx e' : TypeId} (hk : P.underlying tx = some (.slice e')) : Src P d.sz tx (.slice A ys.length c) ys.length (ys.flatMap d.cells) W := by
  cases A with
  | none =>
    have hc := h.nil rfl
    simp only at hc
    subst hc
    have h0 : ys = [] := List.eq_nil_of_length_eq_zero (by have := h.le; simp only at this; omega)
    subst h0
    exact Src.ofNil W hk 0
  | some ad => exact Src.ofSlice W hk ad _ c _ (length_cells d ys) (h.flat ad rfl) (fun u hu => by obtain ⟨y, _, hy⟩ := List.mem_flatMap.1 hu; exact d.one y u hy)
/-- append, whatever is appended: what comes of it. -/
theorem run_append (d : Kd α) (base : Nat) (t tx ty e : TypeId) (bytes : Nat) (ht : P.underlying t = some (.slice e)) (hinfo : Info P e d.sz bytes)
    (v : Value) (row : Option Nat) (xs ys : List α) (x : Value) (hs : Src P d.sz tx x ys.length (ys.flatMap d.cells) W)
    (HO : Apd d e W base v row xs) (HY : ∀ y, y ∈ ys → d.inv W y) (HYa : ∀ y, y ∈ ys → ∀ k, k ∈ d.foot y → row ≠ some k) (hbase : base ≤ W.heap.size) (hl : (xs.length + ys.length) * bytes ≤ 140737488355328) :
    ∃ v1 w1 row1, (Builtin.append_ #[t, tx] ty #[v, x]).run P W = .ok v1 w1 ∧ Apd d e w1 base v1 row1 (xs ++ ys) ∧ Gr W w1 row row1 ∧ (ys ≠ [] ∨ Own d e W base v xs ∧ row = v.ownBlock → Own d e w1 base v1 (xs ++ ys) ∧ row1 = v1.ownBlock) := by
  obtain ⟨z, hz, hzs, hb0⟩ := hinfo
  obtain ⟨i0, hi, hzz⟩ := Option.map_eq_some_iff.1 hz
  simp only [Prod.mk.injEq] at hzz
  obtain ⟨hz0, hz1, hz2⟩ := hzz
  have hlen : xs.length + ys.length ≤ 140737488355328 := Nat.le_trans (Nat.le_mul_of_pos_right _ hb0) hl
  have hs' : Src P i0.size tx x ys.length (ys.flatMap d.cells) W := by rw [hz1]; exact hs
  by_cases hy : ys = []
  · subst hy
    have hle : ∃ A c, v = .slice A xs.length c ∧ xs.length ≤ c := by
      cases HO with
      | own h => obtain ⟨A, c, hv, hi, _⟩ := h.sl; exact ⟨A, c, hv, hi.le⟩
      | full h => exact ⟨_, _, rfl, Nat.le_refl _⟩
    obtain ⟨A, c, rfl, hc⟩ := hle
    exact ⟨_, W, row, run_append_zero W t tx ty e i0 ht hi A xs.length c x hs' hc, by simpa using HO, Gr.refl _ _, fun h => h.elim (fun h => absurd rfl h) fun h => ⟨by simpa using h.1, h.2⟩⟩
  have hy0 : 0 < ys.length := List.length_pos_iff.2 hy
  have HI : ∀ y, y ∈ xs → d.inv W y := by
    cases HO with
    | own h => exact h.inv
    | full h => exact h.inv
  -- a new row
  have grow : ∀ A c, v = .slice A xs.length c → c < xs.length + ys.length → (∀ b, A = some b → ∀ j u, (xs.flatMap d.cells)[j]? = some u → W.cell? (b.add j) = some u) → (A = none → xs = []) →
      ∃ v1 w1 row1, (Builtin.append_ #[t, tx] ty #[v, x]).run P W = .ok v1 w1 ∧ Apd d e w1 base v1 row1 (xs ++ ys) ∧ Gr W w1 row row1 ∧ (ys ≠ [] ∨ Own d e W base v xs ∧ row = v.ownBlock → Own d e w1 base v1 (xs ++ ys) ∧ row1 = v1.ownBlock) := by
    intro A c hv hc holds hnone
    subst hv
    have hold : (Builtin.firstCells i0.size xs.length (.slice A xs.length c)).run P W.drew = .ok (xs.flatMap d.cells).toArray W.drew := by
      cases A with
      | none => rw [hnone rfl]; exact run_firstCells_none W.drew i0.size 0 0 c
      | some b => exact run_firstCells_some W.drew i0.size xs.length b xs.length c _ (by rw [length_cells, hz1]) (by simpa using holds b rfl)
    have hr := run_append_grow_src (P := P) W t tx ty e i0 z ht hi hz0 A xs.length c _ hold x ys.length _ hs' hc (by omega) (growslice_fits hc (by rw [hz2]; exact hl))
    have hge := grownCap_ge W (xs.length + ys.length) c e
    have hcm : grownCap W (xs.length + ys.length) c e ≤ maxLen := grownCap_le_maxLen W _ c e (by simp only [maxLen]; omega)
    have hown : Own d e (W.drew.alloc (.cells ((xs.flatMap d.cells ++ ys.flatMap d.cells).toArray ++ Builtin.zeroCells z.cells (grownCap W (xs.length + ys.length) c e - (xs.length + ys.length))) e)) base
        (.slice (some ⟨W.heap.size, 0, none⟩) (xs.length + ys.length) (grownCap W (xs.length + ys.length) c e)) (xs ++ ys) := by
      have hb : Below W.heap.size W (W.drew.alloc (.cells ((xs.flatMap d.cells ++ ys.flatMap d.cells).toArray ++ Builtin.zeroCells z.cells (grownCap W (xs.length + ys.length) c e - (xs.length + ys.length))) e)) := ((Below.refl _ _).drew).alloc (Nat.le_refl _) _
      refine ⟨⟨length_cells d _, .inr ⟨W.heap.size, _, _, by rw [List.length_append], hbase, heap_alloc_new W.drew _, by rw [List.length_append]; exact hge, hcm, ?_, ?_⟩⟩, fun y hy => ?_, fun y hy k hk => ?_⟩
      · simp only [Array.size_append, List.size_toArray, size_zeroCells, hzs, List.length_append, length_cells, ← Nat.add_mul]
        congr 1
        omega
      · rw [← length_cells, List.flatMap_append, Array.toList_append]
        exact List.take_left
      · exact d.below ((List.mem_append.1 hy).elim (HI y) (HY y)) hb
      · have := d.lt W y ((List.mem_append.1 hy).elim (HI y) (HY y)) k hk
        simp only [Value.ownBlock]
        intro he; have := Option.some.inj he; omega
    exact ⟨_, _, _, hr, .own hown, ⟨⟨rfl, rfl, rfl, by simp, fun k hk _ => heap_alloc_old W.drew _ hk⟩, .inr ⟨W.heap.size, rfl, Nat.le_refl _⟩⟩, fun _ => ⟨hown, rfl⟩⟩
  cases HO with
  | @full A0 _ HF =>
    exact grow A0 xs.length rfl (by omega) HF.flat (fun h0 => by have := HF.nil h0; simp only at this; exact List.eq_nil_of_length_eq_zero this)
  | own HO =>
    rcases HO.row.2 with ⟨rfl, h0⟩ | ⟨g, cap, cur, rfl, hbg, hg, hnc, hcm, hcs, htake⟩
    · have hx : xs = [] := List.eq_nil_of_length_eq_zero h0
      subst hx
      exact grow none 0 rfl (by simp; omega) (fun b hb => by simp at hb) (fun _ => rfl)
    · by_cases hroom : xs.length + ys.length ≤ cap
      · have hfit : xs.length * i0.size + (ys.flatMap d.cells).length ≤ cur.size := by rw [length_cells, hcs, hz1, ← Nat.add_mul]; exact Nat.mul_le_mul_right _ hroom
        have hr := run_append_room_row (P := P) W t tx ty e i0 ht hi g xs.length cap cur hg x ys.length _ hs' hroom hfit
        have hgr : W.grownBy (W.setRow g (cur.toList.take (xs.length * i0.size) ++ ys.flatMap d.cells ++ cur.toList.drop (xs.length * i0.size + (ys.flatMap d.cells).length)).toArray) (some g) := ⟨rfl, rfl, rfl, by simp, fun k _ hk => setRow_other W g k _ (fun e => hk (by simp [e]))⟩
        have hown : Own d e (W.setRow g (cur.toList.take (xs.length * i0.size) ++ ys.flatMap d.cells ++ cur.toList.drop (xs.length * i0.size + (ys.flatMap d.cells).length)).toArray) base (.slice (some ⟨g, 0, none⟩) (xs.length + ys.length) cap) (xs ++ ys) := by
          refine ⟨⟨length_cells d _, .inr ⟨g, cap, _, by rw [List.length_append], hbg, setRow_heap W g cur _ e _ hg, by rw [List.length_append]; exact hroom, hcm, ?_, ?_⟩⟩, fun y hy => ?_, fun y hy k hk => ?_⟩
          · simp only [List.size_toArray, List.length_append, List.length_take, List.length_drop, Array.length_toList]
            omega
          · rw [hz1, htake, ← length_cells, List.flatMap_append]
            exact List.take_left
          · rcases List.mem_append.1 hy with hy | hy
            · exact d.grown (HO.inv y hy) hgr fun k hk he => HO.apart y hy k hk (by simp [Value.ownBlock]; exact (Option.some.inj he).symm)
            · exact d.grown (HY y hy) hgr fun k hk he => HYa y hy k hk (by simp [Value.ownBlock]; exact (Option.some.inj he).symm)
          · rcases List.mem_append.1 hy with hy | hy
            · exact HO.apart y hy k hk
            · exact HYa y hy k hk
        exact ⟨_, _, _, hr, .own hown, ⟨hgr, .inl rfl⟩, fun _ => ⟨hown, rfl⟩⟩
      · exact grow _ cap rfl (by omega) (fun b hb j u hu => by
          obtain rfl := Option.some.inj hb
          exact HO.row.cells (g := g) rfl j u hu) (fun h => by simp at h)
end
section
variable {P : Program} {ops : Array Oper} {rest : List Oper} {o : Oper} {a : Act} {Q : Exit → Act → World → Prop} {K : Act → World → Prop} {α : Type}
/-- append at an operation: row1 is the new row's block. -/
theorem wp_append (d : Kd α) {W : World} (base : Nat) (s x : Operand) (t tx e : TypeId) (bytes : Nat)
    (ho : o.op = .call { callee := .builtin .append, args := #[s, x], argTypes := #[t, tx] })
    (ht : P.underlying t = some (.slice e)) (hinfo : Info P e d.sz bytes)
    (v : Value) (row : Option Nat) (xs ys : List α) (hs : a.eval s = v) (vx : Value) (hx : a.eval x = vx) (hsrc : Src P d.sz tx vx ys.length (ys.flatMap d.cells) W)
    (HO : Apd d e W base v row xs) (HY : ∀ y, y ∈ ys → d.inv W y) (HYa : ∀ y, y ∈ ys → ∀ k, k ∈ d.foot y → row ≠ some k) (hbase : base ≤ W.heap.size) (hl : (xs.length + ys.length) * bytes ≤ 140737488355328)
    (h : ∀ v1 w1 row1, Apd d e w1 base v1 row1 (xs ++ ys) → Gr W w1 row row1 → (ys ≠ [] ∨ Own d e W base v xs ∧ row = v.ownBlock → Own d e w1 base v1 (xs ++ ys) ∧ row1 = v1.ownBlock) → K (a.put o.dst v1) w1) : o.wp P a W K Q := by
  obtain ⟨v1, w1, row1, hr, h1, h2, h3⟩ := run_append (P := P) d base t tx o.type e bytes ht hinfo v row xs ys vx hsrc HO HY HYa hbase hl
  unfold Oper.wp execOp
  simp only [ho, resolve, invoke, builtin, Sem.run_bind, Sem.run_pure, Result.andThen_ok, List.map_toArray, List.map_cons, List.map_nil, hs, hx, hr]
  exact h v1 w1 row1 h1 h2 h3
theorem wp_append_one (d : Kd α) {W : World} (base : Nat) (s x : Operand) (t e : TypeId) (bytes : Nat)
    (ho : o.op = .call { callee := .builtin .append, args := #[s, x], argTypes := #[t, t] })
    (ht : P.underlying t = some (.slice e)) (hinfo : Info P e d.sz bytes)
    (v : Value) (row : Option Nat) (xs : List α) (y : α) (cs : Array Value) (hs : a.eval s = v) (g : Nat) (hx : a.eval x = .slice (some ⟨g, 0, none⟩) 1 1)
    (hg : W.heap[g]? = some (.cells cs e (0, 0))) (hcs : (d.cells y).toArray = cs)
    (HO : Apd d e W base v row xs) (HY : d.inv W y) (HYa : ∀ k, k ∈ d.foot y → row ≠ some k) (hbase : base ≤ W.heap.size) (hl : (xs.length + 1) * bytes ≤ 140737488355328)
    (h : ∀ v1 w1, Own d e w1 base v1 (xs ++ [y]) → Gr W w1 row v1.ownBlock → K (a.put o.dst v1) w1) : o.wp P a W K Q := by
  subst hcs
  refine wp_append d base s x t t e bytes ho ht hinfo v row xs [y] hs _ hx ?_ HO (fun z hz => by simp at hz; subst hz; exact HY) (fun z hz => by simp at hz; subst hz; exact HYa) hbase hl ?_
  · have := World.news_of_block (cs := (d.cells y).toArray) (t := e) (fr := (0, 0)) hg
    exact Src.ofSlice W ht _ 1 1 _ (by rw [length_cells]; rfl) (by simpa using this) (fun u hu => by simp at hu; exact d.one y u hu)
  · intro v1 w1 row1 _ h2 h3
    obtain ⟨h4, rfl⟩ := h3 (.inl (by simp))
    exact h v1 w1 h4 h2
/-- append(v, x), in a list of operations; the goal's world is 'W.alloc' of the variadic's box. -/
theorem append_one (d : Kd α) {W : World} (base : Nat) (hgd : o.guard = none) (s x : Operand) (t e : TypeId) (bytes : Nat)
    (ho : o.op = .call { callee := .builtin .append, args := #[s, x], argTypes := #[t, t] })
    (ht : P.underlying t = some (.slice e)) (hinfo : Info P e d.sz bytes)
    (v : Value) (row : Option Nat) (xs : List α) (y : α) (cs : Array Value) (hcs : (d.cells y).toArray = cs) (hs : a.eval s = v) (g : Nat) (hx : a.eval x = .slice (some ⟨g, 0, none⟩) 1 1) (hgW : g = W.heap.size)
    (HO : Apd d e W base v row xs) (HY : d.inv W y) (HYa : ∀ k, k ∈ d.foot y → row ≠ some k) (hbase : base ≤ W.heap.size) (hl : (xs.length + 1) * bytes ≤ 140737488355328)
    (h : ∀ v1 w1, Own d e w1 base v1 (xs ++ [y]) → Gr W w1 row v1.ownBlock → wpList P ops Q rest (a.put o.dst v1) w1) :
    wpList P ops Q (o :: rest) a (W.alloc (.cells cs e)) := by
  subst hgW
  have hbw : Below W.heap.size W (W.alloc (.cells cs e)) := (Below.refl _ _).alloc (Nat.le_refl _) _
  exact wpList_plain hgd fun _ hK => wp_append_one d base s x t e bytes ho ht hinfo v row xs y cs hs _ hx (heap_alloc_new W _) hcs (HO.below hbw) (d.below HY hbw) HYa (by simp; omega) hl
    fun v1 w1 ho1 hg => hK _ _ (h v1 w1 ho1 ((Gr.of_below row hbw).trans hg))
/-- append(v, ys...), in a list of operations. -/
theorem append_all (d : Kd α) {W : World} (base : Nat) (hgd : o.guard = none) (s x : Operand) (t tx e : TypeId) (bytes : Nat)
    (ho : o.op = .call { callee := .builtin .append, args := #[s, x], argTypes := #[t, tx] })
    (ht : P.underlying t = some (.slice e)) (hinfo : Info P e d.sz bytes)
    (v : Value) (row : Option Nat) (xs ys : List α) (hs : a.eval s = v) (vx : Value) (hx : a.eval x = vx) (hsrc : Src P d.sz tx vx ys.length (ys.flatMap d.cells) W)
    (HO : Apd d e W base v row xs) (HY : ∀ y, y ∈ ys → d.inv W y) (HYa : ∀ y, y ∈ ys → ∀ k, k ∈ d.foot y → row ≠ some k) (hbase : base ≤ W.heap.size) (hl : (xs.length + ys.length) * bytes ≤ 140737488355328)
    (h : ∀ v1 w1 row1, Apd d e w1 base v1 row1 (xs ++ ys) → Gr W w1 row row1 → (ys ≠ [] ∨ Own d e W base v xs ∧ row = v.ownBlock → Own d e w1 base v1 (xs ++ ys) ∧ row1 = v1.ownBlock) → wpList P ops Q rest (a.put o.dst v1) w1) :
    wpList P ops Q (o :: rest) a W :=
  wpList_plain hgd fun _ hK => wp_append d base s x t tx e bytes ho ht hinfo v row xs ys hs vx hx hsrc HO HY HYa hbase hl fun v1 w1 r1 h1 h2 h3 => hK _ _ (h v1 w1 r1 h1 h2 h3)
/-- As one step of a region that draws its order. -/
theorem step_of_wp {E : Prop} {W : World} (hgd : o.guard = none) (h : o.wp P a W K Q) : if Region.wanted o (yielded ops a.tmps) = true then o.wp P a W K Q else E := by
  rw [if_pos (by simp [Region.wanted, hgd])]; exact h
end

/-- A block that is known whole is a slice that is read. -/
theorem lit_inv {α : Type} (d : Kd α) {W : World} {g : Nat} {cs : Array Value} {e : TypeId} {fr : Nat × Nat} (xs : List α) (hg : W.heap[g]? = some (.cells cs e fr)) (hcs : (xs.flatMap d.cells).toArray = cs) (hi : ∀ x, x ∈ xs → d.inv W x) (hl : xs.length ≤ 9223372036854775807) :
    d.Inv W ⟨some ⟨g, 0, none⟩, xs.length, xs⟩ := by
  subst hcs
  refine ⟨Nat.le_refl _, hl, fun h => by simp at h, fun _ => ⟨g, 0, rfl, fun i x hx j u hu => ?_⟩, hi⟩
  rw [cell_of_row W g _ _ _ _ hg, Nat.zero_add]
  simpa using getElem_cells d xs i j x u hx hu
end Go.Proofs.Ytndlhmnablefpaa

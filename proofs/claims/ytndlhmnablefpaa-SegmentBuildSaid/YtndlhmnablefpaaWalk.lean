/- How a walk speaks of calls and worlds: answers, what a call leaves as it was, loops over lists. No program in sight. -/
import Derived.Test.YtndlhmnablefpaaData
import Derived.StillTailTactics
import Derived.Deep.RegionHeld3
import Derived.IntWalk
namespace Go.Proofs.Ytndlhmnablefpaa
open Go.RowKit

/-- The call answers v, and of what was there nothing has turned. -/
def Ans (P : Program) (f : FuncId) (args : Array Value) (w : World) (v : Value) : Prop := Calls P f args w fun e w' => e = .returned v ∧ Below w.heap.size w w'
/-- The call answers a value of which R tells. -/
def AnsR (P : Program) (f : FuncId) (args : Array Value) (w : World) (R : Value → World → Prop) : Prop := Calls P f args w fun e w' => ∃ v, e = .returned v ∧ R v w' ∧ Below w.heap.size w w'
def AnsPost (w : World) (R : Value → World → Prop) (e : Ending) (w' : World) : Prop := ∃ v, e = .returned v ∧ R v w' ∧ Below w.heap.size w w'
theorem AnsR.of {P : Program} {f : FuncId} {args : Array Value} {w : World} {R : Value → World → Prop} (h : Calls P f args w (AnsPost w R)) : AnsR P f args w R := h
theorem AnsPost.mk {w w' : World} {R : Value → World → Prop} {v : Value} (h : R v w') (hb : Below w.heap.size w w') : AnsPost w R (.returned v) w' := ⟨v, rfl, h, hb⟩
theorem Ans.eq {P : Program} {f : FuncId} {args : Array Value} {w : World} {v v' : Value} (h : Ans P f args w v) (e : v = v') : Ans P f args w v' := e ▸ h
theorem ret_bool {a b : Bool} (h : a = b) : Ending.returned (.bool a) = .returned (.bool b) := by rw [h]
theorem ret_i64 {a b : Int} (h : a = b) : Ending.returned (.int .i64 a) = .returned (.int .i64 b) := by rw [h]
theorem below_refl (w : World) : Below w.heap.size w w := Below.refl _ _
theorem below_a {B : Nat} {w W : World} (h : Below B w W) (hB : B ≤ w.heap.size) (o : Obj) : Below B w (W.alloc o) := h.alloc (Nat.le_trans hB h.size) o

/-! lists -/
theorem all_succ {α : Type} (l : List α) (p : α → Bool) (k : Nat) (hk : k < l.length) : (l.take (k + 1)).all p = ((l.take k).all p && p l[k]) := by
  rw [List.take_succ_eq_append_getElem hk, List.all_append]; simp
theorem all_no {α : Type} (l : List α) (p : α → Bool) (k : Nat) (hk : k < l.length) (h : p l[k] = false) : l.all p = false := by
  rw [Bool.eq_false_iff]; intro ha; rw [List.all_eq_true] at ha; rw [ha _ (List.getElem_mem hk)] at h; exact absurd h (by simp)
theorem all_end {α : Type} {l : List α} {p : α → Bool} {k : Nat} (h : (l.take k).all p = true) (hk : l.length ≤ k) : l.all p = true := by rwa [List.take_of_length_le hk] at h

/-- What was there reads as it did. -/
theorem bcell {W w1 : World} (hb : Below W.heap.size W w1) : ∀ b o, b < W.heap.size → w1.cell? ⟨b, o, none⟩ = W.cell? ⟨b, o, none⟩ := fun b o h => hb.cell (p := ⟨b, o, none⟩) h
theorem bcellB {B : Nat} {W w1 : World} (hb : Below B W w1) : ∀ b o, b < B → w1.cell? ⟨b, o, none⟩ = W.cell? ⟨b, o, none⟩ := fun b o h => hb.cell (p := ⟨b, o, none⟩) h
theorem bfroz {W w1 : World} (hb : Below W.heap.size W w1) : ∀ b o, b < W.heap.size → w1.frozen? ⟨b, o, none⟩ = W.frozen? ⟨b, o, none⟩ := fun b o h => hb.frozen (p := ⟨b, o, none⟩) h
theorem no_of {b : Bool} (h : (!b) = true) : b = false := by simpa using h
theorem yes_of {b : Bool} (h : (!b) = false) : b = true := by simpa using h
theorem all_step {α : Type} {l : List α} {p : α → Bool} {k : Nat} (hk : k < l.length) (h : Hid ((l.take k).all p = true)) (hp : p l[k] = true) : Hid ((l.take (k + 1)).all p = true) := by
  show _ = true
  rw [all_succ _ _ _ hk, h.out, hp]; rfl

/-- What sizes of heaps come to. -/
theorem szle {a b : Nat} (h : a ≤ b := by first | omega | (simp [World.drew]; done) | (simp [World.drew]; omega)) : a ≤ b := h
theorem szlt {a b : Nat} (h : a < b := by first | omega | (simp [World.drew]; done) | (simp [World.drew]; omega)) : a < b := h
/-- W is w with new blocks; what was there is as it was. -/
structure BW (w W : World) : Prop where
  out : Below w.heap.size w W
theorem BW.refl (w : World) : BW w w := ⟨Below.refl _ _⟩
theorem BW.alloc {w W : World} (h : BW w W) (o : Obj) : BW w (W.alloc o) := ⟨h.out.alloc h.out.size o⟩
theorem BW.drew {w W : World} (h : BW w W) : BW w W.drew := ⟨h.out.drew⟩
theorem BW.drewN {w W : World} (h : BW w W) (n : Nat) : BW w (W.drewN n) := ⟨below_drewN h.out n⟩
theorem BW.trans {w W V : World} (h : BW w W) (k : BW W V) : BW w V := ⟨h.out.trans (k.out.mono h.out.size)⟩
theorem BW.setCell {w W : World} (h : BW w W) {p : Addr} (hp : w.heap.size ≤ p.block) (v : Value) : BW w (W.setCell p v) := ⟨h.out.setCell hp v⟩
/-- Behind a call. -/
theorem BW.next {w W' w2 : World} (hb : Below W'.heap.size W' w2) (h : BW w W' := by (repeat (first | assumption | apply BW.alloc | apply BW.drewN | apply BW.drew | exact BW.refl _))) : BW w w2 := h.trans ⟨hb⟩
/-- At the end. -/
theorem BW.fin {w W : World} (h : BW w W := by (repeat (first | assumption | apply BW.alloc | apply BW.drewN | apply BW.drew | exact BW.refl _))) : Below w.heap.size w W := h.out
/-- A block that was there is still there. -/
theorem ltn {W w1 : World} (hb : Below W.heap.size W w1) {k : Nat} (h : k < W.heap.size := by (first | assumption | (simp; done) | (simp; omega))) : k < w1.heap.size := Nat.lt_of_lt_of_le h hb.size
/-- What a walk must be told of 'k - 1' as an index. -/
theorem idx_pred {k n : Nat} (h0 : 0 < k) (hk : k < n) (hn : n ≤ 9223372036854775807) : IntKind.i64.wrap ((k : Int) - 1) = (k : Int) - 1 ∧ 0 ≤ (k : Int) - 1 ∧ (1 : Int) ≤ (k : Int) ∧ (k : Int) - 1 < (n : Int) ∧ ((k : Int) - 1).toNat = k - 1 :=
  ⟨IntWalk.i64_in _ (by omega), by omega, by omega, by omega, by omega⟩
theorem Gr.of_own {α : Type} {d : Kd α} {e : TypeId} {w W : World} {v : Value} {xs : List α} (h : BW w W) (ho : Own d e W w.heap.size v xs) : Gr w W none v.ownBlock := by
  refine ⟨grownBy_below h.out none, ?_⟩
  cases hv : v.ownBlock with
  | none => exact .inl rfl
  | some b => exact .inr ⟨b, rfl, (ho.base_le b hv).1⟩
/-- A byte leads nowhere. -/
theorem nofoot {y : UInt8} {row : Option Nat} : ∀ k, k ∈ kByte.foot y → row ≠ some k := fun k hk => by simp [kByte, Kd.flat] at hk
theorem nofoots {ys : List UInt8} {row : Option Nat} : ∀ y, y ∈ ys → ∀ k, k ∈ kByte.foot y → row ≠ some k := fun _ _ => nofoot
theorem heap_new {W : World} {o : Obj} {g : Nat} (hg : g = W.heap.size) : (W.alloc o).heap[g]? = some o := by subst hg; exact heap_alloc_new W o
theorem heap_new_drew {W : World} {o : Obj} {g : Nat} (hg : g = W.heap.size) : ((W.alloc o).drew).heap[g]? = some o := heap_new hg
theorem heap_new_drewN {W : World} {o : Obj} {g n : Nat} (hg : g = W.heap.size) : ((W.alloc o).drewN n).heap[g]? = some o := heap_new hg
/-- From w to W the row alone has been written: found among the facts at hand. -/
theorem Gr.fin {w W : World} {r r' : Option Nat} (h : Gr w W r r' := by (repeat (first | assumption | apply Gr.alloc | apply Gr.drewN | apply Gr.drew | exact Gr.refl _ _))) : Gr w W r r' := h
end Go.Proofs.Ytndlhmnablefpaa

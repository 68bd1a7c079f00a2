/- The program's data as plain Lean data, and what it asks of them: values, rows, periods, versions, their order. No program in sight. -/
import Derived.Test.YtndlhmnablefpaaBase
namespace Go.Proofs.Ytndlhmnablefpaa
open Go.RowKit

/-- api.Value -/
structure Vl where
  k : Int
  n : Int
  t : ByteArray
/-- api.Version, as data -/
structure PVer where
  id : Int
  sch : Int
  row : List Vl
  vf : Int
  vt : Int
  sf : Int
  st : Int
  by' : Int
  un : Int
/-- api.Version, with where its row lies -/
structure Ver where
  p : PVer
  A : Option Addr
  c : Nat
def Ver.rowS (x : Ver) : Sl Vl := ⟨x.A, x.c, x.p.row⟩
def Vl.cells (x : Vl) : List Value := [.int .i64 x.k, .int .i64 x.n, .string x.t]
def Ver.cells (x : Ver) : List Value := [.int .i64 x.p.id, .int .i64 x.p.sch, .slice x.A x.p.row.length x.c, .int .i64 x.p.vf, .int .i64 x.p.vt, .int .i64 x.p.sf, .int .i64 x.p.st, .int .i64 x.p.by', .int .i64 x.p.un]
def kVl : Kd Vl := Kd.flat 3 Vl.cells (by decide) (fun _ => rfl) (fun x v h => by simp [Vl.cells] at h; rcases h with rfl | rfl | rfl <;> rfl)
def kVer : Kd Ver where
  sz := 9
  cells := Ver.cells
  foot x := x.rowS.foot kVl
  inv w x := kVl.Inv w x.rowS
  pos := by decide
  hsz _ := rfl
  one x v h := by simp [Ver.cells] at h; rcases h with rfl | rfl | rfl | rfl | rfl | rfl | rfl | rfl | rfl <;> rfl
  lt w s h := h.lt
  move w w' s h hm := h.move hm

def maxNumber : Int := 1125899906842624
def forever : Int := 1099511627776
def printable (l : List UInt8) : Bool := l.all fun c => decide (32 ≤ c.toNat) && decide (c.toNat ≤ 126)
def okVal (v : Vl) : Bool :=
  if v.k == 0 then v.n == 0 && v.t.toList.isEmpty
  else if v.k == 1 then v.t.toList.isEmpty && (decide (-1125899906842624 ≤ v.n) && decide (v.n ≤ 1125899906842624))
  else if v.k == 2 then v.n == 0 && (decide (v.t.size ≤ 200) && printable v.t.data.toList)
  else if v.k == 3 then v.t.toList.isEmpty && (v.n == 0 || v.n == 1)
  else false
def okRow (r : List Vl) : Bool := decide (r.length ≤ 12) && r.all okVal
def okPer (a b : Int) : Bool := decide (0 ≤ a) && (decide (a < b) && decide (b ≤ 1099511627776))
def within (n a b : Int) : Bool := decide (a ≤ n) && decide (n ≤ b)
def okVer (v : PVer) : Bool :=
  within v.id 1 1125899906842624 && (within v.by' 1 1125899906842624 && (within v.sch 0 64 && (okRow v.row && (okPer v.vf v.vt && (okPer v.sf v.st && within v.un 0 1125899906842624)))))
/-- a comes ahead of b -/
def before (a b : PVer) : Bool :=
  if a.id != b.id then decide (a.id < b.id) else if a.sf != b.sf then decide (a.sf < b.sf) else decide (a.vf < b.vf)
def ahead : Option PVer → PVer → Bool
  | some q, v => before q v
  | none, _ => true
/-- The first error of a list of versions: 8 invalid, 9 not in order. -/
def chk (ok : PVer → Bool) (p : Option PVer) : List PVer → Int
  | [] => 0
  | v :: vs => if ok v = false then 8 else if ahead p v = false then 9 else chk ok (some v) vs
def prevAt (l : List PVer) (k : Nat) : Option PVer := if k = 0 then none else l[k - 1]?
theorem chk_cons (ok : PVer → Bool) (p : Option PVer) (v : PVer) (vs : List PVer) : chk ok p (v :: vs) = if ok v = false then 8 else if ahead p v = false then 9 else chk ok (some v) vs := rfl
theorem chk_bad {ok : PVer → Bool} {l : List PVer} {k : Nat} (hk : k < l.length) (h : chk ok none l = chk ok (prevAt l k) (l.drop k)) (hb : ok l[k] = false) : chk ok none l = 8 := by
  rw [h, List.drop_eq_getElem_cons hk, chk_cons, if_pos hb]
theorem prevAt_pos {l : List PVer} {k : Nat} (h0 : 0 < k) (hk : k ≤ l.length) : prevAt l k = some (l[k - 1]'(by omega)) := by
  rw [prevAt, if_neg (by omega), List.getElem?_eq_getElem (by omega)]
theorem chk_order {ok : PVer → Bool} {l : List PVer} {k : Nat} (hk : k < l.length) (h : chk ok none l = chk ok (prevAt l k) (l.drop k)) (hb : ok l[k] = true) (h0 : 0 < k) (ho : before l[k - 1] l[k] = false) : chk ok none l = 9 := by
  rw [h, List.drop_eq_getElem_cons hk, chk_cons, if_neg (by simp [hb]), prevAt_pos h0 (by omega), ahead, if_pos ho]
theorem chk_next {ok : PVer → Bool} {l : List PVer} {k : Nat} (hk : k < l.length) (h : chk ok none l = chk ok (prevAt l k) (l.drop k)) (hb : ok l[k] = true) (ho : (h : 0 < k) → before l[k - 1] l[k] = true) : chk ok none l = chk ok (prevAt l (k + 1)) (l.drop (k + 1)) := by
  rw [h, List.drop_eq_getElem_cons hk, chk_cons, if_neg (by simp [hb]), prevAt_pos (l := l) (k := k + 1) (by omega) (by omega)]
  have : ahead (prevAt l k) l[k] = true := by
    by_cases h0 : k = 0
    · subst h0; rfl
    · rw [prevAt_pos (by omega) (by omega)]; exact ho (by omega)
  rw [if_neg (by simp [this])]
  rfl
theorem chk_end {ok : PVer → Bool} {l : List PVer} {k : Nat} (hk : l.length ≤ k) (h : chk ok none l = chk ok (prevAt l k) (l.drop k)) : chk ok none l = 0 := by
  rw [h, List.drop_of_length_le hk]; rfl

def cmpI (a b : Int) : Int := if a < b then -1 else if b < a then 1 else 0
/-- The order of versions: negative, 0 or positive. -/
def ord (a b : PVer) : Int := if cmpI a.id b.id ≠ 0 then cmpI a.id b.id else if cmpI a.sf b.sf ≠ 0 then cmpI a.sf b.sf else cmpI a.vf b.vf
theorem ord_before (a b : PVer) : (decide (0 ≤ ord a b)) = !before a b := by
  unfold ord before cmpI
  simp only [bne_iff_ne]
  repeat' split
  all_goals simp at *
  all_goals omega
end Go.Proofs.Ytndlhmnablefpaa

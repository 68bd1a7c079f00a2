/- Facts of the segment's laws: the size of a file of few versions, the example. No function in sight. -/
import Derived.Test.YtndlhmnablefpaaSegP
import Derived.Test.YtndlhmnablefpaaSegM
import Derived.Test.YtndlhmnablefpaaSml
namespace Go.Proofs.Ytndlhmnablefpaa
open Go.RowKit
set_option linter.unusedSimpArgs false
set_option linter.unusedVariables false
theorem frames_len : ∀ (bs : List (List PVer)), (∀ x, x ∈ bs → ∀ v, v ∈ x → okVer v = true) → (∀ x, x ∈ bs → x.length ≤ 4096) → (bs.flatMap fun x => frameOf (encVers x)).length ≤ bs.length * 18 + bs.flatten.length * 2622
  | [], _, _ => by simp
  | x :: t, h, h2 => by
    have ih := frames_len t (fun y hy => h y (by simp [hy])) fun y hy => h2 y (by simp [hy])
    have h1 := encInt_len (I64.nat (n := x.length) (by have := h2 x (by simp); omega))
    have h3 := flatMap_len encVer 2622 x fun v hv => encVer_len (h x (by simp) v hv)
    have h4 := frameOf_len (encVers x)
    have h5 : (encVers x).length = (encInt (x.length : Int)).length + (x.flatMap encVer).length := by simp [encVers]
    rw [List.flatMap_cons, List.length_append, List.flatten_cons, List.length_append, List.length_cons, Nat.add_mul, Nat.add_mul]
    omega
theorem chunks_in {l : List PVer} {n : Nat} (hn : 0 < n) : ∀ x, x ∈ chunks n l → ∀ v, v ∈ x → v ∈ l := fun x hx v hv => by
  rw [← chunks_flat hn _ l (Nat.le_refl _)]
  exact List.mem_flatten.2 ⟨x, hx, hv⟩
theorem chunks_few {l : List PVer} {n : Nat} (hn : 0 < n) : (chunks n l).length ≤ l.length := by
  rw [chunks_len hn _ l (Nat.le_refl _), Nat.div_le_iff_le_mul_add_pred hn]
  have := Nat.mul_le_mul_right l.length hn
  rw [Nat.one_mul] at this
  omega
/-- A file of few versions is small. -/
theorem segBuild_len {t : List UInt8} {l : List PVer} {size : Int} {b : List UInt8} (h : segBuild t l size = (b, 0)) (hl : l.length ≤ 100) : b.length ≤ 1000000 := by
  have hB := segBuild_ok h
  have hn : 0 < size.toNat := by have := hB.lo; omega
  have hok := hB.okAll
  have h1 := frames_len (chunks size.toNat l) (fun x hx v hv => hok v (chunks_in hn x hx v hv)) fun x hx => by
    have := (chunks_ne hn _ l (Nat.le_refl _) x hx).2.2
    omega
  rw [chunks_flat hn _ l (Nat.le_refl _)] at h1
  have h2 := chunks_few (l := l) hn
  have h3 := okName_len hB.name
  have h4 := encInt_len (I64.nat (n := t.length) (by omega))
  have h5 := encInt_len (I64.nat (n := l.length) (by omega))
  have h6 := encInt_len (I64.nat (n := (chunks size.toNat l).length) (by omega))
  have h7 := flatMap_len (fun x => encRc (bnd x)) 40 (chunks size.toNat l) fun x hx => encRc_len (hB.rects x hx)
  have h8 := frameOf_len (encHead t l.length (chunks size.toNat l))
  have h9 : (encHead t l.length (chunks size.toNat l)).length = ((encInt (t.length : Int)).length + t.length) + ((encInt (l.length : Int)).length + ((encInt ((chunks size.toNat l).length : Int)).length + ((chunks size.toNat l).flatMap fun x => encRc (bnd x)).length)) := by
    unfold encHead encText
    simp only [List.length_append]
  rw [hB.body, List.length_append]
  omega
theorem empty_bytes : ((⟨#[]⟩ : ByteArray).toList.isEmpty) = true := by
  have h := @decide_eq_emptyBytes (⟨#[]⟩ : ByteArray) (Classical.propDecidable _)
  rw [← h]
  exact @decide_eq_true _ (Classical.propDecidable _) rfl
theorem okVer_v37 (id f t : Int) : okVer (v37 id f t) = (within id 1 1125899906842624 && okPer f t) := by
  have h1 : okVal ⟨1, id, ⟨#[]⟩⟩ = (decide (-1125899906842624 ≤ id) && decide (id ≤ 1125899906842624)) := by
    unfold okVal
    simp only [empty_bytes]
    rfl
  have h2 : okRow [⟨1, id, ⟨#[]⟩⟩] = (decide (-1125899906842624 ≤ id) && decide (id ≤ 1125899906842624)) := by
    unfold okRow
    simp only [List.all_cons, List.all_nil, h1, Bool.and_true]
    rfl
  unfold okVer v37
  simp only [h2]
  rw [Bool.eq_iff_iff]
  unfold within
  simp only [Bool.and_eq_true, decide_eq_true_eq, okPer_iff]
  omega
def ex37 : List PVer := [v37 1 0 4, v37 2 2 6, v37 3 8 9]
theorem ex37_chk : chk okStored none ex37 = 0 := by
  have h1 : okStored (v37 1 0 4) = true := by unfold okStored; rw [okVer_v37]; decide
  have h2 : okStored (v37 2 2 6) = true := by unfold okStored; rw [okVer_v37]; decide
  have h3 : okStored (v37 3 8 9) = true := by unfold okStored; rw [okVer_v37]; decide
  unfold ex37
  rw [chk_cons, h1, chk_cons, h2, chk_cons, h3]
  rfl
theorem ex37_err : (segBuild [116] ex37 2).2 = 0 := segBuild_few (by decide) (by decide) (by decide) ex37_chk (by decide)
theorem ex37_bad : segBuild [116] [v37 1 0 1099511627776] 2 = ([], 8) := by
  have h1 : okStored (v37 1 0 1099511627776) = false := by unfold okStored; simp [v37]
  have hc : chk okStored none [v37 1 0 1099511627776] = 8 := by rw [chk_cons, h1]; rfl
  unfold segBuild
  rw [if_neg (by decide), if_neg (by decide), hc]
  rfl
theorem ex37_chunks : chunks 2 ex37 = [[v37 1 0 4, v37 2 2 6], [v37 3 8 9]] := rfl
theorem ex37_open : segOpen (segBuild [116] ex37 2).1 = .ok ([116], chunks 2 ex37) := by
  have h := segOpen_build (t := [116]) (l := ex37) (size := 2) (b := (segBuild [116] ex37 2).1) (Prod.ext rfl ex37_err) (by decide)
  exact h
theorem ex37_search : segSearch (chunks 2 ex37) ⟨0, 1099511627776, 7, 9⟩ = ([v37 3 8 9], 1) := by
  rw [ex37_chunks]
  rfl
/-- What the segment's methods ask of the blocks. -/
structure SegOk (bs : List (List PVer)) : Prop where
  ok : ∀ x, x ∈ bs → ∀ v, v ∈ x → okVer v = true
  len : bs.flatten.length ≤ 1000000
  num : bs.length ≤ 1000000
theorem SegOk.rows {s : List (Sl Ver)} (h : SegOk (bl s)) : ∀ x, x ∈ s → ∀ v, v ∈ x.xs → v.p.row.length * 32 ≤ 140737488355328 := fun x hx v hv => by
  have h1 := h.ok (pv x.xs) (List.mem_map_of_mem hx) v.p (List.mem_map_of_mem hv)
  have h2 := (okRow_all (okVer_parts h1).row).1
  omega
theorem SegOk.flat {s : List (Sl Ver)} (h : SegOk (bl s)) : (s.flatMap (·.xs)).length ≤ 1000000 := by
  have h1 := h.len
  rw [bl_flat] at h1
  simpa [pv] using h1
theorem SegOk.count {s : List (Sl Ver)} (h : SegOk (bl s)) : s.length ≤ 1000000 := by
  have h1 := h.num
  rwa [bl_len] at h1
theorem segOk_chunks {l : List PVer} {n : Nat} (hn : 0 < n) (h : chk okStored none l = 0) (hl : l.length ≤ 1000) : SegOk (chunks n l) :=
  ⟨fun x hx v hv => okStored_ok (chk_all l none h v (chunks_in hn x hx v hv)), by rw [chunks_flat hn _ l (Nat.le_refl _)]; omega, by have := chunks_few (l := l) hn; omega⟩
end Go.Proofs.Ytndlhmnablefpaa

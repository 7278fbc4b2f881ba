/-
  A part of the proof of FireMay: EvSem. No condition.
-/
import Derived.Test.YthhbpkpnhpdeoaaGreatDoorEvMem
import Derived.Laws.Cells
namespace Go.Ev
open Go

theorem add_none (c o n : Nat) : (⟨c, o, none⟩ : Addr).add n = ⟨c, o + n, none⟩ := by
  unfold Addr.add
  split
  · rename_i h; subst h; rfl
  · rfl

theorem cell_of {w : World} {c : Nat} {arr : Array Value} {e : TypeId} {fr : Nat × Nat} (h : w.heap[c]? = some (.cells arr e fr)) (i : Nat) :
    w.cell? ⟨c, i, none⟩ = arr.toList[i]? := by
  simp [World.cell?, h]

theorem run_loadCells_at (P : Program) {w : World} {c o n : Nat} {arr : Array Value} {e : TypeId} {fr : Nat × Nat} (h : w.heap[c]? = some (.cells arr e fr))
    (hn : n ≤ (arr.toList.drop o).length) : (loadCells ⟨c, o, none⟩ n).run P w = .ok ((arr.toList.drop o).take n).toArray w := by
  have := run_loadCells_list (P := P) w ⟨c, o, none⟩ ((arr.toList.drop o).take n) (fun j v hj => by
    rw [add_none, cell_of h]
    rw [List.getElem?_take] at hj
    split at hj
    · rw [List.getElem?_drop] at hj; exact hj
    · cases hj)
  rwa [List.length_take, Nat.min_eq_left hn] at this

/-- is it the value of one cell? -/
def one (v : Value) : Bool := v.oneCell'

theorem V1.one {ρ : Rn} {v v' : Value} (h : V1 ρ v v') : v'.oneCell' = v.oneCell' := by
  cases h <;> rfl

theorem VR.ones {ρ : Rn} : ∀ {l l' : List Value}, VR ρ l l' → (∀ v ∈ l, v.oneCell' = true) → ∀ v ∈ l', v.oneCell' = true
  | [], _, h, _ => by cases h; simp
  | x :: t, _, h, ho => by
    obtain ⟨v', t', rfl, hv, ht⟩ := h.uncons
    intro v hm
    rcases List.mem_cons.1 hm with rfl | hm
    · rw [hv.one]; exact ho x (by simp)
    · exact VR.ones ht (fun y hy => ho y (by simp [hy])) v hm

theorem setCell_heap (w : World) (c i : Nat) (v : Value) (arr : Array Value) (e : TypeId) (fr : Nat × Nat) (h : w.heap[c]? = some (.cells arr e fr)) :
    (w.setCell ⟨c, i, none⟩ v).heap[c]? = some (.cells (arr.setIfInBounds i v) e fr) := by
  simp [World.setCell, Array.getElem?_modify, h]
theorem setCell_other (w : World) (c i : Nat) (v : Value) (c' : Nat) (h : c' ≠ c) : (w.setCell ⟨c, i, none⟩ v).heap[c']? = w.heap[c']? := by
  simp [World.setCell, Array.getElem?_modify, h.symm]
theorem setCell_size (w : World) (a : Addr) (v : Value) : (w.setCell a v).heap.size = w.heap.size := by
  simp [World.setCell]

theorem run_storeCells_any (P : Program) (c o : Nat) (e : TypeId) (fr : Nat × Nat) : ∀ (vs : List Value) (i : Nat) (arr : Array Value) (w : World),
    w.heap[c]? = some (.cells arr e fr) → (∀ j, j < arr.size → w.frozen? ⟨c, j, none⟩ = false) → o + i + vs.length ≤ arr.size → (∀ v ∈ vs, v.oneCell' = true) →
    ∃ w', (storeCells ⟨c, o, none⟩ vs i).run P w = .ok () w' ∧
      w'.heap[c]? = some (.cells (arr.toList.take (o + i) ++ vs ++ arr.toList.drop (o + i + vs.length)).toArray e fr) ∧
      (∀ c', c' ≠ c → w'.heap[c']? = w.heap[c']?) ∧ w'.heap.size = w.heap.size ∧ w'.os = w.os ∧ w'.output = w.output ∧ w'.tape = w.tape
  | [], i, arr, w, h, _, hl, _ => ⟨w, by simp [storeCells], by simp [h], fun _ _ => rfl, rfl, rfl, rfl, rfl⟩
  | v :: vs, i, arr, w, h, hf, hl, ho => by
    have hi : o + i < arr.size := by simp at hl; omega
    have hcell : w.cell? ⟨c, o + i, none⟩ = some arr[o + i] := by rw [cell_of h]; simp [hi]
    have hst : (store ⟨c, o + i, none⟩ v).run P w = .ok () (w.setCell ⟨c, o + i, none⟩ v) := by
      rw [run_store P w _ v .plain (ho v (by simp))]
      simp [hcell, hf (o + i) hi]
    have h2 := setCell_heap w c (o + i) v arr e fr h
    obtain ⟨w', h3, h4, h5, h6, h7, h8⟩ := run_storeCells_any P c o e fr vs (i + 1) (arr.setIfInBounds (o + i) v) (w.setCell ⟨c, o + i, none⟩ v) h2
      (fun j hj => by
        have := hf j (by simpa using hj)
        unfold World.frozen? at *
        rw [h2]; rw [h] at this
        exact this)
      (by simp at hl ⊢; omega) (fun x hx => ho x (by simp [hx]))
    refine ⟨w', ?_, ?_, fun c' hc' => (h5 c' hc').trans (setCell_other w c _ v c' hc'), h6.trans (setCell_size w _ _), h7, h8⟩
    · simp only [storeCells, Sem.run_bind, add_none, hst, Result.andThen_ok, h3]
    · rw [h4]
      refine congrArg (fun l : List Value => some (Obj.cells l.toArray e fr)) ?_
      apply List.ext_getElem?
      intro k
      simp only [Array.toList_setIfInBounds, List.getElem?_append, List.getElem?_take, List.getElem?_drop, List.getElem?_set, List.length_append, List.length_take, List.length_set, List.length_cons, Array.length_toList]
      have e1 : min (o + (i + 1)) arr.size = o + i + 1 := by omega
      have e2 : min (o + i) arr.size = o + i := by omega
      rw [e1, e2]
      by_cases hk : k < o + i
      · simp only [show k < o + i + 1 + vs.length by omega, show k < o + i + 1 by omega, show k < o + (i + 1) by omega, show ¬ o + i = k by omega, show k < o + i + (vs.length + 1) by omega, hk, if_true, if_false]
      · by_cases hk2 : k = o + i
        · subst hk2
          simp [show o + i < o + (i + 1) by omega, show o + i < o + i + 1 + vs.length by omega, hi, show o + i < o + i + (vs.length + 1) by omega]
        · by_cases hk3 : k < o + i + 1 + vs.length
          · simp only [hk3, if_true, show k < o + i + (vs.length + 1) by omega, show ¬ k < o + i + 1 by omega, hk, if_false]
            rw [show k - (o + i) = (k - (o + i + 1)) + 1 by omega, List.getElem?_cons_succ]
          · simp only [hk3, if_false, show ¬ k < o + i + (vs.length + 1) by omega]
            rw [if_neg (by omega)]
            congr 1
            omega

theorem frozen_keep {w w' : World} {c : Nat} {arr arr' : Array Value} {e : TypeId} {fr : Nat × Nat} (h : w.heap[c]? = some (.cells arr e fr)) (h' : w'.heap[c]? = some (.cells arr' e fr))
    (hs : arr'.size = arr.size) (hf : Soft w c) : Soft w' c := by
  intro a el f hc i hi
  rw [h'] at hc
  cases hc
  have := hf arr e fr h i (by omega)
  unfold World.frozen? at *
  rw [h']; rw [h] at this
  exact this

end Go.Ev

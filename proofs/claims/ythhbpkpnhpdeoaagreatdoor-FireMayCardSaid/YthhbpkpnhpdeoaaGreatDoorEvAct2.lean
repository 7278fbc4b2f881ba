/-
  A part of the proof of FireMay: EvAct2. No condition.
-/
import Derived.Test.YthhbpkpnhpdeoaaGreatDoorEvAct
namespace Go.Ev
open Go

theorem repl_length {α : Type} (l : List α) : ∀ n, (repl n l).length = n * l.length
  | 0 => by simp [repl]
  | n + 1 => by simp [repl, repl_length l n, Nat.add_mul, Nat.add_comm]
theorem repl_get {α : Type} (l : List α) : ∀ n i, i < n * l.length → (repl n l)[i]? = l[i % l.length]?
  | 0, i, h => by omega
  | n + 1, i, h => by
    simp only [repl, List.getElem?_append]
    split
    · rw [Nat.mod_eq_of_lt (by assumption)]
    · rename_i hi
      rw [repl_get l n (i - l.length) (by rw [Nat.add_mul] at h; omega)]
      have e : i % l.length = (i - l.length) % l.length := Nat.mod_eq_sub_mod (by omega)
      rw [e]

theorem range_repl (z : Array Value) (n : Nat) : ((Array.range (n * z.size)).map (z[· % z.size]!)).toList = repl n z.toList := by
  apply List.ext_getElem?
  intro i
  by_cases h : i < n * z.size
  · have hz : 0 < z.size := by
      rcases Nat.eq_zero_or_pos z.size with h0 | h0
      · rw [h0] at h; omega
      · exact h0
    rw [repl_get _ _ _ (by simpa using h)]
    have hm : i % z.size < z.size := Nat.mod_lt _ hz
    simp [h, hm]
  · have h1 : (repl n z.toList).length ≤ i := by rw [repl_length]; simpa using h
    rw [List.getElem?_eq_none h1]
    simp [h]

theorem VR.repl {ρ : Rn} {l l' : List Value} (h : VR ρ l l') : ∀ n, VR ρ (Ev.repl n l) (Ev.repl n l')
  | 0 => .nil
  | n + 1 => h.append (VR.repl h n)

theorem zero_size {P : Program} {t : TypeId} {ti : TI} (ok : TIok P t ti) : ti.zero.cells.size = ti.size := by
  rw [cells_size (ok.zero (fun _ => none)), ok.len]

section
variable {P : Program} {E : Env} {ρ : Rn} {lk : Lk} {w : World} {tm : Tm} {a : Act}

theorem elemSl_ok (hT : ∀ t ti, E.T.get t = some ti → TIok P t ti) {t : TypeId} {te : TI} (h : elemSl E t = some te) : ∃ e, P.underlying t = some (.slice e) ∧ TIok P e te := by
  unfold elemSl at h
  split at h
  · rename_i ti hti
    split at h
    · rename_i e hd
      exact ⟨e, hd ▸ (hT t ti hti).und, hT e te h⟩
    · cases h
  · cases h
theorem elemAr_ok (hT : ∀ t ti, E.T.get t = some ti → TIok P t ti) {t n e : Nat} {te : TI} (h : elemAr E t = some (n, e, te)) : P.underlying t = some (.array n e) ∧ TIok P e te := by
  unfold elemAr at h
  split at h
  · rename_i ti hti
    split at h
    · rename_i n' e' hd
      split at h
      · rename_i te' hte
        cases h
        exact ⟨hd ▸ (hT t ti hti).und, hT e te hte⟩
      · cases h
    · cases h
  · cases h

theorem repl_zero {t : TypeId} {ti : TI} (ok : TIok P t ti) (n : Nat) : VR ρ (repl n (cellsOf ti.zero)) ((Array.range (n * ti.size)).map (ti.zero.cells[· % ti.zero.cells.size]!)).toList := by
  rw [← zero_size ok, range_repl]
  exact (cellsOf_rel (ok.zero ρ)).repl n

theorem zero_nil {t : TypeId} {ti : TI} (ok : TIok P t ti) (n : Nat) (h : n * ti.size = 0) : ((Array.range (n * ti.size)).map ((#[] : Array Value)[· % (#[] : Array Value).size]!)).toList = repl n ti.zero.cells.toList := by
  rw [h]
  have : (repl n ti.zero.cells.toList).length = 0 := by rw [repl_length]; simp [zero_size ok, h]
  simp [List.length_eq_zero_iff.1 this]

theorem ok_buildSlice (hT : ∀ t ti, E.T.get t = some ti → TIok P t ti) (hz : ∃ q, ρ 0 = some (0, 0, q)) (hTm : TR ρ tm a.tmps) (t : TypeId) (len : Nat) (ps : Array (Nat × Operand)) (o : Oper) (ho : o.op = .buildSlice t len ps) :
    AcOK ρ lk w (aBuildSlice t len ps E tm lk) ((execOp a.eval o).run P w) := by
  unfold aBuildSlice
  split
  · rename_i vs te hvs hte
    obtain ⟨e, hu, ok⟩ := elemSl_ok hT hte
    have hp := evParts_sound hz hTm hvs
    have hparts : (ps.map fun (i, x) => (i, a.eval x)).toList = ps.toList.map fun (i, x) => (i, a.eval x) := by simp
    have hrun : (execOp a.eval o).run P w = ((Instr.buildSlice t len (ps.map fun (i, x) => (i, a.eval x))).run P w).andThen fun v w' => .ok (.value v) w' := by
      simp only [execOp, ho, Sem.run_bind, Sem.run_pure]
    rw [hrun]
    unfold buildSl
    split
    · rename_i l hle hl
      have hle : len * te.size ≤ 16777216 := Nat.le_of_ble_eq_true hle
      have key : ∃ cs : Array Value, VR ρ l cs.toList ∧ (Instr.buildSlice t len (ps.map fun (i, x) => (i, a.eval x))).run P w =
          .ok (.slice (some ⟨w.heap.size, 0, none⟩) len len) { w with heap := w.heap.push (.cells cs e) } := by
        simp only [Instr.buildSlice, Sem.run_bind, run_underlying hu, Result.andThen_ok, ok.sizeOf]
        rw [if_neg (by omega)]
        by_cases h0 : len * te.size = 0
        · obtain ⟨r', h1, h2⟩ := fill_sound (cs' := (Array.range (len * te.size)).map ((#[] : Array Value)[· % (#[] : Array Value).size]!)) hp (by
            rw [zero_nil ok len h0]; exact (cellsOf_rel (ok.zero ρ)).repl len) hl
          refine ⟨r', h2, ?_⟩
          simp only [Sem.run_bind, Sem.run_pure, Result.andThen_ok, h0, if_true]
          rw [h0] at h1
          rw [hparts, h1]
          simp [newRow]
        · obtain ⟨r', h1, h2⟩ := fill_sound (cs' := (Array.range (len * te.size)).map (te.zero.cells[· % te.zero.cells.size]!)) hp (repl_zero ok len) hl
          refine ⟨r', h2, ?_⟩
          simp only [h0, if_false, Sem.run_bind, ok.zeroValue, Sem.run_pure, Result.andThen_ok]
          rw [hparts, h1]
          simp [newRow]
      obtain ⟨cs, hv, hr⟩ := key
      rw [hr]
      split
      · rename_i hll
        have hll := Nat.le_of_ble_eq_true hll
        have := hv.length
        simp only [Array.length_toList] at this
        exact ok_new_cells hv ⟨len, Nat.le_refl _, by simp only; omega, rfl⟩
      · trivial
    · trivial
  · trivial

theorem ones_all : ∀ {l : List Value}, ones l = true → ∀ v ∈ l, v.oneCell' = true
  | [], _ => by simp
  | v :: l, h => by
    have h1 : v.oneCell' = true ∧ ones l = true := by cases v <;> simp [ones, Value.oneCell'] at h ⊢ <;> exact h
    intro u hu
    rcases List.mem_cons.1 hu with rfl | hu
    · exact h1.1
    · exact ones_all h1.2 u hu

/-- writing into a known row -/
theorem put_cells (H : HRel ρ lk w) {b o c s st : Nat} {q : Nat × Nat} {cs new new' r : List Value} (hb : lk b = some (.cells st cs)) (hρ : ρ b = some (c, s, q)) (hn : VR ρ new new') (hs : splice o cs new = some r) (ho : ones new = true) :
    ∃ w', (storeCells ⟨c, s + o, none⟩ new').run P w = .ok () w' ∧ w'.heap.size = w.heap.size ∧ BlkRel ρ w' c s q (.cells st r) ∧ (∀ c', c' ≠ c → w'.heap[c']? = w.heap[c']?) ∧ Kept w w' := by
  obtain ⟨c1, s1, q1, h1, hblk⟩ := H.blk b _ hb
  rw [hρ] at h1; cases h1
  obtain ⟨hsoft, hq, arr, el, fr, hw, hvr, hasz⟩ := hblk
  by_cases he : new = []
  · subst he
    have := hn.nil_l; subst this
    rcases splice_eq hs with ⟨_, e⟩ | ⟨hl, e⟩
    · subst e; exact ⟨w, by simp [storeCells], rfl, ⟨hsoft, hq, arr, el, fr, hw, hvr, hasz⟩, fun _ _ => rfl, Kept.refl w⟩
    · simp at e hl; subst e; exact ⟨w, by simp [storeCells], rfl, ⟨hsoft, hq, arr, el, fr, hw, hvr, hasz⟩, fun _ _ => rfl, Kept.refl w⟩
  · rcases splice_eq hs with ⟨e, _⟩ | ⟨hl, e⟩
    · exact absurd e he
    · have hlen := hvr.length
      have hnl := hn.length
      have hpos : 0 < new.length := List.length_pos_iff.2 he
      simp only [List.length_take, List.length_drop, Array.length_toList] at hlen
      have hfit : s + o + 0 + new'.length ≤ arr.size := by omega
      obtain ⟨w', h1, h2, h3, h4, h5, h6⟩ := run_storeCells_any P c (s + o) el fr new' 0 arr w hw (hsoft arr el fr hw) hfit (hn.ones (ones_all ho))
      refine ⟨w', h1, h4, ⟨frozen_keep hw h2 (by simp; omega) hsoft, hq, _, el, fr, h2, ?_, by simp; omega⟩, h3, Kept.one h5 h6 hw h2 (by simp; omega) h3⟩
      subst e
      have hd := ((hvr.take o).append hn).append (hvr.drop (o + new.length))
      have e1 : (cs.take o ++ new ++ cs.drop (o + new.length)).length = cs.length := by simp; omega
      rw [e1]
      refine (congrArg (VR ρ _) ?_).mp hd
      apply List.ext_getElem?
      intro k
      simp only [List.getElem?_append, List.getElem?_take, List.getElem?_drop, List.length_append, List.length_take, List.length_drop, Array.length_toList, Nat.add_zero]
      have e2 : min o (min cs.length (arr.size - s)) = o := by omega
      have e3 : min (s + o) arr.size = s + o := by omega
      rw [e2, e3]
      by_cases k1 : k < o
      · simp only [show k < o + new'.length by omega, k1, if_true, show k < cs.length by omega, show s + k < s + o + new'.length by omega, show s + k < s + o by omega]
      · by_cases k2 : k < o + new'.length
        · simp only [k2, k1, if_true, if_false, show k < cs.length by omega, show s + k < s + o + new'.length by omega, show ¬ s + k < s + o by omega]
          congr 1; omega
        · simp only [k2, if_false, show ¬ s + k < s + o + new'.length by omega]
          by_cases k3 : k < cs.length
          · rw [if_pos (by omega), if_pos k3]; congr 1; omega
          · rw [if_neg (by omega), if_neg k3]
end
end Go.Ev

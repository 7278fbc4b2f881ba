/-
  A part of the proof of FireMay: EvAct10. No condition.
-/
import Derived.Test.YthhbpkpnhpdeoaaGreatDoorEvAct9
namespace Go.Ev
open Go

section
variable {P : Program} {E : Env} {ρ : Rn} {lk : Lk} {w : World} {tm : Tm} {a : Act}

theorem src_ok (H : HRel ρ lk w) {x x' : Value} {sz m : Nat} {new : List Value} (h : srcCells lk sz x = some (m, new)) (hx : V1 ρ x x') :
    ∃ new' : List Value, (∀ w, (Builtin.lenOf x').run P w = .ok m w) ∧ (∀ w2, w2.heap = w.heap → (Builtin.firstCells sz m x').run P w2 = .ok new'.toArray w2) ∧ VR ρ new new' ∧ new'.length = m * sz := by
  unfold srcCells at h
  split at h
  · rename_i b o n cap
    split at h
    · rename_i st cs hb
      split at h
      · rename_i l hl
        cases h
        obtain ⟨c, s, q, hρ, hblk⟩ := H.blk _ _ hb
        obtain ⟨hsoft, hq, arr, el, fr, hw, hvr, hasz⟩ := hblk
        cases hx with
        | sl _ _ _ _ c2 s2 k' q2 hρ2 _ _ _ =>
          rw [hρ] at hρ2; cases hρ2
          rcases sub_cells hvr hl with ⟨h1, h2, h3⟩ | ⟨h1, h2⟩
          · exact ⟨_, by simp [Builtin.lenOf], fun w2 e => by simp only [Builtin.firstCells]; exact run_loadCells_at P (e ▸ hw) h2, h1, by simp at h2 ⊢; omega⟩
          · subst h2
            exact ⟨[], by simp [Builtin.lenOf], fun w2 _ => by simp [Builtin.firstCells, h1, loadCells, loadCellsFrom], .nil, by simp [h1]⟩
        | slE _ _ _ _ _ _ _ _ _ _ _ =>
          have hl0 := (cut_eq hl).1
          simp at hl0
          subst hl0
          exact ⟨[], by simp [Builtin.lenOf], fun w2 _ => by simp [Builtin.firstCells, loadCells, loadCellsFrom], .nil, by simp⟩
      · cases h
    · cases h
  · cases h
    cases hx
    exact ⟨[], by simp [Builtin.lenOf], fun w2 _ => by simp [Builtin.firstCells], .nil, by simp⟩
  · rename_i s
    split at h
    · cases h
      have := hx.inv_str
      subst this
      refine ⟨_, by simp [Builtin.lenOf], fun w2 _ => ?_, strBytes_rel s, by simp⟩
      simp only [Builtin.firstCells]
      have e1 : s.extract 0 s.data.toList.length = s := by
        rw [Lib.extract_eq]
        apply ByteArray.ext
        simp only [Nat.sub_zero, List.drop_zero, List.take_length]
      rw [e1]
      congr 1
    · cases h
  · cases h

theorem next_le (need c : Nat) (h : c < need) : Builtin.nextslicecap need c ≤ 2 * need + 192 := by
  unfold Builtin.nextslicecap
  split
  · omega
  · split
    · omega
    · simp only [Builtin.growBy]
      repeat' split
      all_goals omega

/-- a row that grows: what the machine does -/
theorem run_grow {te : TI} {e t : TypeId} {ty : TypeId} (hu : P.underlying t = some (.slice e)) (ok : TIok P e te) (u : TypeId) (hnz : ∃ d, P.underlying u = some d ∧ ∀ k, d ≠ .int k)
    {a1 : Option Addr} {n cap m : Nat} {x' : Value} {old new : List Value} (hlen : ∀ w, (Builtin.lenOf x').run P w = .ok m w)
    (hnew : ∀ d, (Builtin.firstCells te.size m x').run P { w with drawn := d } = .ok new.toArray { w with drawn := d })
    (hold : ∀ d, (Builtin.firstCells te.size n (.slice a1 n cap)).run P { w with drawn := d } = .ok old.toArray { w with drawn := d }) (hneed : cap < n + m) (hroom : roomy te (n + m) = true) :
    ∃ N w', n + m ≤ N ∧ (Builtin.append_ #[t, u] ty #[.slice a1 n cap, x']).run P w = .ok (.slice (some ⟨w.heap.size, 0, none⟩) (n + m) N) w' ∧
      w'.heap = w.heap.push (.cells (old.toArray ++ new.toArray ++ Builtin.zeroCells te.zero.cells (N - (n + m))) e) ∧ w'.os = w.os ∧ w'.output = w.output ∧ w'.tape = w.tape := by
  unfold roomy at hroom
  rw [Bool.and_eq_true, Bool.and_eq_true] at hroom
  obtain ⟨⟨r1, r2⟩, r3⟩ := hroom
  have r1 := Nat.le_of_ble_eq_true r1
  have r2 := Nat.le_of_ble_eq_true r2
  have r3 := Nat.blt_eq.mp r3
  obtain ⟨d, hd, hdk⟩ := hnz
  obtain ⟨i, hi, hib, his⟩ := ok.typeInfo w
  have hcut : (Question.appendCap (n + m) cap e).cut (w.tape w.drawn (.appendCap (n + m) cap e)) = n + m + (w.tape w.drawn (.appendCap (n + m) cap e)) % (2 ^ 63 - (n + m)) := rfl
  generalize hN : (Question.appendCap (n + m) cap e).cut (w.tape w.drawn (.appendCap (n + m) cap e)) = N at hcut
  have hnx := next_le (n + m) cap hneed
  have hbig : ¬ (Builtin.nextslicecap (n + m) cap * i.bytes > 2 ^ 48) := by
    rw [hib]
    have := Nat.mul_le_mul_right te.bytes hnx
    omega
  refine ⟨N, { w with drawn := w.drawn + 1, heap := w.heap.push (.cells (old.toArray ++ new.toArray ++ Builtin.zeroCells te.zero.cells (N - (n + m))) e) }, by rw [hcut]; omega, ?_, rfl, rfl, rfl, rfl⟩
  have h2 : (d matches .int _) = false := by
    cases d <;> first | rfl | exact absurd rfl (hdk _)
  have hi2 : ∀ k, ∃ j, (Go.typeInfo e).run P { w with drawn := k } = .ok j { w with drawn := k } ∧ j.bytes = te.bytes := fun k => let ⟨j, h1, h2, _⟩ := ok.typeInfo { w with drawn := k }; ⟨j, h1, h2⟩
  obtain ⟨j, hj, hjb⟩ := hi2 (w.drawn + 1)
  simp only [Builtin.append_, Sem.run_bind, run_underlying hu, run_underlying hd, Result.andThen_ok, ok.sizeOf, List.getElem?_toArray, List.getElem?_cons_zero, List.getElem?_cons_succ, Sem.run_pure, Bool.false_eq_true, if_false, hlen]
  rw [if_neg (by omega)]
  simp only [Sem.run_bind, hi, Result.andThen_ok]
  rw [if_neg (by rintro ⟨h, _⟩; have : IntKind.i64.max = 9223372036854775807 := by decide
                 rw [this] at h; omega)]
  simp only [Sem.run_bind, hi, Result.andThen_ok]
  rw [if_neg hbig]
  simp only [Sem.run_bind, run_choose, Question.forced, Bool.false_eq_true, if_false, Result.andThen_ok, hN, hj, run_askRoom, hold, hnew, Bool.not_false, if_true, ok.zeroValue, newRow, run_newObj, Sem.run_pure]

theorem HRel.same {w2 : World} (h : HRel ρ lk w) (e : w2.heap = w.heap) : HRel ρ lk w2 where
  blk := fun id b hb => let ⟨c, s, q, h1, h2⟩ := h.blk id b hb; ⟨c, s, q, h1, h2.mono (Ext.refl ρ) (by rw [e])⟩
  apart := h.apart
  low := fun id c s hh => by rw [e]; exact h.low id c s hh
  zero := h.zero

theorem notInt_ok (hT : ∀ t ti, E.T.get t = some ti → TIok P t ti) {u : TypeId} (h : notInt E u = true) : ∃ d, P.underlying u = some d ∧ ∀ k, d ≠ .int k := by
  unfold notInt at h
  split at h
  · rename_i ti hti
    split at h
    · cases h
    · rename_i hd
      exact ⟨ti.desc, (hT u ti hti).und, fun k hk => hd k hk⟩
  · cases h

/-- a row that has room for more: what the machine does -/
theorem run_room {te : TI} {e t : TypeId} {ty : TypeId} (hu : P.underlying t = some (.slice e)) (ok : TIok P e te) (u : TypeId) (hnz : ∃ d, P.underlying u = some d ∧ ∀ k, d ≠ .int k)
    {c o n cap m : Nat} {x' : Value} {new : List Value} {w' : World} (hlen : ∀ w, (Builtin.lenOf x').run P w = .ok m w) (hnew : (Builtin.firstCells te.size m x').run P w = .ok new.toArray w)
    (hneed : n + m ≤ cap) (hst : (storeCells ⟨c, o + n * te.size, none⟩ new).run P w = .ok () w') :
    (Builtin.append_ #[t, u] ty #[.slice (some ⟨c, o, none⟩) n cap, x']).run P w = .ok (.slice (some ⟨c, o, none⟩) (n + m) cap) w' := by
  obtain ⟨d, hd, hdk⟩ := hnz
  have h2 : (d matches .int _) = false := by
    cases d <;> first | rfl | exact absurd rfl (hdk _)
  simp only [Builtin.append_, Sem.run_bind, run_underlying hu, run_underlying hd, Result.andThen_ok, ok.sizeOf, List.getElem?_toArray, List.getElem?_cons_zero, List.getElem?_cons_succ, Sem.run_pure, Bool.false_eq_true, if_false, hlen]
  rw [if_pos hneed]
  simp only [Sem.run_bind, Bool.not_false, if_true, hnew, Result.andThen_ok, add_none, hst, Sem.run_pure]

theorem run_nothing {te : TI} {e t : TypeId} {ty : TypeId} (hu : P.underlying t = some (.slice e)) (ok : TIok P e te) (u : TypeId) (hnz : ∃ d, P.underlying u = some d ∧ ∀ k, d ≠ .int k)
    {a1 : Option Addr} {n cap : Nat} {x' : Value} {new : List Value} (hlen : ∀ w, (Builtin.lenOf x').run P w = .ok 0 w) (hnew : (Builtin.firstCells te.size 0 x').run P w = .ok new.toArray w) (hn0 : new = [])
    (hneed : n ≤ cap) : (Builtin.append_ #[t, u] ty #[.slice a1 n cap, x']).run P w = .ok (.slice a1 n cap) w := by
  obtain ⟨d, hd, hdk⟩ := hnz
  subst hn0
  have h2 : (d matches .int _) = false := by
    cases d <;> first | rfl | exact absurd rfl (hdk _)
  simp only [Builtin.append_, Sem.run_bind, run_underlying hu, run_underlying hd, Result.andThen_ok, ok.sizeOf, List.getElem?_toArray, List.getElem?_cons_zero, List.getElem?_cons_succ, Sem.run_pure, Bool.false_eq_true, if_false, hlen, Nat.add_zero]
  rw [if_pos hneed]
  simp only [Sem.run_bind, Bool.not_false, if_true, hnew, Result.andThen_ok]
  cases a1 <;> simp [storeCells]
end
end Go.Ev

/-
  A part of the proof of FireMay: EvAct11. No condition.
-/
import Derived.Test.YthhbpkpnhpdeoaaGreatDoorEvAct10
namespace Go.Ev
open Go

section
variable {P : Program} {E : Env} {ρ : Rn} {lk : Lk} {w : World} {tm : Tm} {a : Act}

abbrev asVal (r : Result Value) : Result Next := r.andThen fun v w' => .ok (.value v) w'

theorem zeroCells_list (z : Array Value) (n : Nat) : (Builtin.zeroCells z n).toList = repl n z.toList := range_repl z n

/-- a new row behind a growth -/
theorem ok_grown {te : TI} {e : TypeId} {dead : Option Nat} {old old' new new' : List Value} {need N : Nat} {w' : World} {z : Array Value} (ho : VR ρ old old') (hn : VR ρ new new')
    (hN : need ≤ N) (hsz : z.size = te.size) (hlen : old'.length + new'.length = need * te.size)
    (hh : w'.heap = w.heap.push (.cells (old'.toArray ++ new'.toArray ++ Builtin.zeroCells z (N - need)) e)) (hio : w'.os = w.os ∧ w'.output = w.output ∧ w'.tape = w.tape) :
    AcOK ρ lk w (.app dead te.size (old ++ new) need) (asVal (.ok (.slice (some ⟨w.heap.size, 0, none⟩) need N) w')) := by
  have hcs : (old'.toArray ++ new'.toArray ++ Builtin.zeroCells z (N - need)).size = N * te.size := by
    have h1 : (Builtin.zeroCells z (N - need)).size = (N - need) * te.size := by
      have := congrArg List.length (zeroCells_list z (N - need))
      rw [repl_length] at this
      simpa [hsz] using this
    simp only [Array.size_append, List.size_toArray, h1]
    obtain ⟨e1, _⟩ := mul_part (z := te.size) hN (Nat.le_refl N)
    omega
  refine ⟨w.heap.size, 0, (N * te.size, te.size), N, w', rfl, hN, Nat.le_refl _, by rw [hh]; simp, by rw [hh]; simp, ?_, ?_, .inl rfl, Kept.push hio.1 hio.2 hh⟩
  · refine ⟨?_, rfl, _, e, (0, 0), by rw [hh]; exact push_at _ _, ?_, by rw [hcs]; simp⟩
    · intro arr el fr hc i hi
      rw [hh, push_at] at hc
      cases hc
      simp [World.frozen?, hh]
    · have h2 := ho.append hn
      rw [List.drop_zero, h2.length]
      have e2 : (old'.toArray ++ new'.toArray ++ Builtin.zeroCells z (N - need)).toList = (old' ++ new') ++ (Builtin.zeroCells z (N - need)).toList := by simp
      rw [e2, List.take_left']
      · exact h2
      · rfl
  · intro c' hc' _
    rw [hh, Array.getElem?_push_lt hc']
    simp [hc']

theorem ok_append (hT : ∀ t ti, E.T.get t = some ti → TIok P t ti) (H : HRel ρ lk w) {t u ty : TypeId} {te : TI} (hte : elemSl E t = some te) (hni : notInt E u = true) {base : Option Addr} {n cap : Nat} {x x' s' : Value}
    (hs : V1 ρ (.slice base n cap) s') (hx : V1 ρ x x') : AcOK ρ lk w (appendV lk te base n cap (srcCells lk te.size x)) (asVal ((Builtin.append_ #[t, u] ty #[s', x']).run P w)) := by
  obtain ⟨e, hu, ok⟩ := elemSl_ok hT hte
  have hnz := notInt_ok hT hni
  unfold appendV
  split
  · trivial
  rename_i m new hsrc
  obtain ⟨new', hlen, hnew, hvn, hnl⟩ := src_ok (P := P) H hsrc hx
  unfold append1
  split
  · -- nothing is added
    split
    · rename_i hle
      have hle := Nat.le_of_ble_eq_true hle
      have hn0 : new' = [] := List.eq_nil_of_length_eq_zero (by simpa using hnl)
      obtain ⟨a1, k', rfl, hk⟩ : ∃ a1 k', s' = .slice a1 n k' ∧ cap ≤ k' := by
        cases hs with
        | sl0 _ _ _ => exact ⟨_, _, rfl, Nat.le_refl _⟩
        | sl _ _ _ _ _ _ _ _ _ hk _ _ => exact ⟨_, _, rfl, hk⟩
        | slE _ _ _ _ _ _ _ _ _ _ _ => exact ⟨_, _, rfl, Nat.zero_le _⟩
      rw [run_nothing hu ok u hnz hlen (hnew w rfl) hn0 (by omega)]
      exact ⟨_, hs, rfl⟩
    · trivial
  · rename_i m
    change new'.length = (m + 1) * te.size at hnl
    split
    · -- there is room
      rename_i hle
      have hle := Nat.le_of_ble_eq_true hle
      unfold inPlace
      split
      · rename_i b o
        cases hs with
        | sl _ _ _ _ c s k' q hr hk hm2 _ =>
          refine ok_putCells (P := P) H hr hvn (VR.sl b o (n + (m + 1)) cap c s k' q hr hk hm2 .nil) (r := fun w' => .ok (.value (.slice (some ⟨c, s + o, none⟩) (n + (m + 1)) k')) w') (fun w' => .inl rfl) (fun w' hst => ?_)
          rw [← Nat.add_assoc] at hst
          rw [run_room hu ok u hnz hlen (hnew w rfl) (by omega) hst]
          rfl
        | slE _ _ _ _ _ _ _ _ _ _ _ => omega
      · trivial
    · -- it may have to grow
      rename_i hgt
      have hgt : ¬ n + (m + 1) ≤ cap := fun h => by rw [Nat.ble_eq_true_of_le h] at hgt; cases hgt
      unfold grow
      split
      · rename_i b o
        unfold growB
        split
        · rename_i st cs hb
          split
          · rename_i old hchk hcut
            rw [Bool.and_eq_true, Bool.and_eq_true] at hchk
            obtain ⟨⟨hst, hroom⟩, hones⟩ := hchk
            have hst := Nat.eq_of_beq_eq_true hst
            subst hst
            obtain ⟨c, s, q, hρ, hblk⟩ := H.blk _ _ hb
            obtain ⟨hsoft, hq, arr, el, fr, hw, hvr, hasz⟩ := hblk
            -- where it lies on the machine
            obtain ⟨o', k', rfl, hof, hfit, hold, hoz⟩ : ∃ o' k', s' = .slice (some ⟨c, o', none⟩) n k' ∧ s ≤ o' ∧ o' + k' * te.size ≤ s + q.1 ∧
                VR ρ old ((arr.toList.drop o').take (n * te.size)) ∧ n * te.size ≤ (arr.toList.drop o').length := by
              cases hs with
              | sl _ _ _ _ c2 s2 k' q2 hr hk hm2 _ =>
                rw [hρ] at hr; cases hr
                rw [hq] at hm2
                refine ⟨s + o, k', rfl, by omega, by omega, ?_⟩
                rcases sub_cells hvr hcut with ⟨h1, h2, _⟩ | ⟨h1, h2⟩
                · exact ⟨h1, h2⟩
                · rw [h1]; subst h2; simpa using VR.nil
              | slE _ _ c2 o' k' s2 q2 hr h1 h2 _ =>
                rw [hρ] at hr; cases hr
                rw [hq] at h2
                have h0 := (cut_eq hcut).1
                simp at h0
                subst h0
                exact ⟨o', k', rfl, h1, h2, by simpa using VR.nil, by simp⟩
            by_cases hin : n + (m + 1) ≤ k'
            · -- in place
              have hpos : n * te.size + (m + 1) * te.size ≤ k' * te.size := by rw [← Nat.add_mul]; exact Nat.mul_le_mul_right _ hin
              obtain ⟨w', h1, h2, h3, h4, h5, h6⟩ := run_storeCells_any P c (o' + n * te.size) el fr new' 0 arr w hw (hsoft arr el fr hw) (by omega) (hvn.ones (ones_all hones))
              rw [run_room hu ok u hnz hlen (hnew w rfl) hin h1]
              have hlow := H.low _ _ _ hρ
              refine ⟨c, o', (s + q.1 - o', te.size), k', w', rfl, hin, by simp only; omega, by omega, by omega, ?_, fun c' _ hne => h3 c' hne, .inr ⟨b, _, _, rfl, hb, hρ⟩, Kept.one h5 h6 hw h2 (by simp; omega) h3⟩
              refine ⟨frozen_keep hw h2 (by simp; omega) hsoft, rfl, _, el, fr, h2, ?_, by simp; omega⟩
              have hon := hold.append hvn
              rw [hon.length]
              refine (congrArg (VR ρ _) ?_).mp hon
              simp only [List.length_drop, Array.length_toList] at hoz
              apply List.ext_getElem?
              intro k
              simp only [List.getElem?_append, List.getElem?_take, List.getElem?_drop, List.length_append, List.length_take, List.length_drop, Array.length_toList, Nat.add_zero]
              have e2 : min (n * te.size) (arr.size - o') = n * te.size := by omega
              have e3 : min (o' + n * te.size) arr.size = o' + n * te.size := by omega
              rw [e2, e3]
              by_cases k1 : k < n * te.size
              · simp only [k1, if_true, show k < n * te.size + new'.length by omega, show o' + k < o' + n * te.size + new'.length by omega, show o' + k < o' + n * te.size by omega]
              · by_cases k2 : k < n * te.size + new'.length
                · simp only [k2, k1, if_true, if_false, show o' + k < o' + n * te.size + new'.length by omega, show ¬ o' + k < o' + n * te.size by omega]
                  congr 1; omega
                · rw [if_neg k1, if_neg k2, List.getElem?_eq_none (by omega)]
            · -- a new row
              obtain ⟨N, w', hN, hrun, hh, hio⟩ := run_grow (te := te) (a1 := some ⟨c, o', none⟩) (cap := k') hu ok u hnz hlen (fun d => hnew _ rfl) (n := n) (old := (arr.toList.drop o').take (n * te.size)) (fun d => by
                simp only [Builtin.firstCells]
                exact run_loadCells_at P (w := { w with drawn := d }) hw hoz) (by omega) hroom (ty := ty)
              rw [hrun]
              refine ok_grown hold hvn hN (zero_size ok) ?_ hh hio
              rw [List.length_take, Nat.min_eq_left hoz, hnl]
              exact (Nat.add_mul n (m + 1) te.size).symm
          · trivial
        · trivial
      · split
        · have hroom : roomy te (m + 1) = true := by assumption
          cases hs
          obtain ⟨N, w', hN, hrun, hh, hio⟩ := run_grow (te := te) (a1 := none) (cap := cap) hu ok u hnz hlen (fun d => hnew _ rfl) (n := 0) (old := []) (fun d => by simp [Builtin.firstCells]) (by omega) (by simpa using hroom) (ty := ty)
          rw [hrun]
          have := ok_grown (lk := lk) (w := w) (te := te) (dead := none) (need := 0 + (m + 1)) VR.nil hvn hN (zero_size ok) (by simp [hnl]) hh hio
          simpa using this
        · trivial
      · trivial
end
end Go.Ev

/-
  A part of the proof of FireMay: EvMem. No condition.
-/
import Derived.Test.YthhbpkpnhpdeoaaGreatDoorEvRel
namespace Go.Ev
open Go

namespace Tr
variable {α : Type}
theorem get_nil (n : Nat) : (Tr.nil : Tr α).get n = none := rfl
theorem get_node0 (l r : Tr α) (v : Option α) : (Tr.node l v r).get 0 = v := rfl
theorem get_nodeS (l r : Tr α) (v : Option α) (m : Nat) : (Tr.node l v r).get (m + 1) = if m % 2 = 0 then l.get (m / 2) else r.get (m / 2) := by
  have h : (Tr.node l v r).get (m + 1) = Nat.rec (motive := fun _ => Option α) (l.get (m / 2)) (fun _ _ => r.get (m / 2)) (m % 2) := rfl
  rw [h]
  cases m % 2 <;> rfl
theorem single_0 (x : Option α) (n : Nat) : single x 0 n = .nil := rfl
theorem single_z (x : Option α) (k : Nat) : single x (k + 1) 0 = .node .nil x .nil := rfl
theorem single_s (x : Option α) (k m : Nat) : single x (k + 1) (m + 1) = if m % 2 = 0 then .node (single x k (m / 2)) none .nil else .node .nil none (single x k (m / 2)) := by
  have h : single x (k + 1) (m + 1) = Nat.rec (motive := fun _ => Tr α) (.node (single x k (m / 2)) none .nil) (fun _ _ => .node .nil none (single x k (m / 2))) (m % 2) := rfl
  rw [h]
  cases m % 2 <;> rfl
theorem put_nil (d n : Nat) (x : Option α) : put d .nil n x = single x d n := rfl
theorem put_z (d : Nat) (l r : Tr α) (v x : Option α) : put d (.node l v r) 0 x = .node l x r := rfl
theorem put_s (d m : Nat) (l r : Tr α) (v x : Option α) : put d (.node l v r) (m + 1) x = if m % 2 = 0 then .node (put d l (m / 2) x) v r else .node l v (put d r (m / 2) x) := by
  have h : put d (.node l v r) (m + 1) x = Nat.rec (motive := fun _ => Tr α) (.node (put d l (m / 2) x) v r) (fun _ _ => .node l v (put d r (m / 2) x)) (m % 2) := rfl
  rw [h]
  cases m % 2 <;> rfl

theorem get_single (x : Option α) : ∀ (k n m : Nat) (y : α), (single x k n).get m = some y → m = n ∧ x = some y
  | 0, n, m, y, h => by rw [single_0, get_nil] at h; cases h
  | k + 1, 0, m, y, h => by
    rw [single_z] at h
    cases m with
    | zero => exact ⟨rfl, h⟩
    | succ m => rw [get_nodeS] at h; split at h <;> cases h
  | k + 1, n + 1, m, y, h => by
    rw [single_s] at h
    cases m with
    | zero => split at h <;> cases h
    | succ m =>
      split at h
      · rename_i hn
        rw [get_nodeS] at h
        split at h
        · rename_i hm
          obtain ⟨e, hx⟩ := get_single x k _ _ _ h
          exact ⟨by omega, hx⟩
        · cases h
      · rename_i hn
        rw [get_nodeS] at h
        split at h
        · cases h
        · rename_i hm
          obtain ⟨e, hx⟩ := get_single x k _ _ _ h
          exact ⟨by omega, hx⟩

theorem get_put (d : Nat) (x : Option α) : ∀ (t : Tr α) (n m : Nat) (y : α), (put d t n x).get m = some y → (m = n ∧ x = some y) ∨ (m ≠ n ∧ t.get m = some y)
  | .nil, n, m, y, h => by rw [put_nil] at h; exact .inl (get_single x d n m y h)
  | .node l v r, 0, m, y, h => by
    rw [put_z] at h
    cases m with
    | zero => exact .inl ⟨rfl, h⟩
    | succ m => rw [get_nodeS] at h; exact .inr ⟨by omega, by rw [get_nodeS]; exact h⟩
  | .node l v r, n + 1, m, y, h => by
    rw [put_s] at h
    cases m with
    | zero => split at h <;> exact .inr ⟨by omega, h⟩
    | succ m =>
      rw [get_nodeS (l := l) (r := r)]
      split at h
      · rename_i hn
        rw [get_nodeS] at h
        split at h
        · rename_i hm
          rcases get_put d x l _ _ _ h with ⟨e, hx⟩ | ⟨e, hx⟩
          · exact .inl ⟨by omega, hx⟩
          · exact .inr ⟨by omega, by simpa [hm] using hx⟩
        · rename_i hm
          exact .inr ⟨by omega, by simpa [hm] using h⟩
      · rename_i hn
        rw [get_nodeS] at h
        split at h
        · rename_i hm
          exact .inr ⟨by omega, by simpa [hm] using h⟩
        · rename_i hm
          rcases get_put d x r _ _ _ h with ⟨e, hx⟩ | ⟨e, hx⟩
          · exact .inl ⟨by omega, hx⟩
          · exact .inr ⟨by omega, by simpa [hm] using hx⟩
end Tr

/-- a symbolic heap that says less: the same holds of it -/
theorem HRel.sub {ρ : Rn} {lk lk' : Lk} {w : World} (h : HRel ρ lk w) (hs : ∀ id b, lk' id = some b → lk id = some b) : HRel ρ lk' w where
  blk := fun id b hb => h.blk id b (hs id b hb)
  apart := fun i j b b' c s c' s' hi hj => h.apart i j b b' c s c' s' (hs i b hi) (hs j b' hj)
  low := h.low
  zero := h.zero

theorem Soft.same {w w' : World} {c : Nat} (h : Soft w c) (e : w'.heap[c]? = w.heap[c]?) : Soft w' c := by
  intro arr el fr hc i hi
  have := h arr el fr (e ▸ hc) i hi
  unfold World.frozen? at *
  simp only [e]
  exact this

theorem BlkRel.mono {ρ ρ' : Rn} (e : Ext ρ ρ') {w w' : World} {c s : Nat} {q : Nat × Nat} {b : Blk} (hc : w'.heap[c]? = w.heap[c]?) (h : BlkRel ρ w c s q b) : BlkRel ρ' w' c s q b := by
  cases b with
  | cells st cs =>
    obtain ⟨hs, hq, arr, el, fr, h1, h2, h3⟩ := h
    exact ⟨hs.same hc, hq, arr, el, fr, hc ▸ h1, h2.mono e, h3⟩
  | map es =>
    obtain ⟨hs, ents, cl, h1, h2, h3⟩ := h
    exact ⟨hs, ents, cl, hc ▸ h1, h2.mono e, h3.mono e⟩

/-- one block turned in place -/
theorem Pst.put {ρ : Rn} {lk lk' : Lk} {w w' : World} (h : HRel ρ lk w) {id c s : Nat} {q : Nat × Nat} {b old : Blk} (hold : lk id = some old) (hr : ρ id = some (c, s, q))
    (hsz : w'.heap.size = w.heap.size) (hb : BlkRel ρ w' c s q b) (hoth : ∀ c', c' ≠ c → w'.heap[c']? = w.heap[c']?) (hkp : Kept w w')
    (hlk : ∀ i x, lk' i = some x → (i = id ∧ x = b) ∨ (i ≠ id ∧ lk i = some x)) : Pst ρ lk w ρ lk' w' where
  kept := hkp
  ext := Ext.refl ρ
  rel := {
    blk := fun i x hx => by
      rcases hlk i x hx with ⟨rfl, rfl⟩ | ⟨hne, hx⟩
      · exact ⟨c, s, q, hr, hb⟩
      · obtain ⟨c', s', q', hr', hb'⟩ := h.blk i x hx
        exact ⟨c', s', q', hr', hb'.mono (Ext.refl ρ) (hoth c' (h.apart i id x old c' _ c _ hx hold hne hr' hr))⟩
    apart := fun i j x y ci si cj sj hi hj hne hri hrj => by
      have g : ∀ k z, lk' k = some z → ∃ z', lk k = some z' := fun k z hz => by
        rcases hlk k z hz with ⟨rfl, _⟩ | ⟨_, hz⟩
        · exact ⟨old, hold⟩
        · exact ⟨z, hz⟩
      obtain ⟨x', hx'⟩ := g i x hi
      obtain ⟨y', hy'⟩ := g j y hj
      exact h.apart i j x' y' ci si cj sj hx' hy' hne hri hrj
    low := fun i c' s' hi => by rw [hsz]; exact h.low i c' s' hi
    zero := h.zero }
  size := by omega
  frame := fun c' _ hn => hoth c' (fun e => hn ⟨id, old, _, hold, e ▸ hr⟩)
  img := fun c' ⟨i, x, si, hi, hri⟩ => .inr (by
    rcases hlk i x hi with ⟨rfl, _⟩ | ⟨_, hz⟩
    · exact ⟨i, old, si, hold, hri⟩
    · exact ⟨i, x, si, hz, hri⟩)

/-- ρ with one more name -/
def Rn.add (ρ : Rn) (id c : Nat) (s : Nat × Nat × Nat) : Rn := fun i => if i = id then some (c, s) else ρ i
theorem Rn.add_at (ρ : Rn) (id c : Nat) (s : Nat × Nat × Nat) : (ρ.add id c s) id = some (c, s) := by simp [Rn.add]
theorem Rn.add_ne (ρ : Rn) {id i : Nat} (c : Nat) (s : Nat × Nat × Nat) (h : i ≠ id) : (ρ.add id c s) i = ρ i := by simp [Rn.add, h]
theorem Rn.add_ext {ρ : Rn} {id : Nat} (c : Nat) (s : Nat × Nat × Nat) (h : ρ id = none) : Ext ρ (ρ.add id c s) := fun b x hb => by
  by_cases e : b = id
  · subst e; rw [h] at hb; cases hb
  · rw [Rn.add_ne _ _ _ e]; exact hb

/-- a name for a block: a new one, or that of a name that is struck -/
theorem Pst.add {ρ : Rn} {lk lk' : Lk} {w w' : World} (h : HRel ρ lk w) {id c s : Nat} {q : Nat × Nat} {b : Blk} (hid : ρ id = none)
    (hsz : w.heap.size ≤ w'.heap.size) (hc : c < w'.heap.size) (hb : BlkRel (ρ.add id c (s, q)) w' c s q b)
    (hoth : ∀ c', c' < w.heap.size → c' ≠ c → w'.heap[c']? = w.heap[c']?)
    (hcase : w.heap.size ≤ c ∨ Img ρ lk c) (hkp : Kept w w')
    (hlk : ∀ i x, lk' i = some x → (i = id ∧ x = b) ∨ (i ≠ id ∧ lk i = some x ∧ ∀ s', ρ i ≠ some (c, s'))) : Pst ρ lk w (ρ.add id c (s, q)) lk' w' where
  kept := hkp
  ext := Rn.add_ext c _ hid
  rel := {
    blk := fun i x hx => by
      rcases hlk i x hx with ⟨rfl, rfl⟩ | ⟨hne, hx, hnc⟩
      · exact ⟨c, s, q, Rn.add_at _ _ _ _, hb⟩
      · obtain ⟨c', s', q', hr', hb'⟩ := h.blk i x hx
        have hcc : c' ≠ c := fun e => hnc _ (e ▸ hr')
        exact ⟨c', s', q', by rw [Rn.add_ne _ _ _ hne]; exact hr', hb'.mono (Rn.add_ext c _ hid) (hoth c' (h.low i c' _ hr') hcc)⟩
    apart := fun i j x y ci si cj sj hi hj hne hri hrj => by
      rcases hlk i x hi with ⟨rfl, _⟩ | ⟨hni, hi', hnc⟩
      · rcases hlk j y hj with ⟨rfl, _⟩ | ⟨hnj, hj', hnc⟩
        · exact absurd rfl hne
        · rw [Rn.add_at] at hri; rw [Rn.add_ne _ _ _ hnj] at hrj
          cases hri
          exact fun e => hnc sj (e ▸ hrj)
      · rw [Rn.add_ne _ _ _ hni] at hri
        rcases hlk j y hj with ⟨rfl, _⟩ | ⟨hnj, hj', _⟩
        · rw [Rn.add_at] at hrj
          cases hrj
          exact fun e => hnc si (e ▸ hri)
        · rw [Rn.add_ne _ _ _ hnj] at hrj
          exact h.apart i j x y ci si cj sj hi' hj' hne hri hrj
    low := fun i c' s' hi => by
      by_cases e : i = id
      · subst e; rw [Rn.add_at] at hi; cases hi; exact hc
      · rw [Rn.add_ne _ _ _ e] at hi; exact Nat.lt_of_lt_of_le (h.low i c' s' hi) hsz
    zero := let ⟨z, hz⟩ := h.zero; ⟨z, Rn.add_ext c _ hid _ _ hz⟩ }
  size := hsz
  frame := fun c' hc' hn => hoth c' hc' (fun e => by
    rcases hcase with hh | hh
    · omega
    · exact hn (e ▸ hh))
  img := fun c' ⟨i, x, si, hi, hri⟩ => by
    rcases hlk i x hi with ⟨rfl, _⟩ | ⟨hni, hi', _⟩
    · rw [Rn.add_at] at hri; cases hri; exact hcase
    · rw [Rn.add_ne _ _ _ hni] at hri; exact .inr ⟨i, x, si, hi', hri⟩

theorem Bd.add {ρ : Rn} {nx : Nat} (h : Bd ρ nx) (c : Nat) (s : Nat × Nat × Nat) : Bd (ρ.add nx c s) (nx + 1) := fun i hi => by
  rw [Rn.add_ne _ _ _ (by omega)]; exact h i (by omega)

end Go.Ev

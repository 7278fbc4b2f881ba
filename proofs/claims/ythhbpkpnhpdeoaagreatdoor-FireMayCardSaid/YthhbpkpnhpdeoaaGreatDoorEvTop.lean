/-
  A part of the proof of FireMay: EvTop. No condition.
-/
import Derived.Test.YthhbpkpnhpdeoaaGreatDoorEvOrc
import Derived.Below
namespace Go.Ev
open Go Go.RowKit

/-! from the evaluator to a contract over real memory: a call without arguments that reads the first package variable alone -/
def plainV : Value → Bool
  | .bool _ => true
  | .int _ _ => true
  | .string _ => true
  | _ => false
theorem plainV_det {ρ : Rn} : ∀ {l l' : List Value}, VR ρ l l' → (∀ v ∈ l, plainV v = true) → l' = l
  | [], _, h, _ => by cases h; rfl
  | v :: l, _, h, hp => by
    obtain ⟨v', t', rfl, h1, h2⟩ := h.uncons
    have e : v' = v := by
      have := hp v (by simp)
      cases h1 <;> first | rfl | (simp [plainV] at this)
    rw [e, plainV_det h2 fun x hx => hp x (by simp [hx])]
theorem plainV_rel {ρ : Rn} : ∀ {l : List Value}, (∀ v ∈ l, plainV v = true) → VR ρ l l
  | [], _ => .nil
  | v :: l, hp => by
    have h1 : V1 ρ v v := by
      have := hp v (by simp)
      cases v <;> first | exact .bool _ .nil | exact .int _ _ .nil | exact .str _ .nil | (simp [plainV] at this)
    exact VR.cons h1 (plainV_rel fun x hx => hp x (by simp [hx]))

/-- the first package variable's cells -/
def Laid0 (cs : List Value) (w : World) : Prop := Soft w 0 ∧ ∃ arr e fr, w.heap[0]? = some (.cells arr e fr) ∧ arr.toList = cs

theorem Laid0.below {cs : List Value} {w w' : World} (h : Laid0 cs w) {B : Nat} (hB : 0 < B) (hb : Below B w w') : Laid0 cs w' := by
  obtain ⟨hs, arr, e, fr, h1, h2⟩ := h
  have := hb.block 0 hB
  exact ⟨hs.same this, arr, e, fr, this.trans h1, h2⟩

theorem Laid0.pos {cs : List Value} {w : World} (h : Laid0 cs w) : 0 < w.heap.size := by
  obtain ⟨_, arr, e, fr, h1, _⟩ := h
  rcases Nat.eq_zero_or_pos w.heap.size with h2 | h2
  · rw [Array.getElem?_eq_none (by omega)] at h1; cases h1
  · exact h2

theorem top_calls {P : Program} {f : FuncId} {st nx : Nat} {cs : List Value} (hp : ∀ v ∈ cs, plainV v = true) {b : Bool} {s' : St} (hnx : 0 < nx)
    (h : CallSound P f [] ⟨Tr.put D .nil 0 (some (.cells st cs)), nx⟩ (.bool b) s') (h0 : s'.h.get 0 = some (.cells st cs)) {w : World} (hw : Laid0 cs w) :
    Calls P f #[] w fun e w' => e = .returned (.bool b) ∧ Below w.heap.size w w' := by
  have hpos := hw.pos
  obtain ⟨hs, arr, el, fr, h1, h2⟩ := hw
  let ρ : Rn := fun i => if i = 0 then some (0, 0, (cs.length, st)) else none
  have get0 : ∀ i x, (Tr.put D Tr.nil 0 (some (Blk.cells st cs))).get i = some x → i = 0 ∧ x = .cells st cs := by
    intro i x hx
    rcases get_put_lk _ _ _ _ _ hx with h3 | ⟨_, h3⟩
    · exact h3
    · rw [Tr.get_nil] at h3; cases h3
  have hlen : arr.size = cs.length := by rw [← h2]; simp
  have S : StOK ρ ⟨Tr.put D .nil 0 (some (.cells st cs)), nx⟩ w := by
    refine ⟨⟨fun i x hx => ?_, fun i j x y c s c' s' hi hj hne _ _ => ?_, fun i c s hi => ?_, ⟨(cs.length, st), rfl⟩⟩, fun i hi => ?_⟩
    · obtain ⟨rfl, rfl⟩ := get0 i x hx
      refine ⟨0, 0, (cs.length, st), rfl, hs, rfl, arr, el, fr, h1, ?_, by simp [hlen]⟩
      rw [h2]; simpa using plainV_rel hp
    · exact absurd ((get0 i x hi).1.trans (get0 j y hj).1.symm) hne
    · simp only [ρ] at hi
      split at hi
      · cases hi; exact hpos
      · cases hi
    · simp only [ρ]
      rw [if_neg]
      have hi : nx ≤ i := hi
      omega
  refine (h ρ w [] S .nil).mono ?_
  rintro e w' ⟨v', ρ', rfl, hv, G⟩
  refine ⟨by rw [hv.inv_bool], G.pst.kept.os, G.pst.kept.out.2, G.pst.kept.out.1, G.pst.size, fun k hk => ?_⟩
  by_cases hk0 : k = 0
  · subst hk0
    obtain ⟨arr', hsz, h3⟩ := G.pst.kept.row 0 arr el fr h1
    obtain ⟨c, s, q, h4, h5⟩ := G.pst.rel.blk 0 _ h0
    have h6 := G.pst.ext 0 (0, 0, (cs.length, st)) rfl
    rw [h6] at h4; cases h4
    obtain ⟨_, _, arr2, el2, fr2, h7, h8, _⟩ := h5
    rw [h3] at h7; cases h7
    have := plainV_det h8 hp
    rw [List.drop_zero] at this
    have e1 : arr'.toList = cs := by
      rw [← this, List.take_of_length_le]
      simp; omega
    rw [h3, h1]
    congr 2
    apply Array.toList_inj.1
    rw [e1, h2]
  · refine G.pst.frame k hk ?_
    rintro ⟨i, x, s, hi, hr⟩
    obtain ⟨rfl, _⟩ := get0 i x hi
    simp only [ρ, if_true] at hr
    cases hr
    exact hk0 rfl
end Go.Ev

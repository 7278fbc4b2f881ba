/-
  A part of the proof of FireMay: EvDraw2. No condition.
-/
import Derived.Test.YthhbpkpnhpdeoaaGreatDoorEvDraw1
namespace Go.Ev
open Go

inductive Kd where
  | quiet
  | new (b : Blk)
  | loud

/-- one operation of a region that draws its order, in the order as written -/
inductive StepD (P : Program) (E : Env) (all : List Oper) (an : List Nat) (base : Nat) (tm0 : Tm) (i : Nat) (o : Oper) : Kd → Value → Dr → Dr → Prop where
  | skip {d : Dr} {t : Tr Value} : tmFor all an tm0 d.vals i (namesOf all o) = some t → wants all ⟨tm0.n, t⟩ o.guard = some false →
      StepD P E all an base tm0 i o .quiet undefV d ⟨Tr.put D d.vals i (some undefV), d.al, d.lds, d.stg, d.s, d.lg⟩
  | val {d : Dr} {t : Tr Value} {v : Value} : tmFor all an tm0 d.vals i (namesOf all o) = some t → wants all ⟨tm0.n, t⟩ o.guard = some true →
      act o.op E ⟨tm0.n, t⟩ (preH an base d.s.h d.lds i d.al).get = .val v →
      StepD P E all an base tm0 i o .quiet v d ⟨Tr.put D d.vals i (some v), d.al, d.lds, d.stg, d.s, (i, o, ⟨tm0.n, t⟩, v) :: d.lg⟩
  | new {d : Dr} {t : Tr Value} {b : Blk} {k : Nk} : tmFor all an tm0 d.vals i (namesOf all o) = some t → wants all ⟨tm0.n, t⟩ o.guard = some true →
      reads o.op = false → act o.op E ⟨tm0.n, t⟩ (preH an base d.s.h d.lds i d.al).get = .new b k →
      StepD P E all an base tm0 i o (.new b) (nkVal k (base + i)) d ⟨Tr.put D d.vals i (some (nkVal k (base + i))), (i, b) :: d.al, d.lds, d.stg, d.s, d.lg⟩
  | loud {d : Dr} {t : Tr Value} {v : Value} {s' : St} : tmFor all an tm0 d.vals i (namesOf all o) = some t → wants all ⟨tm0.n, t⟩ o.guard = some true →
      Eff P (act o.op E ⟨tm0.n, t⟩ (preH an base d.s.h d.lds i d.al).get) ⟨preH an base d.s.h d.lds i d.al, d.s.nx⟩ v s' →
      StepD P E all an base tm0 i o .loud v d ⟨Tr.put D d.vals i (some v), d.al, i :: d.lds, (s'.h, i :: d.lds) :: d.stg, s', d.lg⟩

inductive Trace (P : Program) (E : Env) (all : List Oper) (an : List Nat) (base : Nat) (tm0 : Tm) : Nat → List Oper → Dr → Dr → Prop where
  | nil (i : Nat) (d : Dr) : Trace P E all an base tm0 i [] d d
  | cons {i : Nat} {o : Oper} {l : List Oper} {kd : Kd} {v : Value} {d d' dn : Dr} : StepD P E all an base tm0 i o kd v d d' → Trace P E all an base tm0 (i + 1) l d' dn → Trace P E all an base tm0 i (o :: l) d dn

section
variable {P : Program} {E : Env} {all : List Oper} {an : List Nat} {base : Nat} {tm0 : Tm}

theorem Trace.rows {i : Nat} {l : List Oper} {d dn : Dr} (h : Trace P E all an base tm0 i l d dn) :
    ∃ (Ds : Nat → Dr) (Vs : Nat → Value) (Ks : Nat → Kd), Ds i = d ∧ Ds (i + l.length) = dn ∧ ∀ j o, l[j]? = some o → StepD P E all an base tm0 (i + j) o (Ks (i + j)) (Vs (i + j)) (Ds (i + j)) (Ds (i + j + 1)) := by
  induction h with
  | nil i d => exact ⟨fun _ => d, fun _ => undefV, fun _ => .quiet, rfl, rfl, fun j o h => by simp at h⟩
  | @cons i o l kd v d d' dn hs _ ih =>
    obtain ⟨Ds, Vs, Ks, h1, h2, h3⟩ := ih
    refine ⟨fun k => if k ≤ i then d else Ds k, fun k => if k ≤ i then v else Vs k, fun k => if k ≤ i then kd else Ks k, by simp, ?_, fun j o' hj => ?_⟩
    · have : ¬ (i + (o :: l).length ≤ i) := by simp
      simp only [this, if_false]
      rw [← h2]; simp; congr 1; omega
    · cases j with
      | zero =>
        simp at hj; subst hj
        have : ¬ (i + 1 ≤ i) := by omega
        simp only [Nat.add_zero, Nat.le_refl, if_true, this, if_false, h1]
        exact hs
      | succ j =>
        have e1 : ¬ (i + (j + 1) ≤ i) := by omega
        have e2 : ¬ (i + (j + 1) + 1 ≤ i) := by omega
        simp only [e1, e2, if_false]
        have := h3 j o' (by simpa using hj)
        rw [show i + (j + 1) = i + 1 + j by omega]
        exact this

theorem StepD.facts {i : Nat} {o : Oper} {kd : Kd} {v : Value} {d d' : Dr} (h : StepD P E all an base tm0 i o kd v d d') :
    d'.vals = Tr.put D d.vals i (some v) ∧ (∀ x ∈ d'.al, x ∈ d.al ∨ (x.1 = i ∧ kd = .new x.2)) ∧
    ((kd = .loud ∧ d'.lds = i :: d.lds ∧ (d'.s.h, d'.lds) ∈ d'.stg) ∨ (kd ≠ .loud ∧ d'.lds = d.lds ∧ d'.s = d.s)) ∧ (∀ x ∈ d.stg, x ∈ d'.stg) ∧ (∀ x ∈ d.lg, x ∈ d'.lg) := by
  cases h with
  | skip => exact ⟨rfl, fun x hx => .inl hx, .inr ⟨by simp, rfl, rfl⟩, fun x hx => hx, fun x hx => hx⟩
  | val => exact ⟨rfl, fun x hx => .inl hx, .inr ⟨by simp, rfl, rfl⟩, fun x hx => hx, fun x hx => by simp [hx]⟩
  | @new d t b k _ _ _ _ =>
    refine ⟨rfl, fun x hx => ?_, .inr ⟨by simp, rfl, rfl⟩, fun x hx => hx, fun x hx => hx⟩
    rcases List.mem_cons.1 hx with rfl | hx
    · exact .inr ⟨rfl, rfl⟩
    · exact .inl hx
  | loud => exact ⟨rfl, fun x hx => .inl hx, .inl ⟨rfl, rfl, by simp⟩, fun x hx => by simp [hx], fun x hx => hx⟩

/-- the whole run, as rows -/
structure Rows (P : Program) (E : Env) (all : List Oper) (an : List Nat) (tm0 : Tm) (s0 : St) (Ds : Nat → Dr) (Vs : Nat → Value) (Ks : Nat → Kd) : Prop where
  zero : Ds 0 = ⟨.nil, [], [], [(s0.h, [])], ⟨s0.h, s0.nx + all.length⟩, []⟩
  step : ∀ j o, all[j]? = some o → StepD P E all an s0.nx tm0 j o (Ks j) (Vs j) (Ds j) (Ds (j + 1))
  anc : ancs all [] = some an
  nodup : nodupN (dsts all) = true
  below : belowN tm0.n (dsts all) = true
  chain : chainOk an (Ds all.length).lds = true
  logs : logsOk E an s0.nx (Ds all.length) (Ds all.length).lg = true

variable {s0 : St} {Ds : Nat → Dr} {Vs : Nat → Value} {Ks : Nat → Kd}

theorem Rows.fact (R : Rows P E all an tm0 s0 Ds Vs Ks) {j : Nat} (hj : j < all.length) : ∃ o, all[j]? = some o ∧ StepD P E all an s0.nx tm0 j o (Ks j) (Vs j) (Ds j) (Ds (j + 1)) :=
  ⟨all[j], by simp [hj], R.step j _ (by simp [hj])⟩

theorem Rows.vals (R : Rows P E all an tm0 s0 Ds Vs Ks) : ∀ i, i ≤ all.length → ∀ j v, (Ds i).vals.get j = some v → j < i ∧ v = Vs j
  | 0, _, j, v, h => by rw [R.zero] at h; cases h
  | i + 1, hi, j, v, h => by
    obtain ⟨o, _, hs⟩ := R.fact (j := i) (by omega)
    rw [hs.facts.1] at h
    rcases Tr.get_put D (some (Vs i)) _ i j v h with ⟨rfl, h2⟩ | ⟨_, h2⟩
    · cases h2; exact ⟨by omega, rfl⟩
    · have := R.vals i (by omega) j v h2
      exact ⟨by omega, this.2⟩

theorem Rows.al (R : Rows P E all an tm0 s0 Ds Vs Ks) : ∀ i, i ≤ all.length → ∀ j b, (j, b) ∈ (Ds i).al → j < i ∧ Ks j = .new b
  | 0, _, j, v, h => by rw [R.zero] at h; cases h
  | i + 1, hi, j, b, h => by
    obtain ⟨o, _, hs⟩ := R.fact (j := i) (by omega)
    rcases hs.facts.2.1 _ h with h1 | ⟨h1, h2⟩
    · have := R.al i (by omega) j b h1
      exact ⟨by omega, this.2⟩
    · simp only at h1 h2
      subst h1
      exact ⟨by omega, h2⟩

theorem Rows.lds (R : Rows P E all an tm0 s0 Ds Vs Ks) : ∀ i, i ≤ all.length → ∀ l, l ∈ (Ds i).lds ↔ l < i ∧ Ks l = .loud
  | 0, _, l => by rw [R.zero]; simp
  | i + 1, hi, l => by
    obtain ⟨o, _, hs⟩ := R.fact (j := i) (by omega)
    have ih := R.lds i (by omega) l
    rcases hs.facts.2.2.1 with ⟨h1, h2, _⟩ | ⟨h1, h2, _⟩
    · rw [h2, List.mem_cons, ih]
      constructor
      · rintro (rfl | ⟨h3, h4⟩)
        · exact ⟨by omega, h1⟩
        · exact ⟨by omega, h4⟩
      · rintro ⟨h3, h4⟩
        by_cases e : l = i
        · exact .inl e
        · exact .inr ⟨by omega, h4⟩
    · rw [h2, ih]
      constructor
      · rintro ⟨h3, h4⟩; exact ⟨by omega, h4⟩
      · rintro ⟨h3, h4⟩
        refine ⟨?_, h4⟩
        by_cases e : l = i
        · subst e; exact absurd h4 h1
        · omega

theorem Rows.same (R : Rows P E all an tm0 s0 Ds Vs Ks) (p : Nat) : ∀ k, p + k ≤ all.length → (∀ j, p ≤ j → j < p + k → Ks j ≠ .loud) → (Ds (p + k)).lds = (Ds p).lds ∧ (Ds (p + k)).s = (Ds p).s
  | 0, _, _ => ⟨rfl, rfl⟩
  | k + 1, hk, h => by
    obtain ⟨o, _, hs⟩ := R.fact (j := p + k) (by omega)
    have ih := R.same p k (by omega) fun j h1 h2 => h j h1 (by omega)
    rcases hs.facts.2.2.1 with ⟨h1, _, _⟩ | ⟨_, h2, h3⟩
    · exact absurd h1 (h (p + k) (by omega) (by omega))
    · rw [show p + (k + 1) = p + k + 1 by omega, h2, h3]; exact ih

theorem Rows.keep (R : Rows P E all an tm0 s0 Ds Vs Ks) (p : Nat) : ∀ k, p + k ≤ all.length → (∀ x ∈ (Ds p).stg, x ∈ (Ds (p + k)).stg) ∧ (∀ x ∈ (Ds p).lg, x ∈ (Ds (p + k)).lg)
  | 0, _ => ⟨fun _ h => h, fun _ h => h⟩
  | k + 1, hk => by
    obtain ⟨o, _, hs⟩ := R.fact (j := p + k) (by omega)
    have ih := R.keep p k (by omega)
    exact ⟨fun x hx => hs.facts.2.2.2.1 x (ih.1 x hx), fun x hx => hs.facts.2.2.2.2 x (ih.2 x hx)⟩

theorem Rows.stage (R : Rows P E all an tm0 s0 Ds Vs Ks) : ∀ p, p ≤ all.length → ((Ds p).s.h, (Ds p).lds) ∈ (Ds p).stg
  | 0, _ => by rw [R.zero]; simp
  | p + 1, hp => by
    obtain ⟨o, _, hs⟩ := R.fact (j := p) (by omega)
    rcases hs.facts.2.2.1 with ⟨_, _, h⟩ | ⟨_, h2, h3⟩
    · exact h
    · rw [h2, h3]; exact hs.facts.2.2.2.1 _ (R.stage p (by omega))

theorem Rows.chainAt (R : Rows P E all an tm0 s0 Ds Vs Ks) : ∀ k p, p + k = all.length → chainOk an (Ds p).lds = true
  | 0, p, h => by rw [show p = all.length by omega]; exact R.chain
  | k + 1, p, h => by
    obtain ⟨o, _, hs⟩ := R.fact (j := p) (by omega)
    have ih := R.chainAt k (p + 1) (by omega)
    rcases hs.facts.2.2.1 with ⟨_, h2, _⟩ | ⟨_, h2, _⟩
    · rw [h2] at ih; exact chainOk_tail ih
    · rw [h2] at ih; exact ih

/-- the new blocks that no loud operation has taken up -/
noncomputable def pend (an : List Nat) (base n : Nat) (Ks : Nat → Kd) (L : Nat → Bool) (lds : List Nat) : Lk := fun id =>
  if base ≤ id ∧ id < base + n then
    match Ks (id - base) with
    | .new b => if L (id - base) = true ∧ unc an lds (id - base) = true then some b else none
    | _ => none
  else none
noncomputable def cur (an : List Nat) (base n : Nat) (Ks : Nat → Kd) (L : Nat → Bool) (d : Dr) : Lk := fun id =>
  match d.s.h.get id with
  | some x => some x
  | none => pend an base n Ks L d.lds id

theorem pend_some {an : List Nat} {base n : Nat} {L : Nat → Bool} {lds : List Nat} {id : Nat} {x : Blk} (h : pend an base n Ks L lds id = some x) :
    ∃ j, j < n ∧ id = base + j ∧ Ks j = .new x ∧ L j = true ∧ unc an lds j = true := by
  unfold pend at h
  split at h
  · rename_i hr
    split at h
    · rename_i b hb
      split at h
      · rename_i hc
        cases h
        exact ⟨id - base, by omega, by omega, hb, hc.1, hc.2⟩
      · cases h
    · cases h
  · cases h
theorem pend_at {an : List Nat} {base n : Nat} {L : Nat → Bool} {lds : List Nat} {j : Nat} {x : Blk} (h0 : j < n) (h1 : Ks j = .new x) (h2 : L j = true) (h3 : unc an lds j = true) :
    pend an base n Ks L lds (base + j) = some x := by
  unfold pend
  rw [if_pos ⟨by omega, by omega⟩, show base + j - base = j by omega, h1]
  simp [h2, h3]
theorem cur_cases {an : List Nat} {base n : Nat} {L : Nat → Bool} {d : Dr} {id : Nat} {x : Blk} (h : cur an base n Ks L d id = some x) :
    d.s.h.get id = some x ∨ (d.s.h.get id = none ∧ pend an base n Ks L d.lds id = some x) := by
  unfold cur at h
  split at h
  · rename_i y hy; cases h; exact .inl hy
  · rename_i hy; exact .inr ⟨hy, h⟩
theorem cur_h {an : List Nat} {base n : Nat} {L : Nat → Bool} {d : Dr} {id : Nat} {x : Blk} (h : d.s.h.get id = some x) : cur an base n Ks L d id = some x := by
  unfold cur; rw [h]
theorem cur_p {an : List Nat} {base n : Nat} {L : Nat → Bool} {d : Dr} {id : Nat} {x : Blk} (h0 : d.s.h.get id = none) (h : pend an base n Ks L d.lds id = some x) : cur an base n Ks L d id = some x := by
  unfold cur; rw [h0]; exact h
end
end Go.Ev

/-
  A part of the proof of FireMay: EvRun. No condition.
-/
import Derived.Test.YthhbpkpnhpdeoaaGreatDoorEvAct13
namespace Go.Ev
open Go

/-- pending calls, the last one first -/
inductive DR (ρ : Rn) : Dl → List Deferred → Prop where
  | nil : DR ρ [] []
  | cons (f : FuncId) {vs args cap : List Value} {ds : Dl} {l : List Deferred} : VR ρ vs (args ++ cap) → DR ρ ds l → DR ρ ((f, vs) :: ds) (⟨.fn (.func f) cap.toArray, args.toArray⟩ :: l)
theorem DR.mono {ρ ρ' : Rn} (e : Ext ρ ρ') {ds : Dl} {l : List Deferred} (h : DR ρ ds l) : DR ρ' ds l := by
  induction h with
  | nil => exact .nil
  | cons f hv _ ih => exact .cons f (hv.mono e) ih

structure StOK (ρ : Rn) (s : St) (w : World) : Prop where
  rel : HRel ρ s.h.get w
  bd : Bd ρ s.nx

/-- from one state to another -/
structure Go2 (ρ : Rn) (s : St) (w : World) (ρ' : Rn) (s' : St) (w' : World) : Prop where
  pst : Pst ρ s.h.get w ρ' s'.h.get w'
  bd : Bd ρ' s'.nx
  mono : s.nx ≤ s'.nx
  old : ∀ id, id < s.nx → ρ' id = ρ id

theorem Go2.ok {ρ ρ' : Rn} {s s' : St} {w w' : World} (h : Go2 ρ s w ρ' s' w') : StOK ρ' s' w' := ⟨h.pst.rel, h.bd⟩
theorem Go2.refl {ρ : Rn} {s : St} {w : World} (h : StOK ρ s w) : Go2 ρ s w ρ s w := ⟨Pst.refl h.rel, h.bd, Nat.le_refl _, fun _ _ => rfl⟩
theorem Go2.trans {ρ ρ₁ ρ₂ : Rn} {s s₁ s₂ : St} {w w₁ w₂ : World} (h : Go2 ρ s w ρ₁ s₁ w₁) (h' : Go2 ρ₁ s₁ w₁ ρ₂ s₂ w₂) : Go2 ρ s w ρ₂ s₂ w₂ := ⟨h.pst.trans h'.pst, h'.bd, Nat.le_trans h.mono h'.mono, fun id hid => (h'.old id (Nat.lt_of_lt_of_le hid h.mono)).trans (h.old id hid)⟩

/-- the frame and memory, behind a piece of code -/
def FrOK (ρ : Rn) (s : St) (w : World) (tm' : Tm) (ds' : Dl) (s' : St) (a' : Act) (w' : World) : Prop :=
  ∃ ρ', Go2 ρ s w ρ' s' w' ∧ TR ρ' tm' a'.tmps ∧ DR ρ' ds' a'.defers

theorem FrOK.trans {ρ ρ₁ : Rn} {s s₁ s' : St} {w w₁ w' : World} {tm' : Tm} {ds' : Dl} {a' : Act} (h : Go2 ρ s w ρ₁ s₁ w₁) (h' : FrOK ρ₁ s₁ w₁ tm' ds' s' a' w') : FrOK ρ s w tm' ds' s' a' w' := by
  obtain ⟨ρ', h1, h2, h3⟩ := h'
  exact ⟨ρ', h.trans h1, h2, h3⟩

def exitOf : X → Exit
  | .normal => .normal
  | .exit i => .exit i
  | .ret => .ret

def CodePost (ρ : Rn) (s : St) (w : World) (x : X) (tm' : Tm) (ds' : Dl) (s' : St) : Exit → Act → World → Prop :=
  fun e a' w' => e = exitOf x ∧ FrOK ρ s w tm' ds' s' a' w'

def CallPost (ρ : Rn) (s : St) (w : World) (v : Value) (s' : St) : Ending → World → Prop :=
  fun e w' => ∃ v' ρ', e = .returned v' ∧ V1 ρ' v v' ∧ Go2 ρ s w ρ' s' w'

/-- what a call comes to, whatever the names -/
def CallSound (P : Program) (f : FuncId) (vs : List Value) (s : St) (v : Value) (s' : St) : Prop :=
  ∀ ρ w args, StOK ρ s w → VR ρ vs args → Calls P f args.toArray w (CallPost ρ s w v s')

structure EnvOK (P : Program) (E : Env) : Prop extends TabOK P E where
  nat : ∀ f g, E.N f = some g → ∀ vs s v s', g vs s = some (v, s') → CallSound P f vs s v s'
  mixed : P.follows .mixedOrders = true

theorem get_put_lk (t : Tr Blk) (n : Nat) (b : Blk) : ∀ i x, (Tr.put D t n (some b)).get i = some x → (i = n ∧ x = b) ∨ (i ≠ n ∧ t.get i = some x) := by
  intro i x h
  rcases Tr.get_put D (some b) t n i x h with ⟨e, h2⟩ | h2
  · cases h2; exact .inl ⟨e, rfl⟩
  · exact .inr h2
theorem get_kill (t : Tr Blk) (d : Option Nat) : ∀ i x, (kill t d).get i = some x → d ≠ some i ∧ t.get i = some x := by
  intro i x h
  cases d with
  | none => exact ⟨by simp, h⟩
  | some n =>
    rcases Tr.get_put D none t n i x h with ⟨_, h2⟩ | ⟨e, h2⟩
    · cases h2
    · exact ⟨fun hh => e (by cases hh; rfl), h2⟩

theorem TR.set {ρ : Rn} {tm : Tm} {a : Act} {v v' : Value} (h : TR ρ tm a.tmps) (hv : V1 ρ v v') (dst : Option Tmp) : TR ρ (setT tm dst v) (a.put dst v').tmps := by
  cases dst with
  | none => exact h
  | some d =>
    simp only [setT, Act.put]
    cases hb : Nat.blt d tm.n with
    | false => exact ⟨by rw [Array.size_setIfInBounds]; exact h.size, fun t u hu => by cases hu⟩
    | true =>
      have hd : d < tm.n := Nat.blt_eq.mp hb
      refine ⟨by rw [Array.size_setIfInBounds]; exact h.size, fun t u hu => ?_⟩
      have hsz := h.size
      have hlt : d < a.tmps.size := Nat.lt_of_lt_of_le hd hsz
      rcases Tr.get_put D (some v) tm.t d t u hu with ⟨e, h2⟩ | ⟨e, h2⟩
      · subst e; cases h2
        exact ⟨v', by rw [Array.getElem?_setIfInBounds, if_pos rfl, if_pos hlt], hv⟩
      · obtain ⟨u', h3, h4⟩ := h.get t u h2
        exact ⟨u', by rw [Array.getElem?_setIfInBounds_ne (Ne.symm e)]; exact h3, h4⟩

theorem put_defers (a : Act) (dst : Option Tmp) (v : Value) : (a.put dst v).defers = a.defers := by cases dst <;> rfl

theorem wants_ok {ρ : Rn} {tm : Tm} {a : Act} (h : TR ρ tm a.tmps) {all : List Oper} {g : Option (Nat × Bool)} {b : Bool} (hw : wants all tm g = some b) (o : Oper) (ho : o.guard = g) : Region.wanted o (yielded all.toArray a.tmps) = b := by
  unfold Region.wanted
  rw [ho]
  cases g with
  | none => cases hw; rfl
  | some jw =>
    obtain ⟨j, want⟩ := jw
    simp only [wants, wants1] at hw
    split at hw
    · rename_i oj hoj
      split at hw
      · rename_i d hd
        rw [nth_eq] at hoj
        unfold wantB at hw
        split at hw
        · rename_i u hu
          cases hw
          obtain ⟨v', h1, h2⟩ := h.get _ _ hu
          have := h2.inv_bool
          subst this
          have hy : yielded all.toArray a.tmps j = some u := by
            simp only [yielded, List.getElem?_toArray, hoj, Option.bind_some, hd, h1]
          simp only [hy]
          cases u <;> cases want <;> rfl
        · rename_i u hnb hu
          cases hw
          obtain ⟨v', h1, h2⟩ := h.get _ _ hu
          have hy : yielded all.toArray a.tmps j = none := by
            simp only [yielded, List.getElem?_toArray, hoj, Option.bind_some, hd, h1]
            cases h2 <;> first | rfl | exact absurd rfl (hnb _)
          simp only [hy]
          cases want <;> rfl
        · cases hw
      · cases hw
    · cases hw

/-- what an operation (but one that makes a new block) comes to -/
inductive Eff (P : Program) : Ac → St → Value → St → Prop where
  | val (v : Value) (s : St) : Eff P (.val v) s v s
  | put (b : Nat) (blk : Blk) (v : Value) (s : St) : Eff P (.put b blk v) s v ⟨Tr.put D s.h b (some blk), s.nx⟩
  | app (dead : Option Nat) (st : Nat) (cells : List Value) (n : Nat) (s : St) : Eff P (.app dead st cells n) s (.slice (some ⟨s.nx, 0, none⟩) n n) ⟨Tr.put D (kill s.h dead) s.nx (some (.cells st cells)), s.nx + 1⟩
  | call {f : FuncId} {vs : List Value} {s s' : St} {v : Value} : CallSound P f vs s v s' → Eff P (.call f vs) s v s'

theorem eff_ok {P : Program} {ρ : Rn} {s s' : St} {w : World} {a : Act} {o : Oper} {ac : Ac} {r : Result Next} {v : Value} (hf : Eff P ac s v s') (S : StOK ρ s w) (hac : AcOK ρ s.h.get w ac r)
    (N : Act → World → Prop) (Q : Exit → Act → World → Prop) (hN : ∀ v' w' ρ', Go2 ρ s w ρ' s' w' → V1 ρ' v v' → N (a.put o.dst v') w') : o.upon P a N Q r := by
  cases hf with
  | val =>
    obtain ⟨v', h1, rfl⟩ := hac
    exact hN v' w ρ (Go2.refl S) h1
  | put b blk =>
    obtain ⟨v', w', c, s0, q, old, hold, hρ, hr, hv, hsz, hb, hoth, hkp⟩ := hac
    have hp : Pst ρ s.h.get w ρ (Tr.put D s.h b (some blk)).get w' := Pst.put S.rel hold hρ hsz hb hoth hkp (get_put_lk s.h b blk)
    have hg : Go2 ρ s w ρ ⟨Tr.put D s.h b (some blk), s.nx⟩ w' := ⟨hp, S.bd, Nat.le_refl _, fun _ _ => rfl⟩
    rcases hr with rfl | ⟨rfl, rfl⟩
    · exact hN _ _ _ hg hv
    · exact hN _ _ _ hg hv
  | app dead st cells n =>
    obtain ⟨c, s0, q, m', w', rfl, hnm, hfit, hsz, hc, hb, hoth, hcase, hkp⟩ := hac
    have hid : ρ s.nx = none := S.bd _ (Nat.le_refl _)
    have hp : Pst ρ s.h.get w (ρ.add s.nx c (s0, q)) (Tr.put D (kill s.h dead) s.nx (some (.cells st cells))).get w' := by
      refine Pst.add S.rel hid hsz hc (hb.mono (Rn.add_ext _ _ hid) rfl) hoth ?_ hkp ?_
      · rcases hcase with rfl | ⟨d, old, s1, rfl, h1, h2⟩
        · exact .inl (Nat.le_refl _)
        · exact .inr ⟨d, old, s1, h1, h2⟩
      · intro i x hx
        rcases get_put_lk _ s.nx _ i x hx with h | ⟨h1, h2⟩
        · exact .inl h
        · obtain ⟨h3, h4⟩ := get_kill _ _ _ _ h2
          refine .inr ⟨h1, h4, fun s' hs' => ?_⟩
          rcases hcase with rfl | ⟨d, old, s1, rfl, h5, h6⟩
          · have := S.rel.low _ _ _ hs'
            omega
          · have hne : i ≠ d := fun e => h3 (by rw [e])
            exact S.rel.apart i d x old c s' c s1 h4 h5 hne hs' h6 rfl
    exact hN _ w' (ρ.add s.nx c (s0, q)) ⟨hp, S.bd.add _ _, Nat.le_succ _, fun id hlt => Rn.add_ne _ _ _ (by omega)⟩ (VR.sl s.nx 0 n n c s0 m' q (Rn.add_at _ _ _ _) hnm (by omega) .nil)
  | call hcall =>
    obtain ⟨args, hv, rfl⟩ := hac
    refine (hcall ρ w args S hv).mono ?_
    rintro e w' ⟨v', ρ', rfl, h1, h2⟩
    exact hN _ _ _ h2 h1

/-- a new block under a free name -/
theorem new_ok {ρ : Rn} {lk lk' : Lk} {w w' : World} {b : Blk} {k : Nk} {v' : Value} {ob : Obj} {q : Nat × Nat} (H : HRel ρ lk w) {id : Nat} (hid : ρ id = none) (hh : w'.heap = w.heap.push ob) (hk : NkRel k w.heap.size q v') (hb : BlkRel ρ w' w.heap.size 0 q b) (hkp : Kept w w')
    (hlk : ∀ i x, lk' i = some x → (i = id ∧ x = b) ∨ (i ≠ id ∧ lk i = some x)) :
    Pst ρ lk w (ρ.add id w.heap.size (0, q)) lk' w' ∧ V1 (ρ.add id w.heap.size (0, q)) (nkVal k id) v' := by
  have hp : Pst ρ lk w (ρ.add id w.heap.size (0, q)) lk' w' := by
    refine Pst.add H hid (by rw [hh]; simp) (by rw [hh]; simp) (hb.mono (Rn.add_ext _ _ hid) rfl) (fun c' hc' _ => by rw [hh, Array.getElem?_push_lt hc']; simp [hc']) (.inl (Nat.le_refl _)) hkp ?_
    intro i x hx
    rcases hlk i x hx with h | ⟨h1, h2⟩
    · exact .inl h
    · refine .inr ⟨h1, h2, fun s' hs' => ?_⟩
      have := H.low _ _ _ hs'
      omega
  refine ⟨hp, ?_⟩
  have hat := Rn.add_at ρ id w.heap.size (0, q)
  cases k with
  | ptr => cases hk; exact VR.ptr id 0 w.heap.size 0 q hat .nil
  | sl n m => obtain ⟨m', h1, h2, rfl⟩ := hk; exact VR.sl id 0 n m w.heap.size 0 m' q hat h1 (by omega) .nil
  | mp => cases hk; exact VR.map id w.heap.size q hat .nil

/-- one operation: what is asked of the rest -/
theorem upon_ok {P : Program} {ρ : Rn} {s : St} {w : World} {a : Act} {tm : Tm} {ds : Dl} {o : Oper} (S : StOK ρ s w) (hTm : TR ρ tm a.tmps) (hD : DR ρ ds a.defers) {ac : Ac} {r : Result Next} (hac : AcOK ρ s.h.get w ac r)
    {rc : Bool} {all l : List Oper} {ih : Ih} {out : Out} (hf : fin rc all l o.dst tm ds s ih ac = some out) (hcall : ∀ f vs v s2, ih (.call f vs s) = some (.call v s2) → CallSound P f vs s v s2) :
    (ac = .recover ∧ rc = true ∧ r = .ok .recover w ∧ ih (.ops rc all l (setT tm o.dst .nilIface) ds s) = some out) ∨
    ∃ tm2 ds2 s2, ih (.ops rc all l tm2 ds2 s2) = some out ∧ (∀ w', r ≠ .ok .recover w') ∧ ∀ (N : Act → World → Prop) (Q : Exit → Act → World → Prop), (∀ a' w', FrOK ρ s w tm2 ds2 s2 a' w' → N a' w') → o.upon P a N Q r := by
  have byEff : ∀ {v s2}, Eff P ac s v s2 → (∀ w', r ≠ .ok .recover w') → ih (.ops rc all l (setT tm o.dst v) ds s2) = some out → (ac = .recover ∧ rc = true ∧ r = .ok .recover w ∧ ih (.ops rc all l (setT tm o.dst .nilIface) ds s) = some out) ∨
      ∃ tm2 ds2 s2, ih (.ops rc all l tm2 ds2 s2) = some out ∧ (∀ w', r ≠ .ok .recover w') ∧ ∀ (N : Act → World → Prop) (Q : Exit → Act → World → Prop), (∀ a' w', FrOK ρ s w tm2 ds2 s2 a' w' → N a' w') → o.upon P a N Q r :=
    fun he hne hi => .inr ⟨_, _, _, hi, hne, fun N Q hN => eff_ok he S hac N Q fun v' w' ρ' hg hv => hN _ _ ⟨ρ', hg, (hTm.mono hg.pst.ext).set hv o.dst, by rw [put_defers]; exact hD.mono hg.pst.ext⟩⟩
  cases ac with
  | fail => simp [fin] at hf
  | val v => exact byEff (.val v s) (by obtain ⟨v', _, rfl⟩ := hac; simp) hf
  | new b k =>
    obtain ⟨v', ob, w', q, rfl, hh, hk, hb, hkp⟩ := hac
    refine .inr ⟨_, _, _, hf, by simp, fun N Q hN => hN _ _ ?_⟩
    have hid : ρ s.nx = none := S.bd _ (Nat.le_refl _)
    obtain ⟨hp, hv⟩ := new_ok S.rel hid hh hk hb hkp (get_put_lk s.h s.nx b)
    exact ⟨_, ⟨hp, S.bd.add _ _, Nat.le_succ _, fun id hlt => Rn.add_ne _ _ _ (by omega)⟩, (hTm.mono hp.ext).set hv o.dst, by rw [put_defers]; exact hD.mono hp.ext⟩
  | put b blk v => exact byEff (.put b blk v s) (by obtain ⟨v', w', c, s0, q, old, _, _, hr, _⟩ := hac; intro w2; rcases hr with rfl | ⟨rfl, _⟩ <;> simp) hf
  | app dead st cells n => exact byEff (.app dead st cells n s) (by obtain ⟨c, s0, q, m', w', rfl, _⟩ := hac; simp) hf
  | call f vs =>
    simp only [fin, afterCall] at hf
    split at hf
    · rename_i v s2 hc
      exact byEff (.call (hcall f vs v s2 hc)) (by obtain ⟨args, _, rfl⟩ := hac; simp) hf
    · cases hf
  | defer f vs =>
    obtain ⟨args, cap, hv, rfl⟩ := hac
    refine .inr ⟨_, _, _, hf, by simp, fun N Q hN => hN _ _ ⟨ρ, Go2.refl S, ?_, ?_⟩⟩
    · exact TR.set (a := { a with defers := _ :: a.defers }) hTm V1.undef o.dst
    · rw [put_defers]; exact .cons f hv hD
  | recover =>
    simp only [fin] at hf
    split at hf
    · exact .inl ⟨rfl, rfl, hac, hf⟩
    · cases hf
end Go.Ev

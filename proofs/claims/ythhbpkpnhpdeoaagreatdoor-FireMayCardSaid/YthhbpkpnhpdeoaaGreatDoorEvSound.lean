/-
  A part of the proof of FireMay: EvSound. No condition.
-/
import Derived.Test.YthhbpkpnhpdeoaaGreatDoorEvDraw4
import Derived.Recover
import Derived.LoopN
namespace Go.Ev
open Go

section
variable {P : Program} {E : Env}

theorem resV_ok (K : TabOK P E) {ρ : Rn} {s : St} {w : World} (S : StOK ρ s w) {tm : Tm} {tmps : Array Value} (hTm : TR ρ tm tmps) : ∀ {rs : List ResultVar} {vs : List Value}, resV E tm s.h.get rs = some vs →
    ∃ vs', VR ρ vs vs' ∧ (rs.mapM fun
      | .tmp t => pure (tmps.getD t undef)
      | .cell a t => do loadVar t (← asAddr (tmps.getD a undef)) : Sem (List Value)).run P w = .ok vs' w
  | [], vs, h => by simp [resV] at h; subst h; exact ⟨[], .nil, by simp⟩
  | .tmp t :: l, vs, h => by
    simp only [resV] at h
    split at h
    · rename_i v us hv hu
      cases h
      obtain ⟨us', h1, h2⟩ := resV_ok K S hTm hu
      obtain ⟨v', h3, h4⟩ := hTm.get _ _ hv
      refine ⟨v' :: us', VR.cons h4 h1, ?_⟩
      have : tmps.getD t undef = v' := by simp [Array.getD_eq_getD_getElem?, h3]
      rw [List.mapM_cons]
      simp only [Sem.run_bind, Sem.run_pure, Result.andThen_ok, this, h2]
    · cases h
  | .cell a t :: l, vs, h => by
    simp only [resV] at h
    split at h
    · rename_i p hp
      split at h
      · rename_i v us hv hu
        cases h
        obtain ⟨us', h1, h2⟩ := resV_ok K S hTm hu
        obtain ⟨p', h3, h4⟩ := hTm.get _ _ hp
        obtain ⟨v', h5, h6⟩ := load_sound (P := P) K.typ S.rel hv h4
        refine ⟨v' :: us', VR.cons h6 h1, ?_⟩
        have hge : tmps.getD a undef = p' := by simp [Array.getD_eq_getD_getElem?, h3]
        rw [List.mapM_cons]
        have h7 : (do loadVar t (← asAddr p') : Sem Value).run P w = .ok v' w := by
          unfold load at hv
          split at hv
          · cases h4
            simpa [Instr.loadAt, Instr.sureAddr, asAddr] using h5
          · cases hv
        simp only [Sem.run_bind, hge] at h7 ⊢
        rw [h7]
        simp only [Result.andThen_ok, h2, Sem.run_pure]
      · cases h
    · cases h

theorem results_ok (K : TabOK P E) {ρ : Rn} {s : St} {w : World} (S : StOK ρ s w) {tm : Tm} {tmps : Array Value} (hTm : TR ρ tm tmps) {fn : Func} {v : Value} (h : results E tm s.h.get fn.results.toList = some v) :
    ∃ v', V1 ρ v v' ∧ (Go.results fn tmps).run P w = .ok v' w := by
  unfold results at h
  have key : ∀ vs, resV E tm s.h.get fn.results.toList = some vs → ∃ vs', VR ρ vs vs' ∧ (Go.results fn tmps).run P w = .ok (if h : vs'.toArray.size = 1 then vs'.toArray[0] else .tuple vs'.toArray) w := by
    intro vs hvs
    obtain ⟨vs', h1, h2⟩ := resV_ok K S hTm hvs
    refine ⟨vs', h1, ?_⟩
    simp only [Go.results, Sem.run_bind]
    rw [Array.mapM_eq_mapM_toList]
    simp only [Sem.run_map]
    erw [h2]
    simp only [Result.andThen_ok, Sem.run_pure]
  split at h
  · rename_i u hu
    cases h
    obtain ⟨vs', h1, h2⟩ := key _ hu
    obtain ⟨v', t', rfl, h3, h4⟩ := h1.uncons
    have := h4.nil_l; subst this
    exact ⟨v', h3, by simpa using h2⟩
  · rename_i us hne hu
    cases h
    obtain ⟨vs', h1, h2⟩ := key _ hu
    refine ⟨.tuple vs'.toArray, VR.tup h1 .nil, ?_⟩
    have : vs'.length ≠ 1 := by
      intro hl
      rw [← h1.length] at hl
      match us, hl with
      | [x], _ => exact hne x rfl
    simpa [this] using h2
  · cases h

theorem putArgs_get : ∀ (vs : List Value) (i : Nat) (tm : Tr Value) (t : Nat) (v : Value), (putArgs i vs tm).get t = some v → (∃ j, t = i + j ∧ vs[j]? = some v) ∨ tm.get t = some v
  | [], i, tm, t, v, h => .inr h
  | x :: vs, i, tm, t, v, h => by
    rcases putArgs_get vs (i + 1) _ t v h with ⟨j, e, hj⟩ | h
    · exact .inl ⟨j + 1, by omega, by simpa using hj⟩
    · rcases Tr.get_put D (some x) tm i t v h with ⟨e, h2⟩ | ⟨e, h2⟩
      · cases h2; exact .inl ⟨0, by omega, by simp⟩
      · exact .inr h2

theorem VR.get {ρ : Rn} {l l' : List Value} (h : VR ρ l l') {i : Nat} {v : Value} (hi : l[i]? = some v) : ∃ v', l'[i]? = some v' ∧ V1 ρ v v' := h.nth (by rw [nth_eq]; exact hi)

theorem TR.enter {ρ : Rn} {vs args : List Value} (h : VR ρ vs args) (n : Nat) : TR ρ ⟨n, putArgs 0 vs .nil⟩ (args.toArray ++ Array.replicate (n - args.toArray.size) undef) := by
  refine ⟨by simp; omega, fun t v hv => ?_⟩
  rcases putArgs_get vs 0 .nil t v hv with ⟨j, e, hj⟩ | h2
  · obtain ⟨v', h3, h4⟩ := h.get hj
    refine ⟨v', ?_, h4⟩
    have : t = j := by omega
    subst this
    have hlt : t < args.length := by
      rcases Nat.lt_or_ge t args.length with h5 | h5
      · exact h5
      · rw [List.getElem?_eq_none h5] at h3; cases h3
    rw [Array.getElem?_append_left (by simpa using hlt)]
    simpa using h3
  · rw [Tr.get_nil] at h2; cases h2

/-- deferred calls, behind a return -/
def DefSound (P : Program) (ds : Dl) (s s' : St) : Prop :=
  ∀ ρ w defers, StOK ρ s w → DR ρ ds defers → ∀ (fn : Func) (tmps : Array Value) (R : Ending → World → Prop),
    (∀ ρ' w', Go2 ρ s w ρ' s' w' → ∃ v, (Go.results fn tmps).run P w' = .ok v w' ∧ R (.returned v) w') → Leaves P fn tmps R defers .returning w

def SPost (c₀ : Frame) (cs : List Frame) (Q : Exit → Act → World → Prop) : Exit → Act → List Frame → World → Prop := fun e a' cs' w' => cs' = c₀ :: cs ∧ Q e a' w'

/-- operations in a row, in a deferred call's frame -/
def wpListS (P : Program) (ops : Array Oper) (Q : Exit → Act → List Frame → World → Prop) : List Oper → Act → List Frame → World → Prop
  | [], a, cs, w => Q .normal a cs w
  | o :: rest, a, cs, w =>
    if Region.wanted o (yielded ops a.tmps) then
      match (execOp a.eval o).run P w with
      | .ok .recover w' =>
        match recoverD cs with
        | some (v, cs') => wpListS P ops Q rest (a.put o.dst v) cs' w'
        | none => wpListS P ops Q rest (a.put o.dst .nilIface) cs w'
      | r => o.upon P a (fun a' w' => wpListS P ops Q rest a' cs w') (fun e a' w' => Q e a' cs w') r
    else wpListS P ops Q rest (a.put o.dst undef) cs w

theorem wpOpsS_eq {ops : Array Oper} {Q : Exit → Act → List Frame → World → Prop} (l : List Oper) : ∀ k, (∀ j, l[j]? = ops[k + j]?) → wpOpsS P ops Q (List.range' k l.length) = wpListS P ops Q l := by
  induction l with
  | nil => intro k _; funext a cs w; simp [wpOpsS, wpListS]
  | cons o l ih =>
    intro k h
    have h0 : ops[k]? = some o := by simpa using (h 0).symm
    have ih' := ih (k + 1) (fun j => by have := h (j + 1); simpa [Nat.add_assoc, Nat.add_comm 1 j] using this)
    funext a cs w
    simp only [List.length_cons, List.range'_succ, wpOpsS, h0, wpListS, ih']
    rfl

theorem wpS_region_list {ops : Array Oper} {Q : Exit → Act → List Frame → World → Prop} {a : Act} {cs : List Frame} {w : World} {id : Nat} (h : wpListS P ops Q ops.toList a cs w) : (Code.region id ops false).wpS P Q a cs w :=
  wpS_region (by rw [List.range_eq_range', ← Array.length_toList, wpOpsS_eq ops.toList 0 (by simp)]; exact h)

def SoundT (P : Program) (E : Env) (t : Task) (o : Out) : Prop :=
  match t, o with
  | .code false c tm ds s, .code x tm' ds' s' => (∀ ρ a w, StOK ρ s w → TR ρ tm a.tmps → DR ρ ds a.defers → c.wp P (CodePost ρ s w x tm' ds' s') a w) ∧
      ∀ b, c = .loop b → ∃ n, ∀ ρ a w, StOK ρ s w → TR ρ tm a.tmps → DR ρ ds a.defers → b.rounds P (CodePost ρ s w x tm' ds' s') n a w
  | .ops false all l tm ds s, .ops tm' ds' s' => ∀ ρ a w, StOK ρ s w → TR ρ tm a.tmps → DR ρ ds a.defers → ∀ Q : Exit → Act → World → Prop,
      (∀ a' w', FrOK ρ s w tm' ds' s' a' w' → Q .normal a' w') → wpList P all.toArray Q l a w
  | .code true c tm ds s, .code x tm' ds' s' => ∀ ρ a w, StOK ρ s w → TR ρ tm a.tmps → DR ρ ds a.defers → ∀ (c₀ : Frame) (cs : List Frame), c₀.mode = .returning → c.wpS P (SPost c₀ cs (CodePost ρ s w x tm' ds' s')) a (c₀ :: cs) w
  | .ops true all l tm ds s, .ops tm' ds' s' => ∀ ρ a w, StOK ρ s w → TR ρ tm a.tmps → DR ρ ds a.defers → ∀ (c₀ : Frame) (cs : List Frame), c₀.mode = .returning → ∀ Q : Exit → Act → List Frame → World → Prop,
      (∀ a' w', FrOK ρ s w tm' ds' s' a' w' → Q .normal a' (c₀ :: cs) w') → wpListS P all.toArray Q l a (c₀ :: cs) w
  | .call f vs s, .call v s' => CallSound P f vs s v s'
  | .draw all an base tm i l d, .drawn dn => Trace P E all an base tm i l d dn
  | .defers ds s, .ops _ _ s' => DefSound P ds s s'
  | _, _ => True

/-- what is known of the runs below -/
def IhOK (P : Program) (E : Env) (ih : Ih) : Prop := ∀ t o, ih t = some o → SoundT P E t o

theorem tOps_sound (K : EnvOK P E) {ih : Ih} (I : IhOK P E ih) {all l : List Oper} {tm : Tm} {ds : Dl} {s : St} {o : Out} (h : tOps E ih false all l tm ds s = some o) : SoundT P E (.ops false all l tm ds s) o := by
  unfold tOps at h
  split at h
  · cases h
    intro ρ a w S hTm hD Q hQ
    exact hQ _ _ ⟨ρ, Go2.refl S, hTm, hD⟩
  · rename_i op l
    unfold doOp at h
    split at h
    · rename_i hw
      cases o with
      | ops tm' ds' s' =>
        intro ρ a w S hTm hD Q hQ
        have hac := act_sound K.toTabOK S.rel hTm op
        rcases upon_ok S hTm hD hac h (fun f vs v s2 hc => I _ _ hc) with ⟨_, hrc, _⟩ | ⟨tm2, ds2, s2, h1, _, h2⟩
        · cases hrc
        · refine wpList_step fun N hN => ?_
          rw [wants_ok hTm hw op rfl]
          simp only [if_true]
          refine h2 N Q fun a' w' hfr => hN a' w' ?_
          obtain ⟨ρ', g1, g2, g3⟩ := hfr
          exact I _ _ h1 ρ' a' w' g1.ok g2 g3 Q fun a2 w2 hf2 => hQ _ _ (hf2.trans g1)
      | _ => exact trivial
    · rename_i hw
      cases o with
      | ops tm' ds' s' =>
        intro ρ a w S hTm hD Q hQ
        refine wpList_step fun N hN => ?_
        rw [wants_ok hTm hw op rfl]
        simp only [Bool.false_eq_true, if_false]
        exact hN _ _ (I _ _ h ρ _ w S (hTm.set V1.undef op.dst) (by rw [put_defers]; exact hD) Q hQ)
      | _ => exact trivial
    · cases h

theorem rounds_mono {c : Code} {Q Q' : Exit → Act → World → Prop} (h : ∀ e a w, Q e a w → Q' e a w) : ∀ (n : Nat) (a : Act) (w : World), c.rounds P Q n a w → c.rounds P Q' n a w
  | 0, _, _, hh => hh
  | n + 1, a, w, hh => wp_mono hh fun e a' w' hq => by
      cases e with
      | normal => exact rounds_mono h n a' w' hq
      | _ => exact h _ _ _ hq

theorem CodePost.trans {ρ ρ₁ : Rn} {s s₁ s' : St} {w w₁ : World} {x : X} {tm' : Tm} {ds' : Dl} (h : Go2 ρ s w ρ₁ s₁ w₁) {e : Exit} {a' : Act} {w' : World} (hq : CodePost ρ₁ s₁ w₁ x tm' ds' s' e a' w') : CodePost ρ s w x tm' ds' s' e a' w' :=
  ⟨hq.1, hq.2.trans h⟩

theorem then_of {x : X} {e : Exit} {N : Act → World → Prop} {Q : Exit → Act → World → Prop} {a : Act} {w : World} (he : e = exitOf x) (hn : x = .normal → N a w) (hq : x ≠ .normal → Q e a w) : Exit.then N Q e a w := by
  subst he
  cases x with
  | normal => exact hn rfl
  | exit i => exact hq (by simp)
  | ret => exact hq (by simp)

theorem tCode_sound (K : EnvOK P E) {ih : Ih} (I : IhOK P E ih) {c : Code} {tm : Tm} {ds : Dl} {s : St} {o : Out} (h : tCode E ih false c tm ds s = some o) : SoundT P E (.code false c tm ds s) o := by
  cases c with
  | skip =>
    cases (show some (Out.code .normal tm ds s) = some o from h)
    exact ⟨fun ρ a w S hTm hD => wp_skip ⟨rfl, ρ, Go2.refl S, hTm, hD⟩, fun b hb => by cases hb⟩
  | label l =>
    cases (show some (Out.code .normal tm ds s) = some o from h)
    exact ⟨fun ρ a w S hTm hD => wp_label ⟨rfl, ρ, Go2.refl S, hTm, hD⟩, fun b hb => by cases hb⟩
  | exit i =>
    cases (show some (Out.code (.exit i) tm ds s) = some o from h)
    exact ⟨fun ρ a w S hTm hD => wp_exit ⟨rfl, ρ, Go2.refl S, hTm, hD⟩, fun b hb => by cases hb⟩
  | ret =>
    cases (show some (Out.code .ret tm ds s) = some o from h)
    exact ⟨fun ρ a w S hTm hD => wp_ret ⟨rfl, ρ, Go2.refl S, hTm, hD⟩, fun b hb => by cases hb⟩
  | region id ops draw =>
    have h : kRegion id ops draw E ih false tm ds s = some o := h
    cases draw with
    | true =>
      have h : startD E ops.toList tm ds s ih (ancs ops.toList []) = some o := h
      cases han : ancs ops.toList [] with
      | none => rw [han] at h; cases h
      | some an =>
        rw [han] at h
        obtain ⟨tm', s', rfl, hs⟩ := startD_sound (an := an) K (fun i l d dn hr => I _ _ hr) han h
        refine ⟨fun ρ a w S hTm hD => ?_, fun b hb => by cases hb⟩
        have := hs id ρ a w S hTm hD
        rw [Array.toArray_toList] at this
        exact this
    | false =>
      have h : regK (ih (.ops false ops.toList ops.toList tm ds s)) = some o := h
      unfold regK at h
      split at h
      · rename_i tm' ds' s' hr
        cases h
        refine ⟨fun ρ a w S hTm hD => wp_region_list ?_, fun b hb => by cases hb⟩
        have := I _ _ hr ρ a w S hTm hD (CodePost ρ s w .normal tm' ds' s') (fun a' w' hf => ⟨rfl, hf⟩)
        rw [Array.toArray_toList] at this
        exact this
      · cases h
  | seq x y =>
    have h : seqK false y ih (ih (.code false x tm ds s)) = some o := h
    unfold seqK at h
    split at h
    · rename_i e tm1 ds1 s1 hr
      have hx := (I _ _ hr).1
      split at h
      · cases o with
        | code x2 tm2 ds2 s2 =>
          refine ⟨fun ρ a w S hTm hD => wp_seq ?_, fun b hb => by cases hb⟩
          refine wp_mono (hx ρ a w S hTm hD) ?_
          rintro e a' w' ⟨he, ρ', g1, g2, g3⟩
          subst he
          exact wp_mono ((I _ _ h).1 ρ' a' w' g1.ok g2 g3) fun e2 a2 w2 hq => hq.trans g1
        | _ => exact trivial
      · rename_i hne
        cases h
        refine ⟨fun ρ a w S hTm hD => wp_seq ?_, fun b hb => by cases hb⟩
        refine wp_mono (hx ρ a w S hTm hD) ?_
        rintro e2 a' w' hq
        exact then_of hq.1 (fun hh => absurd hh hne) (fun _ => hq)
    · cases h
  | cond c x y =>
    have h : condK false x y tm ds s ih (ev tm c) = some o := h
    unfold condK at h
    split at h
    · rename_i hc
      cases o with
      | code x2 tm2 ds2 s2 =>
        refine ⟨fun ρ a w S hTm hD => ?_, fun b hb => by cases hb⟩
        have := (ev_sound S.rel.zero hTm hc).inv_bool
        exact wp_cond_true this ((I _ _ h).1 ρ a w S hTm hD)
      | _ => exact trivial
    · rename_i hc
      cases o with
      | code x2 tm2 ds2 s2 =>
        refine ⟨fun ρ a w S hTm hD => ?_, fun b hb => by cases hb⟩
        have := (ev_sound S.rel.zero hTm hc).inv_bool
        exact wp_cond_false this ((I _ _ h).1 ρ a w S hTm hD)
      | _ => exact trivial
    · cases h
  | block id x =>
    have h : blockK id (ih (.code false x tm ds s)) = some o := h
    unfold blockK at h
    split at h
    · rename_i e tm1 ds1 s1 hr
      have hx := (I _ _ hr).1
      split at h
      · rename_i j
        split at h
        · rename_i hj
          have hj := Nat.eq_of_beq_eq_true hj
          cases h
          refine ⟨fun ρ a w S hTm hD => wp_block (wp_mono (hx ρ a w S hTm hD) ?_), fun b hb => by cases hb⟩
          rintro e2 a' w' ⟨he, hf⟩
          subst he
          simp only [exitOf, Exit.inBlock, hj, if_true]
          exact ⟨rfl, hf⟩
        · rename_i hj
          have hj : j ≠ id := fun e => by subst e; simp at hj
          cases h
          refine ⟨fun ρ a w S hTm hD => wp_block (wp_mono (hx ρ a w S hTm hD) ?_), fun b hb => by cases hb⟩
          rintro e2 a' w' ⟨he, hf⟩
          subst he
          simp only [exitOf, Exit.inBlock, hj, if_false]
          exact ⟨rfl, hf⟩
      · rename_i hne
        cases h
        refine ⟨fun ρ a w S hTm hD => wp_block (wp_mono (hx ρ a w S hTm hD) ?_), fun b hb => by cases hb⟩
        rintro e2 a' w' ⟨he, hf⟩
        subst he
        cases e with
        | exit j => exact absurd rfl (hne j)
        | normal => exact ⟨rfl, hf⟩
        | ret => exact ⟨rfl, hf⟩
    · cases h
  | loop x =>
    have h : seqK false (.loop x) ih (ih (.code false x tm ds s)) = some o := h
    unfold seqK at h
    split at h
    · rename_i e tm1 ds1 s1 hr
      have hx := (I _ _ hr).1
      have key : ∀ x2 tm2 ds2 s2, o = .code x2 tm2 ds2 s2 → ∃ n, ∀ ρ a w, StOK ρ s w → TR ρ tm a.tmps → DR ρ ds a.defers → x.rounds P (CodePost ρ s w x2 tm2 ds2 s2) n a w := by
        rintro x2 tm2 ds2 s2 rfl
        split at h
        · obtain ⟨n, hn⟩ := (I _ _ h).2 x rfl
          refine ⟨n + 1, fun ρ a w S hTm hD => ?_⟩
          refine wp_mono (hx ρ a w S hTm hD) ?_
          rintro e a' w' ⟨he, ρ', g1, g2, g3⟩
          subst he
          exact rounds_mono (fun e2 a2 w2 hq => hq.trans g1) n a' w' (hn ρ' a' w' g1.ok g2 g3)
        · rename_i hne
          cases h
          refine ⟨1, fun ρ a w S hTm hD => ?_⟩
          refine wp_mono (hx ρ a w S hTm hD) ?_
          rintro e2 a' w' hq
          exact then_of hq.1 (fun hh => absurd hh hne) (fun _ => hq)
      cases o with
      | code x2 tm2 ds2 s2 =>
        obtain ⟨n, hn⟩ := key x2 tm2 ds2 s2 rfl
        exact ⟨fun ρ a w S hTm hD => wp_loop_rounds n (hn ρ a w S hTm hD), fun b hb => by cases hb; exact ⟨n, hn⟩⟩
      | _ => exact trivial
    · cases h
  | rangeFunc f ps as b => cases (show (none : Option Out) = some o from h)
  | scope b => cases (show (none : Option Out) = some o from h)
  | goto l => cases (show (none : Option Out) = some o from h)
  | refuse why => cases (show (none : Option Out) = some o from h)
end
end Go.Ev

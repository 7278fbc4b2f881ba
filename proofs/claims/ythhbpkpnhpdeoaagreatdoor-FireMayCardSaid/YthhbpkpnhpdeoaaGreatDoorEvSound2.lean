/-
  A part of the proof of FireMay: EvSound2. No condition.
-/
import Derived.Test.YthhbpkpnhpdeoaaGreatDoorEvSound
namespace Go.Ev
open Go

section
variable {P : Program} {E : Env}

theorem tOpsS_sound (K : EnvOK P E) {ih : Ih} (I : IhOK P E ih) {all l : List Oper} {tm : Tm} {ds : Dl} {s : St} {o : Out} (h : tOps E ih true all l tm ds s = some o) : SoundT P E (.ops true all l tm ds s) o := by
  unfold tOps at h
  split at h
  · cases h
    intro ρ a w S hTm hD c₀ cs hm Q hQ
    exact hQ _ _ ⟨ρ, Go2.refl S, hTm, hD⟩
  · rename_i op l
    unfold doOp at h
    split at h
    · rename_i hw
      cases o with
      | ops tm' ds' s' =>
        intro ρ a w S hTm hD c₀ cs hm Q hQ
        have hac := act_sound K.toTabOK S.rel hTm op
        rcases upon_ok S hTm hD hac h (fun f vs v s2 hc => I _ _ hc) with ⟨_, _, hr, h1⟩ | ⟨tm2, ds2, s2, h1, hne, h2⟩
        · unfold wpListS
          rw [wants_ok hTm hw op rfl, if_pos rfl, hr]
          have hrec : recoverD (c₀ :: cs) = none := by simp [recoverD, hm]
          simp only [hrec]
          exact I _ _ h1 ρ _ w S (hTm.set (.nilIface .nil) op.dst) (by rw [put_defers]; exact hD) c₀ cs hm Q hQ
        · unfold wpListS
          rw [wants_ok hTm hw op rfl, if_pos rfl]
          split
          · rename_i w' hr
            exact absurd hr (hne w')
          · refine h2 _ _ fun a' w' hfr => ?_
            obtain ⟨ρ', g1, g2, g3⟩ := hfr
            exact I _ _ h1 ρ' a' w' g1.ok g2 g3 c₀ cs hm Q fun a2 w2 hf2 => hQ _ _ (hf2.trans g1)
      | _ => exact trivial
    · rename_i hw
      cases o with
      | ops tm' ds' s' =>
        intro ρ a w S hTm hD c₀ cs hm Q hQ
        unfold wpListS
        rw [wants_ok hTm hw op rfl, if_neg (by simp)]
        exact I _ _ h ρ _ w S (hTm.set V1.undef op.dst) (by rw [put_defers]; exact hD) c₀ cs hm Q hQ
      | _ => exact trivial
    · cases h

section
variable {Q : Exit → Act → List Frame → World → Prop} {a : Act} {cs : List Frame} {w : World}
theorem wpS_mono {c : Code} {Q' : Exit → Act → List Frame → World → Prop} (h : c.wpS P Q a cs w) (hq : ∀ e a cs w, Q e a cs w → Q' e a cs w) : c.wpS P Q' a cs w :=
  fun b k hb hr => let ⟨e, a', cs', w', q, r⟩ := h b k hb hr; ⟨e, a', cs', w', hq _ _ _ _ q, r⟩
def inBlockS (id : Nat) (Q : Exit → Act → List Frame → World → Prop) : Exit → Act → List Frame → World → Prop
  | .exit id', a, cs, w => if id' = id then Q .normal a cs w else Q (.exit id') a cs w
  | e, a, cs, w => Q e a cs w
theorem wpS_block {id : Nat} {c : Code} (h : c.wpS P (inBlockS id Q) a cs w) : (Code.block id c).wpS P Q a cs w := by
  intro b k hb hr
  obtain ⟨e, a₁, cs₁, w₁, hq, harr⟩ := h b (.inBlock id :: k) hb hr
  cases e with
  | normal => exact ⟨.normal, a₁, cs₁, w₁, hq, .head step_block (Steps.trans harr (.one step_inBlock))⟩
  | exit id' =>
    by_cases hid : id' = id
    · simp only [inBlockS, hid, if_true] at hq
      exact ⟨.normal, a₁, cs₁, w₁, hq, .head step_block (harr k (by simp [exitTo, hid]))⟩
    · simp only [inBlockS, hid, if_false] at hq
      refine ⟨.exit id', a₁, cs₁, w₁, hq, fun k' hk => .head step_block (harr k' ?_)⟩
      have : (id == id') = false := by simp; exact fun h => hid h.symm
      simp [exitTo, this, hk]
  | goto l => exact ⟨.goto l, a₁, cs₁, w₁, hq, fun k' hk => .head step_block (harr k' (by simp [gotoIn, hk]))⟩
  | ret => exact ⟨.ret, a₁, cs₁, w₁, hq, Arrives.of_steps (e := .ret) (b := b) (k := k) (.one step_block) harr⟩
  | panic ch => exact ⟨.panic ch, a₁, cs₁, w₁, hq, Arrives.of_steps (e := .panic ch) (b := b) (k := k) (.one step_block) harr⟩
  | outgrown => exact ⟨.outgrown, a₁, cs₁, w₁, hq, Arrives.of_steps (e := .outgrown) (b := b) (k := k) (a := a₁) (w := w₁) (.one step_block) harr⟩
end

theorem tCodeS_sound {ih : Ih} (I : IhOK P E ih) {c : Code} {tm : Tm} {ds : Dl} {s : St} {o : Out} (h : tCode E ih true c tm ds s = some o) : SoundT P E (.code true c tm ds s) o := by
  cases c with
  | skip =>
    cases (show some (Out.code .normal tm ds s) = some o from h)
    exact fun ρ a w S hTm hD c₀ cs hm => wpS_of_wp (wp_skip ⟨rfl, rfl, ρ, Go2.refl S, hTm, hD⟩)
  | label l =>
    cases (show some (Out.code .normal tm ds s) = some o from h)
    exact fun ρ a w S hTm hD c₀ cs hm => wpS_of_wp (wp_label ⟨rfl, rfl, ρ, Go2.refl S, hTm, hD⟩)
  | exit i =>
    cases (show some (Out.code (.exit i) tm ds s) = some o from h)
    exact fun ρ a w S hTm hD c₀ cs hm => wpS_of_wp (wp_exit ⟨rfl, rfl, ρ, Go2.refl S, hTm, hD⟩)
  | ret =>
    cases (show some (Out.code .ret tm ds s) = some o from h)
    exact fun ρ a w S hTm hD c₀ cs hm => wpS_of_wp (wp_ret ⟨rfl, rfl, ρ, Go2.refl S, hTm, hD⟩)
  | region id ops draw =>
    have h : kRegion id ops draw E ih true tm ds s = some o := h
    cases draw with
    | true => cases h
    | false =>
      have h : regK (ih (.ops true ops.toList ops.toList tm ds s)) = some o := h
      unfold regK at h
      split at h
      · rename_i tm' ds' s' hr
        cases h
        intro ρ a w S hTm hD c₀ cs hm
        refine wpS_region_list ?_
        have := I _ _ hr ρ a w S hTm hD c₀ cs hm (SPost c₀ cs (CodePost ρ s w .normal tm' ds' s')) (fun a' w' hf => ⟨rfl, rfl, hf⟩)
        rw [Array.toArray_toList] at this
        exact this
      · cases h
  | seq x y =>
    have h : seqK true y ih (ih (.code true x tm ds s)) = some o := h
    unfold seqK at h
    split at h
    · rename_i e tm1 ds1 s1 hr
      have hx := I _ _ hr
      split at h
      · cases o with
        | code x2 tm2 ds2 s2 =>
          intro ρ a w S hTm hD c₀ cs hm
          refine wpS_seq (wpS_mono (hx ρ a w S hTm hD c₀ cs hm) ?_)
          rintro e a' cs' w' ⟨hcs, he, ρ', g1, g2, g3⟩
          subst he; subst hcs
          exact wpS_mono (I _ _ h ρ' a' w' g1.ok g2 g3 c₀ cs hm) fun e2 a2 cs2 w2 hq => ⟨hq.1, hq.2.trans g1⟩
        | _ => exact trivial
      · rename_i hne
        cases h
        intro ρ a w S hTm hD c₀ cs hm
        refine wpS_seq (wpS_mono (hx ρ a w S hTm hD c₀ cs hm) ?_)
        rintro e2 a' cs' w' hq
        have he := hq.2.1
        cases e with
        | normal => exact absurd rfl hne
        | exit i => subst he; exact hq
        | ret => subst he; exact hq
    · cases h
  | cond c x y =>
    have h : condK true x y tm ds s ih (ev tm c) = some o := h
    unfold condK at h
    split at h
    · rename_i hc
      cases o with
      | code x2 tm2 ds2 s2 =>
        intro ρ a w S hTm hD c₀ cs hm
        have := (ev_sound S.rel.zero hTm hc).inv_bool
        exact wpS_cond this (I _ _ h ρ a w S hTm hD c₀ cs hm)
      | _ => exact trivial
    · rename_i hc
      cases o with
      | code x2 tm2 ds2 s2 =>
        intro ρ a w S hTm hD c₀ cs hm
        have := (ev_sound S.rel.zero hTm hc).inv_bool
        exact wpS_cond this (I _ _ h ρ a w S hTm hD c₀ cs hm)
      | _ => exact trivial
    · cases h
  | block id x =>
    have h : blockK id (ih (.code true x tm ds s)) = some o := h
    unfold blockK at h
    split at h
    · rename_i e tm1 ds1 s1 hr
      have hx := I _ _ hr
      split at h
      · rename_i j
        split at h
        · rename_i hj
          have hj := Nat.eq_of_beq_eq_true hj
          cases h
          intro ρ a w S hTm hD c₀ cs hm
          refine wpS_block (wpS_mono (hx ρ a w S hTm hD c₀ cs hm) ?_)
          rintro e2 a' cs' w' ⟨hcs, he, hf⟩
          subst he
          simp only [exitOf, inBlockS, hj, if_true]
          exact ⟨hcs, rfl, hf⟩
        · rename_i hj
          have hj : j ≠ id := fun e => by subst e; simp at hj
          cases h
          intro ρ a w S hTm hD c₀ cs hm
          refine wpS_block (wpS_mono (hx ρ a w S hTm hD c₀ cs hm) ?_)
          rintro e2 a' cs' w' ⟨hcs, he, hf⟩
          subst he
          simp only [exitOf, inBlockS, hj, if_false]
          exact ⟨hcs, rfl, hf⟩
      · rename_i hne
        cases h
        intro ρ a w S hTm hD c₀ cs hm
        refine wpS_block (wpS_mono (hx ρ a w S hTm hD c₀ cs hm) ?_)
        rintro e2 a' cs' w' ⟨hcs, he, hf⟩
        subst he
        cases e with
        | exit j => exact absurd rfl (hne j)
        | normal => exact ⟨hcs, rfl, hf⟩
        | ret => exact ⟨hcs, rfl, hf⟩
    · cases h
  | loop x => cases (show (none : Option Out) = some o from h)
  | rangeFunc f ps as b => cases (show (none : Option Out) = some o from h)
  | scope b => cases (show (none : Option Out) = some o from h)
  | goto l => cases (show (none : Option Out) = some o from h)
  | refuse why => cases (show (none : Option Out) = some o from h)

theorem DR.nil_l {ρ : Rn} {l : List Deferred} (h : DR ρ [] l) : l = [] := by cases h; rfl

theorem tCall_sound (K : EnvOK P E) {ih : Ih} (I : IhOK P E ih) {f : FuncId} {vs : List Value} {s : St} {o : Out} (h : tCall E ih f vs s = some o) : SoundT P E (.call f vs s) o := by
  unfold tCall callK at h
  split at h
  · rename_i g hg
    unfold natK at h
    split at h
    · rename_i v s' hv
      cases h
      exact K.nat f g hg vs s v s' hv
    · cases h
  · split at h
    · rename_i fn hfn
      obtain ⟨hf, _⟩ := K.fn f fn hfn
      unfold enterK at h
      split at h
      · rename_i c hbody
        unfold bodyK at h
        split at h
        · rename_i x tm1 ds1 s1 hr
          have hx : (x = .normal ∨ x = .ret) ∧ resK E fn.results.toList tm1 (ih (.defers ds1 s1)) = some o := by
            cases x with
            | normal => exact ⟨.inl rfl, h⟩
            | ret => exact ⟨.inr rfl, h⟩
            | exit i => cases h
          obtain ⟨hx, h⟩ := hx
          unfold resK at h
          split at h
          · rename_i tm2 ds2 s2 hd
            unfold valK at h
            split at h
            · rename_i v hv
              cases h
              intro ρ w args S hvr
              refine calls_of_wp_defers hf hbody ?_
              refine wp_mono ((I _ _ hr).1 ρ _ w S (TR.enter hvr fn.ntmps) .nil) ?_
              rintro e a' w' ⟨he, ρ', g1, g2, g3⟩
              have hleaves : Leaves P fn a'.tmps (CallPost ρ s w v s2) a'.defers .returning w' := by
                refine I _ _ hd ρ' w' a'.defers g1.ok g3 fn a'.tmps _ fun ρ2 w2 g4 => ?_
                obtain ⟨v', h1, h2⟩ := results_ok K.toTabOK g4.ok (g2.mono g4.pst.ext) hv
                exact ⟨v', h2, v', ρ2, rfl, h1, g1.trans g4⟩
              rcases hx with rfl | rfl
              · subst he; exact hleaves
              · subst he; exact hleaves
            · cases h
          · cases h
        · cases h
      · cases h
    · cases h

theorem tDefers_sound (K : EnvOK P E) {ih : Ih} (I : IhOK P E ih) {ds : Dl} {s : St} {o : Out} (h : tDefers E ih ds s = some o) : SoundT P E (.defers ds s) o := by
  unfold tDefers at h
  split at h
  · cases h
    intro ρ w defers S hD fn tmps R hR
    cases hD
    exact hR ρ w (Go2.refl S)
  · rename_i f vs ds
    split at h
    · rename_i fn0 hfn
      obtain ⟨hf, hnm⟩ := K.fn f fn0 hfn
      unfold defK at h
      split at h
      · rename_i v s1 hent
        cases o with
        | ops tm2 ds2 s2 =>
          intro ρ w defers S hD fn tmps R hR
          cases hD with
          | cons _ hv hD =>
            rename_i args cap l
            unfold enterD at hent
            split at hent
            · rename_i c hbody
              unfold bodyD at hent
              split at hent
              · rename_i x tm3 ds3 s3 hr
                have hfin : ds3 = [] ∧ (x = .normal ∨ x = .ret) ∧ valK s3 (results E tm3 s3.h.get fn0.results.toList) = some (.call v s1) := by
                  cases x with
                  | exit i => cases ds3 <;> cases hent
                  | normal => cases ds3 with
                    | nil => exact ⟨rfl, .inl rfl, hent⟩
                    | cons _ _ => cases hent
                  | ret => cases ds3 with
                    | nil => exact ⟨rfl, .inr rfl, hent⟩
                    | cons _ _ => cases hent
                obtain ⟨rfl, hx, hval⟩ := hfin
                unfold valK at hval
                split at hval
                · rename_i v2 hv2
                  cases hval
                  refine leaves_cons (by simp) (f := f) (args := args.toArray ++ cap.toArray) ?_ ?_
                  · have hn : (fn0.name == "runtime.NumGoroutine") = false := by simpa using hnm
                    simp only [invoke, callFunc, Sem.run_bind, run_program, Result.andThen_ok, hf, hn, Bool.false_eq_true, if_false, hbody, Option.isNone_some, Sem.run_pure]
                  · refine CallsD.mono (callsD_of_wpS (R := fun e u' w' => u' = .returning ∧ ∃ ρ', (∃ v', e = .returned v') ∧ Go2 ρ s w ρ' s1 w') hf hbody ?_) ?_
                    · intro c₀ cs hm
                      have ha : (args ++ cap).toArray = args.toArray ++ cap.toArray := by simp
                      have := I _ _ hr ρ { tmps := args.toArray ++ cap.toArray ++ Array.replicate (fn0.ntmps - (args.toArray ++ cap.toArray).size) undef, defers := [] } w S (by rw [← ha]; exact TR.enter hv fn0.ntmps) .nil c₀ cs hm
                      refine wpS_mono this ?_
                      rintro e a' cs' w' ⟨hcs, he, ρ', g1, g2, g3⟩
                      have hd0 : a'.defers = [] := DR.nil_l g3
                      obtain ⟨v', h1, h2⟩ := results_ok K.toTabOK g1.ok g2 hv2
                      have hc0 : c₀ :: cs = { c₀ with mode := .returning } :: cs := by rw [← hm]
                      rcases hx with rfl | rfl
                      · subst he; exact ⟨hd0, .returning, by rw [hcs]; exact hc0, v', h2, rfl, ρ', ⟨v', rfl⟩, g1⟩
                      · subst he; exact ⟨hd0, .returning, by rw [hcs]; exact hc0, v', h2, rfl, ρ', ⟨v', rfl⟩, g1⟩
                    · rintro e u' w' ⟨rfl, ρ', ⟨v', rfl⟩, g1⟩
                      exact I _ _ h ρ' w' l g1.ok (hD.mono g1.pst.ext) fn tmps R fun ρ2 w2 g2 => hR ρ2 w2 (g1.trans g2)
                · cases hval
              · cases hent
            · cases hent
        | _ => exact trivial
      · cases h
    · cases h

theorem sound (K : EnvOK P E) : ∀ n, IhOK P E (run E n)
  | 0 => fun t o h => by cases h
  | n + 1 => fun t o h => by
    have I := sound K n
    cases t with
    | code rc c tm ds s =>
      have h : tCode E (run E n) rc c tm ds s = some o := h
      cases rc with
      | false => exact tCode_sound K I h
      | true => exact tCodeS_sound I h
    | ops rc all l tm ds s =>
      have h : tOps E (run E n) rc all l tm ds s = some o := h
      cases rc with
      | false => exact tOps_sound K I h
      | true => exact tOpsS_sound K I h
    | draw all an base tm i l d =>
      have h : tDraw E (run E n) all an base tm i l d = some o := h
      cases o with
      | drawn dn => exact tDraw_trace (fun i l d dn hr => I _ _ hr) (fun f vs s v s' hr => I _ _ hr) h
      | _ => trivial
    | call f vs s => exact tCall_sound K I h
    | defers ds s => exact tDefers_sound K I h

theorem runCall_sound (K : EnvOK P E) {n : Nat} {f : FuncId} {vs : List Value} {s s' : St} {v : Value} (h : runCall E n f vs s = some (v, s')) : CallSound P f vs s v s' := by
  unfold runCall at h
  split at h
  · rename_i v' s2 hr
    cases h
    exact sound K n _ _ hr
  · cases h
end
end Go.Ev

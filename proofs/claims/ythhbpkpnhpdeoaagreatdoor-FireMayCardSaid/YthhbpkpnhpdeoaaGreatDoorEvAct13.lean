/-
  A part of the proof of FireMay: EvAct13. No condition.
-/
import Derived.Test.YthhbpkpnhpdeoaaGreatDoorEvAct12
namespace Go.Ev
open Go

/-- what the evaluator's tables say of the program -/
structure TabOK (P : Program) (E : Env) : Prop where
  typ : ∀ t ti, E.T.get t = some ti → TIok P t ti
  fn : ∀ f fn, E.F.get f = some fn → P.funcs[f]? = some fn ∧ fn.name ≠ "runtime.NumGoroutine"
  ext : ExtOK P E

section
variable {P : Program} {E : Env} {ρ : Rn} {lk : Lk} {w : World} {tm : Tm} {a : Act}

theorem ok_call (K : TabOK P E) (H : HRel ρ lk w) (hTm : TR ρ tm a.tmps) (c : Call) (o : Oper) (ho : o.op = .call c) :
    AcOK ρ lk w (aCall c E tm lk) ((execOp a.eval o).run P w) := by
  unfold aCall
  have hargs : (c.args.map a.eval).toList = c.args.toList.map a.eval := by simp
  split
  · rename_i b hb
    unfold aCallB
    split
    · rename_i vs hvs
      have hv := evs_sound H.zero hTm hvs
      simp only [execOp, ho, resolve, hb, Sem.run_bind, Sem.run_pure, Result.andThen_ok, invoke]
      rw [list_arr hargs]
      exact ok_builtin K.typ H hv
    · trivial
  · rename_i f hf
    unfold aCallF
    split
    · rename_i vs hvs
      have hv := evs_sound H.zero hTm hvs
      unfold callV
      split
      · rename_i g first captured hfe
        have hfv := ev_sound H.zero hTm hfe
        generalize hfx : a.eval f = fx at hfv
        cases hfv with
        | func _ h1 h2 _ =>
          rename_i x x' y y' _
          have hall := (h1.append hv).append h2
          have e : (execOp a.eval o).run P w = (callFunc g (x' ++ c.args.toList.map a.eval ++ y').toArray).run P w := by
            simp only [execOp, ho, resolve, hf, hfx, Deferred.ofValue, Sem.run_bind, Sem.run_pure, Result.andThen_ok, invoke]
            congr 2
            apply Array.ext'
            simp
          rw [e]
          unfold callX
          split
          · rename_i gx hgx
            refine acO_ok fun v hvv => ?_
            exact K.ext g gx hgx _ v hvv ρ _ hall w
          · rename_i hgx
            unfold callB
            split
            · rename_i fn hfn
              split
              · rename_i body hbody
                obtain ⟨h3, h4⟩ := K.fn g fn hfn
                refine ⟨_, hall, ?_⟩
                have hn : (fn.name == "runtime.NumGoroutine") = false := by simpa using h4
                simp only [callFunc, Sem.run_bind, run_program, Result.andThen_ok, h3, hn, Bool.false_eq_true, if_false, hbody, Option.isNone_some, Sem.run_pure]
              · trivial
            · trivial
      · trivial
    · trivial
  · trivial

theorem ok_defer (H : HRel ρ lk w) (hTm : TR ρ tm a.tmps) (c : Call) (o : Oper) (ho : o.op = .defer c) :
    AcOK ρ lk w (aDefer c E tm lk) ((execOp a.eval o).run P w) := by
  unfold aDefer
  split
  · rename_i f vs hf hvs
    have hv := evs_sound H.zero hTm hvs
    unfold deferV
    split
    · rename_i g first captured hfe
      have hfv := ev_sound H.zero hTm hfe
      generalize hfx : a.eval f = fx at hfv
      cases hfv with
      | func _ h1 h2 _ =>
        rename_i x x' y y' _
        refine ⟨x' ++ c.args.toList.map a.eval, y', (h1.append hv).append h2, ?_⟩
        simp only [execOp, ho, resolve, hf, hfx, Deferred.ofValue, Sem.run_bind, Sem.run_pure, Result.andThen_ok]
        congr 3
        apply Array.ext'
        simp
    · trivial
  · trivial

theorem act_sound (K : TabOK P E) (H : HRel ρ lk w) (hTm : TR ρ tm a.tmps) (o : Oper) : AcOK ρ lk w (act o.op E tm lk) ((execOp a.eval o).run P w) := by
  have hz := H.zero
  have hT := K.typ
  cases ho : o.op with
  | move x =>
    have e : (execOp a.eval o).run P w = .ok (.value (a.eval x)) w := by simp [execOp, ho]
    rw [e]; exact ok_move (E := E) hz hTm x
  | assign x =>
    have e : (execOp a.eval o).run P w = .ok (.value (a.eval x)) w := by simp [execOp, ho]
    rw [e]; exact ok_move (E := E) hz hTm x
  | pick c x y => exact ok_pick (E := E) hz hTm c x y o ho
  | alloc t => exact ok_alloc (tm := tm) hT t o ho
  | box t x => exact ok_box (E := E) hz hTm t x o ho
  | build t ps => exact ok_build hT hz hTm t ps o ho
  | buildSlice t n ps => exact ok_buildSlice hT hz hTm t n ps o ho
  | insert t m k v => exact ok_mapUpd hT H hTm t m k v o (.inr ho)
  | load t x =>
    show AcOK ρ lk w (aLoad t x E tm lk) _
    unfold aLoad
    split
    · rename_i p hp
      refine acO_ok fun v hv => ?_
      obtain ⟨v', h1, h2⟩ := load_sound (P := P) hT H hv (ev_sound hz hTm hp)
      exact ⟨v', h2, by simp only [execOp, ho, Sem.run_bind, h1, Result.andThen_ok, Sem.run_pure]⟩
    · trivial
  | store t x y => exact ok_store hT H hTm t x y o ho
  | nilCheck x => exact ok_nil (E := E) hz hTm x o ho
  | binOp op t x y u => exact ok_bin hT hz hTm op t x y u o ho
  | unOp op t x => exact ok_un (E := E) hz hTm op t x o ho
  | convert s d x => exact ok_conv hT hz hTm s d x o ho
  | makeInterface t x => exact ok_iface hT hz hTm t x o ho
  | makeFunc fn f c => exact ok_func (E := E) hz hTm fn f c o ho
  | makeMap t r => exact ok_makeMap (E := E) (tm := tm) t r o ho
  | makeSlice t l c => exact ok_makeSl hT hz hTm t l c o ho
  | slice t x lo hi mx => exact ok_slice hT H hTm t x lo hi mx o ho
  | fieldAddr t x f => exact ok_fieldA hT hz hTm t x f o ho
  | field t x f => exact ok_field hT hz hTm t x f o ho
  | indexAddr t x i => exact ok_ixA hT hz hTm t x i o ho
  | index t x i => exact ok_ix hT hz hTm t x i o ho
  | lookup t x i b => exact ok_lookup hT H hTm t x i b o ho
  | mapUpdate t m k v => exact ok_mapUpd hT H hTm t m k v o (.inl ho)
  | extract x i => exact ok_extract (E := E) hz hTm x i o ho
  | call c => exact ok_call K H hTm c o ho
  | defer c => exact ok_defer (E := E) H hTm c o ho
  | _ => trivial
end
end Go.Ev

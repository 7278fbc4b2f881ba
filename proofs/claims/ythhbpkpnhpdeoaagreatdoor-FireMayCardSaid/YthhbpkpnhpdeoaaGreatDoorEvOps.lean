/-
  A part of the proof of FireMay: EvOps. No condition.
-/
import Derived.Test.YthhbpkpnhpdeoaaGreatDoorEvSem
import Derived.Laws.Entries
namespace Go.Ev
open Go

/-- what the evaluator's row of a type says -/
structure TIok (P : Program) (t : TypeId) (ti : TI) : Prop where
  info : ∃ i, P.info? t = some i ∧ i.size = ti.size ∧ i.bytes = ti.bytes ∧ i.zero = some ti.zero
  und : P.underlying t = some ti.desc
  zero : ∀ ρ, V1 ρ ti.zero ti.zero
  len : (cellsOf ti.zero).length = ti.size
  agg : (match ti.desc with | .struct _ | .array _ _ => true | _ => false) = ti.agg
  offs : ∀ fs, ti.desc = .struct fs → ti.offs = fs.toList.map (fun f => (f.offset, f.type)) ∧ ∀ f ∈ fs.toList, ∃ i, P.info? f.type = some i
  eqs : ti.eq = true → P.eqGuardType P.depth t = false ∧ ∀ fs, ti.desc = .struct fs → P.stoodInHeld t = false ∧ ∀ f ∈ fs.toList, f.name ≠ "_"

theorem TIok.underlying {P : Program} {t : TypeId} {ti : TI} (h : TIok P t ti) (w : World) : (Go.underlying t).run P w = .ok ti.desc w := run_underlying h.und w
theorem TIok.sizeOf {P : Program} {t : TypeId} {ti : TI} (h : TIok P t ti) (w : World) : (Go.sizeOf t).run P w = .ok ti.size w := by
  obtain ⟨i, hi, hs, _, _⟩ := h.info
  simp [Go.sizeOf, typeInfo, hi, hs]
theorem TIok.zeroValue {P : Program} {t : TypeId} {ti : TI} (h : TIok P t ti) (w : World) : (Go.zeroValue t).run P w = .ok ti.zero w := by
  obtain ⟨i, hi, _, _, hz⟩ := h.info
  simp [Go.zeroValue, typeInfo, hi, hz]
theorem TIok.typeInfo {P : Program} {t : TypeId} {ti : TI} (h : TIok P t ti) (w : World) : ∃ i, (Go.typeInfo t).run P w = .ok i w ∧ i.bytes = ti.bytes ∧ i.size = ti.size := by
  obtain ⟨i, hi, h1, h2, _⟩ := h.info
  exact ⟨i, by simp [Go.typeInfo, hi], h2, h1⟩
theorem TIok.isAgg {P : Program} {t : TypeId} {ti : TI} (h : TIok P t ti) (w : World) : (Go.isAgg t).run P w = .ok ti.agg w := by
  have := h.agg
  simp only [Go.isAgg, Sem.run_bind, h.underlying, Result.andThen_ok]
  split at this <;> simp_all

theorem agg_mk (l : List Value) : Value.agg l.toArray = Value.agg ⟨l⟩ := rfl

theorem part_sound {P : Program} {E : Env} (hT : ∀ t ti, E.T.get t = some ti → TIok P t ti) {ρ : Rn} {t : TypeId} {cs cs' : List Value} {off : Nat} {v : Value}
    (h : part E t cs off = some v) (hr : VR ρ cs cs') (w : World) : ∃ v', (Go.part t ⟨cs'⟩ off).run P w = .ok v' w ∧ V1 ρ v v' := by
  unfold part at h
  split at h
  · rename_i ti hti
    have ok := hT t ti hti
    simp only [Go.part, Sem.run_bind, ok.isAgg, Result.andThen_ok]
    split at h
    · rename_i hag
      split at h
      · rename_i l hl
        cases h
        obtain ⟨e, hlen⟩ := cut_eq hl
        subst e
        have hh := (hr.drop off).take ti.size
        refine ⟨.agg ⟨(cs'.drop off).take ti.size⟩, ?_, .agg hh .nil⟩
        simp only [hag, if_true, Sem.run_bind, ok.sizeOf, Result.andThen_ok, Sem.run_pure]
        congr 3
        simp [List.take_drop]
      · cases h
    · rename_i hag
      obtain ⟨v', hv, hvv⟩ := hr.nth h
      refine ⟨v', ?_, hvv⟩
      have : (⟨cs'⟩ : Array Value)[off]? = some v' := by simpa using hv
      simp [hag, this]
  · cases h

theorem sub_cells {ρ : Rn} {cs l : List Value} {s o n : Nat} {r : List Value} (h : VR ρ cs ((l.drop s).take cs.length)) (hc : cut o n cs = some r) :
    VR ρ r ((l.drop (s + o)).take n) ∧ n ≤ (l.drop (s + o)).length ∧ s + o + n ≤ l.length ∨ n = 0 ∧ r = [] := by
  obtain ⟨e, hl⟩ := cut_eq hc
  by_cases hn : n = 0
  · subst hn; right; exact ⟨rfl, by simpa using e⟩
  left
  subst e
  have hlen := h.length
  simp only [List.length_take, List.length_drop] at hlen hl
  have h2 := (h.drop o).take n
  rw [List.drop_take, List.take_take, List.drop_drop] at h2
  rw [Nat.min_eq_left (by omega)] at h2
  refine ⟨h2, by simp; omega, by omega⟩

theorem load_sound {P : Program} {E : Env} (hT : ∀ t ti, E.T.get t = some ti → TIok P t ti) {ρ : Rn} {lk : Lk} {w : World} (H : HRel ρ lk w) {t : TypeId} {p p' v : Value}
    (h : load E lk t p = some v) (hp : V1 ρ p p') : ∃ v', (Instr.loadAt t p').run P w = .ok v' w ∧ V1 ρ v v' := by
  unfold load at h
  split at h
  · rename_i b o
    split at h
    · rename_i st cs hb
      obtain ⟨c, s, q, hρ, hblk⟩ := H.blk b _ hb
      cases hp with
      | ptr _ _ c2 s2 q2 hρ2 _ =>
        rw [hρ] at hρ2; cases hρ2
        obtain ⟨hsoft, _, arr, el, fr, hw, hvr, _⟩ := hblk
        unfold part at h
        split at h
        · rename_i ti hti
          have ok := hT t ti hti
          simp only [Instr.loadAt, Instr.sureAddr, Sem.run_bind, Sem.run_pure, Result.andThen_ok, loadVar, ok.isAgg]
          split at h
          · rename_i hag
            simp only [hag, if_true, Sem.run_bind, ok.sizeOf, Result.andThen_ok]
            split at h
            · rename_i l hl
              cases h
              rcases sub_cells hvr hl with ⟨h1, h2, _⟩ | ⟨h1, h2⟩
              · rw [run_loadCells_at P hw h2]
                exact ⟨_, rfl, .agg h1 .nil⟩
              · subst h2
                rw [h1]
                refine ⟨.agg #[], by simp [loadCells, loadCellsFrom], ?_⟩
                exact VR.agg (x := []) (x' := []) .nil .nil
            · cases h
          · rename_i hag
            simp only [hag, Bool.false_eq_true, if_false]
            obtain ⟨v', hv, hvv⟩ := hvr.nth h
            rw [List.getElem?_take] at hv
            split at hv
            · rw [List.getElem?_drop] at hv
              refine ⟨v', ?_, hvv⟩
              rw [run_load, cell_of hw, hv]
            · cases hv
        · cases h
    · cases h
  · cases h

def NkRel (k : Nk) (c : Nat) (q : Nat × Nat) (v' : Value) : Prop :=
  match k with
  | .ptr => v' = .pointer (some ⟨c, 0, none⟩)
  | .sl n m => ∃ m', m ≤ m' ∧ m' * q.2 ≤ q.1 ∧ v' = .slice (some ⟨c, 0, none⟩) n m'
  | .mp => v' = .map (some c)

/-- what an operation's run is, beside what the evaluator says it comes to -/
def AcOK (ρ : Rn) (lk : Lk) (w : World) (a : Ac) (r : Result Next) : Prop :=
  match a with
  | .fail => True
  | .val v => ∃ v', V1 ρ v v' ∧ r = .ok (.value v') w
  | .new b k => ∃ v' o w' q, r = .ok (.value v') w' ∧ w'.heap = w.heap.push o ∧ NkRel k w.heap.size q v' ∧ BlkRel ρ w' w.heap.size 0 q b ∧ Kept w w'
  | .put b blk v => ∃ v' w' c s q old, lk b = some old ∧ ρ b = some (c, s, q) ∧ (r = .ok (.value v') w' ∨ (r = .ok .skip w' ∧ v' = undef)) ∧ V1 ρ v v' ∧
      w'.heap.size = w.heap.size ∧ BlkRel ρ w' c s q blk ∧ (∀ c', c' ≠ c → w'.heap[c']? = w.heap[c']?) ∧ Kept w w'
  | .app dead st cells n => ∃ c s q m' w', r = .ok (.value (.slice (some ⟨c, s, none⟩) n m')) w' ∧ n ≤ m' ∧ m' * q.2 ≤ q.1 ∧ w.heap.size ≤ w'.heap.size ∧ c < w'.heap.size ∧
      BlkRel ρ w' c s q (.cells st cells) ∧ (∀ c', c' < w.heap.size → c' ≠ c → w'.heap[c']? = w.heap[c']?) ∧
      (c = w.heap.size ∨ ∃ d old s0, dead = some d ∧ lk d = some old ∧ ρ d = some (c, s0)) ∧ Kept w w'
  | .call f vs => ∃ args', VR ρ vs args' ∧ r = .ok (.enter f args'.toArray) w
  | .defer f vs => ∃ args' cap', VR ρ vs (args' ++ cap') ∧ r = .ok (.defer ⟨.fn (.func f) cap'.toArray, args'.toArray⟩) w
  | .recover => r = .ok .recover w

theorem V1.undef {ρ : Rn} : V1 ρ undefV undef := VR.tup (x := []) (x' := []) .nil .nil

theorem okC_sound {v u : Value} (h : okC v = some u) (ρ : Rn) : u = v ∧ V1 ρ v v := by
  cases v <;> simp only [okC] at h <;> first
    | (cases h; first | exact ⟨rfl, .bool _ .nil⟩ | exact ⟨rfl, .int _ _ .nil⟩ | exact ⟨rfl, .str _ .nil⟩ | exact ⟨rfl, .nilFunc .nil⟩ | exact ⟨rfl, .nilIface .nil⟩)
    | skip
  case pointer a => cases a <;> simp at h; subst h; exact ⟨rfl, .ptr0 .nil⟩
  case slice a n c => cases a <;> simp at h; subst h; exact ⟨rfl, .sl0 _ _ .nil⟩
  case map a => cases a <;> simp at h; subst h; exact ⟨rfl, .map0 .nil⟩
  all_goals cases h

theorem ev_sound {ρ : Rn} (hz : ∃ q, ρ 0 = some (0, 0, q)) {tm : Tm} {a : Act} (hT : TR ρ tm a.tmps) {x : Operand} {v : Value} (h : ev tm x = some v) : V1 ρ v (a.eval x) := by
  cases x with
  | tmp t =>
    obtain ⟨v', h1, h2⟩ := hT.get t v h
    have : a.eval (.tmp t) = v' := by simp [Act.eval, Array.getD_eq_getD_getElem?, h1]
    rw [this]; exact h2
  | const u => obtain ⟨rfl, h2⟩ := okC_sound h ρ; exact h2
  | global g =>
    cases g with
    | zero => simp [ev] at h; subst h; obtain ⟨q, hq⟩ := hz; exact .ptr 0 0 0 0 q hq .nil
    | succ g => simp [ev] at h
  | func f => simp [ev] at h; subst h; exact VR.func (.func f) (x := []) (x' := []) (y := []) (y' := []) .nil .nil .nil

theorem evs_sound {ρ : Rn} (hz : ∃ q, ρ 0 = some (0, 0, q)) {tm : Tm} {a : Act} (hT : TR ρ tm a.tmps) : ∀ {xs : List Operand} {vs : List Value}, evs tm xs = some vs → VR ρ vs (xs.map a.eval)
  | [], _, h => by simp [evs] at h; subst h; exact .nil
  | x :: xs, vs, h => by
    simp only [evs] at h
    split at h
    · rename_i v hv
      split at h
      · rename_i us hu
        cases h
        exact VR.cons (ev_sound hz hT hv) (evs_sound hz hT hu)
      · cases h
    · cases h

inductive PR (ρ : Rn) : List (Nat × Value) → List (Nat × Value) → Prop where
  | nil : PR ρ [] []
  | cons (i : Nat) {v v' : Value} {t t' : List (Nat × Value)} : V1 ρ v v' → PR ρ t t' → PR ρ ((i, v) :: t) ((i, v') :: t')

theorem evParts_sound {ρ : Rn} (hz : ∃ q, ρ 0 = some (0, 0, q)) {tm : Tm} {a : Act} (hT : TR ρ tm a.tmps) : ∀ {xs : List (Nat × Operand)} {vs : List (Nat × Value)}, evParts tm xs = some vs →
    PR ρ vs (xs.map fun (i, x) => (i, a.eval x))
  | [], _, h => by simp [evParts] at h; subst h; exact .nil
  | (i, x) :: xs, vs, h => by
    simp only [evParts] at h
    split at h
    · rename_i v hv
      split at h
      · rename_i us hu
        cases h
        exact PR.cons i (ev_sound hz hT hv) (evParts_sound hz hT hu)
      · cases h
    · cases h

end Go.Ev

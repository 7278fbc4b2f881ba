/-
  A part of the proof of FireMay: EvAct3. No condition.
-/
import Derived.Test.YthhbpkpnhpdeoaaGreatDoorEvAct2
import Derived.ChangeKeysEq
namespace Go.Ev
open Go

theorem ofNat_cast (n : Nat) : Int.ofNat n = (n : Int) := rfl

section
variable {P : Program} {E : Env} {ρ : Rn} {lk : Lk} {w : World} {tm : Tm} {a : Act}

theorem V1.inv_int {k : IntKind} {n : Int} {v' : Value} (h : V1 ρ (.int k n) v') : v' = .int k n := by cases h; rfl
theorem V1.inv_str {s : ByteArray} {v' : Value} (h : V1 ρ (.string s) v') : v' = .string s := by cases h; rfl
theorem V1.inv_bool {b : Bool} {v' : Value} (h : V1 ρ (.bool b) v') : v' = .bool b := by cases h; rfl

theorem ok_putCells (H : HRel ρ lk w) {b o c s : Nat} {q : Nat × Nat} {new new' : List Value} {v v' : Value} (hρ : ρ b = some (c, s, q)) (hn : VR ρ new new') (hv : V1 ρ v v')
    {r : World → Result Next} (hr : ∀ w', r w' = .ok (.value v') w' ∨ (r w' = .ok .skip w' ∧ v' = undef)) {R : Result Next}
    (hR : ∀ w', (storeCells ⟨c, s + o, none⟩ new').run P w = .ok () w' → R = r w') : AcOK ρ lk w (putCells b o new v (lk b)) R := by
  unfold putCells
  split
  · rename_i st cs hb
    split
    · rename_i cs' hs ho
      obtain ⟨w', h1, h2, h3, h4⟩ := put_cells (P := P) H hb hρ hn hs ho
      rw [hR w' h1]
      exact ⟨v', w', c, s, q, .cells st cs, hb, hρ, hr w', hv, h2, h3, h4⟩
    · trivial
  · trivial

theorem ok_store (hT : ∀ t ti, E.T.get t = some ti → TIok P t ti) (H : HRel ρ lk w) (hTm : TR ρ tm a.tmps) (t : TypeId) (x y : Operand) (o : Oper) (ho : o.op = .store t x y) :
    AcOK ρ lk w (aStore t x y E tm lk) ((execOp a.eval o).run P w) := by
  unfold aStore
  split
  · rename_i b off v hx hy
    have h1 := ev_sound H.zero hTm hx
    have h2 := ev_sound H.zero hTm hy
    generalize hxe : a.eval x = xe at h1
    cases h1 with
    | ptr _ _ c s q hρ _ =>
      unfold storeV
      split
      · rename_i ti hti
        have ok := hT t ti hti
        split
        · rename_i hsz
          have hsz := Nat.eq_of_beq_eq_true hsz
          refine ok_putCells (P := P) (v' := undef) H hρ (cellsOf_rel h2) V1.undef (r := fun w' => .ok .skip w') (fun w' => .inr ⟨rfl, rfl⟩) (fun w' hst => ?_)
          have hc := cells_size h2
          simp only [execOp, ho, Sem.run_bind, Instr.storeAt, Instr.sureAddr, hxe, Sem.run_pure, Result.andThen_ok, storeVar, ok.sizeOf]
          rw [if_neg (by rw [hc, hsz]; simp)]
          rw [hst]
          rfl
        · trivial
      · trivial
  · trivial

theorem ok_nil (hz : ∃ q, ρ 0 = some (0, 0, q)) (hTm : TR ρ tm a.tmps) (x : Operand) (o : Oper) (ho : o.op = .nilCheck x) :
    AcOK ρ lk w (aNil x E tm lk) ((execOp a.eval o).run P w) := by
  unfold aNil
  split
  · rename_i p hx
    have h := ev_sound hz hTm hx
    generalize hxe : a.eval x = xe at h
    cases h with
    | ptr b o c s q hρ _ => exact ⟨_, .ptr b o c s q hρ .nil, by simp [execOp, ho, hxe]⟩
  · rename_i p n c hx
    have h := ev_sound hz hTm hx
    generalize hxe : a.eval x = xe at h
    refine ⟨xe, h, ?_⟩
    cases h <;> simp [execOp, ho, hxe]
  · trivial

theorem iEq_eq (a b : Int) : iEq a b = (a == b) := by
  rw [Bool.eq_iff_iff]
  cases a <;> cases b <;> simp [iEq] <;> omega
theorem iLt_eq (a b : Int) : iLt a b = decide (a < b) := by
  rw [Bool.eq_iff_iff]
  cases a <;> cases b <;> simp [iLt, Nat.blt_eq] <;> omega
theorem kEq_eq {a b : IntKind} (h : kEq a b = true) : a = b := by
  cases a <;> cases b <;> simp [kEq] at h <;> rfl
theorem lEq_iff : ∀ (a b : List UInt8), lEq a b = (a == b)
  | [], [] => rfl
  | [], _ :: _ => rfl
  | _ :: _, [] => rfl
  | x :: a, y :: b => by
    have ih := lEq_iff a b
    simp only [lEq]
    have hxy : Nat.beq x.toNat y.toNat = (x == y) := by
      rw [Bool.eq_iff_iff]
      simp [UInt8.toNat_inj]
    rw [hxy]
    by_cases h : x = y
    · subst h; simp [ih]
    · have hb : (x == y) = false := beq_eq_false_iff_ne.2 h
      rw [hb]; rw [List.cons_beq_cons, hb]; rfl
theorem lLt_iff : ∀ (a b : List UInt8), lLt a b = Op.bytesLess a b
  | [], [] => rfl
  | _ :: _, [] => rfl
  | [], _ :: _ => rfl
  | x :: a, y :: b => by
    have ih := lLt_iff a b
    have hb : Nat.blt x.toNat y.toNat = decide (x < y) := by
      rw [Bool.eq_iff_iff]; simp [Nat.blt_eq, UInt8.lt_iff_toNat_lt]
    have hxy : Nat.beq x.toNat y.toNat = (x == y) := by
      rw [Bool.eq_iff_iff]; simp [UInt8.toNat_inj]
    simp only [lLt, hb, hxy, Op.bytesLess]
    by_cases h : x < y
    · simp [h]
    · by_cases h2 : x = y
      · subst h2; simp [ih]
      · have hb : (x == y) = false := beq_eq_false_iff_ne.2 h2
        rw [hb]; simp [h]
theorem sEq_eq (a b : ByteArray) : sEq a b = (a.toList == b.toList) := by
  unfold sEq; rw [lEq_iff, ByteArray.toList_eq, ByteArray.toList_eq]
theorem sLt_eq (a b : ByteArray) : sLt a b = Op.bytesLess a.toList b.toList := by
  unfold sLt; rw [lLt_iff, ByteArray.toList_eq, ByteArray.toList_eq]
theorem ofL_append (a b : ByteArray) : ofL (a.data.toList ++ b.data.toList) = a ++ b := by
  obtain ⟨⟨x⟩⟩ := a
  obtain ⟨⟨y⟩⟩ := b
  apply ByteArray.ext
  simp [ofL]

theorem binI_ok {op : BinOp} {k : IntKind} {x y : Int} {v : Value} (h : binI op k x y = some v) (t : TypeId) :
    (binOp op t (.int k x) (.int k y)).run P w = .ok v w ∧ V1 ρ v v := by
  have e1 : ∀ a b : Int, (!iLt b a) = decide (a ≤ b) := fun a b => by
    rw [iLt_eq, Bool.eq_iff_iff]; simp
  cases op <;> simp only [binI] at h
  case quo => split at h; · cases h
              · rename_i h0; cases h; exact ⟨by simp [binOp, Op.intDiv, h0], .int _ _ .nil⟩
  case rem => split at h; · cases h
              · rename_i h0; cases h; exact ⟨by simp [binOp, Op.intDiv, h0], .int _ _ .nil⟩
  case eql => cases h; exact ⟨by simp [binOp, Op.intCmp, iEq_eq], .bool _ .nil⟩
  case neq => cases h; exact ⟨by simp [binOp, Op.intCmp, iEq_eq, bne], .bool _ .nil⟩
  case lss => cases h; exact ⟨by simp [binOp, Op.intCmp, iLt_eq], .bool _ .nil⟩
  case leq => cases h; exact ⟨by simp only [binOp, Op.intCmp, e1]; simp, .bool _ .nil⟩
  case gtr => cases h; exact ⟨by simp [binOp, Op.intCmp, iLt_eq], .bool _ .nil⟩
  case geq => cases h; exact ⟨by simp only [binOp, Op.intCmp, e1]; simp, .bool _ .nil⟩
  case add => cases h; exact ⟨by simp [binOp, Op.intArith], .int _ _ .nil⟩
  case sub => cases h; exact ⟨by simp [binOp, Op.intArith], .int _ _ .nil⟩
  case mul => cases h; exact ⟨by simp [binOp, Op.intArith], .int _ _ .nil⟩
  all_goals cases h

theorem shiftI_ok {op : BinOp} {k k' : IntKind} {x y : Int} {v : Value} (h : shiftI op k x y = some v) (t : TypeId) (hop : op = .shl ∨ op = .shr) :
    (binOp op t (.int k x) (.int k' y)).run P w = .ok v w ∧ V1 ρ v v := by
  unfold shiftI at h
  split at h
  · cases h
  · rename_i h0
    rcases hop with rfl | rfl <;> simp only [] at h <;> cases h <;> exact ⟨by simp [binOp, Op.shift, h0], .int _ _ .nil⟩

theorem binS_ok {op : BinOp} {x y : ByteArray} {v : Value} (h : binS op x y = some v) (t : TypeId) :
    (binOp op t (.string x) (.string y)).run P w = .ok v w ∧ V1 ρ v v := by
  cases op <;> simp only [binS] at h
  case add =>
    split at h
    case h_2 => cases h
    rename_i hs
    have := Nat.le_of_ble_eq_true hs
    have s1 : x.data.toList.length = x.size := by simp
    have s2 : y.data.toList.length = y.size := by simp
    rw [s1, s2] at this
    cases h
    refine ⟨?_, .str _ .nil⟩
    rw [ofL_append]
    have h2 : ¬ (((x.size + y.size : Nat) : Int) > IntKind.i64.max) := by
      have : IntKind.i64.max = 9223372036854775807 := by decide
      rw [this]; omega
    simp only [binOp, Op.stringOp]
    rw [if_neg h2]
    rfl
  case eql => cases h; exact ⟨by simp [binOp, Op.stringOp, sEq_eq], .bool _ .nil⟩
  case neq => cases h; exact ⟨by simp [binOp, Op.stringOp, sEq_eq], .bool _ .nil⟩
  case lss => cases h; exact ⟨by simp [binOp, Op.stringOp, sLt_eq], .bool _ .nil⟩
  case leq => cases h; exact ⟨by simp [binOp, Op.stringOp, sLt_eq, sEq_eq], .bool _ .nil⟩
  case gtr => cases h; exact ⟨by simp [binOp, Op.stringOp, sLt_eq, sEq_eq], .bool _ .nil⟩
  case geq => cases h; exact ⟨by simp [binOp, Op.stringOp, sLt_eq], .bool _ .nil⟩
  all_goals cases h
end
end Go.Ev

/-
  A part of the proof of FireMay: EvAct6. No condition.
-/
import Derived.Test.YthhbpkpnhpdeoaaGreatDoorEvAct5
namespace Go.Ev
open Go

section
variable {P : Program} {E : Env} {ρ : Rn} {lk : Lk} {w : World} {tm : Tm} {a : Act}

theorem ok_un (hz : ∃ q, ρ 0 = some (0, 0, q)) (hTm : TR ρ tm a.tmps) (op : UnOp) (t : TypeId) (x : Operand) (o : Oper) (ho : o.op = .unOp op t x) :
    AcOK ρ lk w (aUn op t x E tm lk) ((execOp a.eval o).run P w) := by
  unfold aUn
  split
  · rename_i b hx
    have h := ev_sound hz hTm hx
    generalize hxe : a.eval x = xe at h
    cases h
    exact ⟨_, .bool _ .nil, by simp [execOp, ho, hxe, Op.unary]⟩
  · rename_i k n hx
    have h := ev_sound hz hTm hx
    generalize hxe : a.eval x = xe at h
    cases h
    exact ⟨_, .int _ _ .nil, by simp [execOp, ho, hxe, Op.unary, Op.intArith]⟩
  · trivial

theorem strBytes_rel (b : ByteArray) : VR ρ (strBytes b) ((b.data.map fun b => Value.int .u8 b.toNat).toList) := by
  unfold strBytes
  rw [Array.toList_map]
  induction b.data.toList with
  | nil => exact .nil
  | cons x l ih => exact .int _ _ ih

theorem modify_push {α : Type} (l : Array α) (x : α) (f : α → α) : (l.push x).modify l.size f = l.push (f x) := by
  apply Array.ext_getElem?
  intro i
  rw [Array.getElem?_modify, Array.getElem?_push, Array.getElem?_push]
  by_cases h : i = l.size
  · subst h; simp
  · have h2 : ¬ l.size = i := fun e => h e.symm
    simp [h, h2]

theorem ok_conv (hT : ∀ t ti, E.T.get t = some ti → TIok P t ti) (hz : ∃ q, ρ 0 = some (0, 0, q)) (hTm : TR ρ tm a.tmps) (s d : TypeId) (x : Operand) (o : Oper) (ho : o.op = .convert s d x) :
    AcOK ρ lk w (aConv s d x E tm lk) ((execOp a.eval o).run P w) := by
  unfold aConv
  split
  · rename_i v hx
    have h := ev_sound hz hTm hx
    have hrun : (execOp a.eval o).run P w = ((convert s d (a.eval x)).run P w).andThen fun v w' => .ok (.value v) w' := by
      simp only [execOp, ho, Sem.run_bind, Sem.run_pure]
    rw [hrun]
    split
    · rename_i te hte
      obtain ⟨e, hu, ok⟩ := elemSl_ok hT hte
      split
      · rename_i hs
        unfold srcOk at hs
        split at hs
        · rename_i ts hts
          have oks := hT s ts hts
          unfold toBytes
          split
          · rename_i b
            generalize a.eval x = xe at h
            cases h
            split
            · rename_i hd
              have hlen : b.data.toList.length = b.size := by simp
              have key : ∃ cs : Array Value, VR ρ (strBytes b) (cs.toList.take (strBytes b).length) ∧ ∃ w' cap, b.size ≤ cap ∧ cap ≤ cs.size ∧ (w'.heap = w.heap.push (.cells cs e (cs.size, cs.size + 1)) ∧ w'.os = w.os ∧ w'.output = w.output ∧ w'.tape = w.tape) ∧
                  (convert s d (.string b)).run P w = .ok (.slice (some ⟨w.heap.size, 0, none⟩) b.size cap) w' := by
                have hcut : (Question.appendCap b.size 0 e).cut (w.tape w.drawn (.appendCap b.size 0 e)) = b.size + (w.tape w.drawn (.appendCap b.size 0 e)) % (2 ^ 63 - b.size) := rfl
                let cap := (Question.appendCap b.size 0 e).cut (w.tape w.drawn (.appendCap b.size 0 e))
                let cs := (b.data.map fun b => Value.int .u8 b.toNat) ++ Array.replicate (cap - b.size) (.int .u8 0)
                refine ⟨cs, ?_, ?_⟩
                · have := strBytes_rel (ρ := ρ) b
                  rw [show cs.toList = (b.data.map fun b => Value.int .u8 b.toNat).toList ++ (Array.replicate (cap - b.size) (Value.int .u8 0)).toList by simp [cs]]
                  rw [this.length, List.take_left']
                  · exact this
                  · rfl
                · have hm := modify_push w.heap (.cells cs e) (fun
                      | .cells c elem (lo, hi) => .cells c elem (if lo == hi then (cs.size, cs.size + 1) else (min lo cs.size, max hi (cs.size + 1)))
                      | o => o)
                  refine ⟨({ w with drawn := w.drawn + 1, heap := w.heap.push (.cells cs e) } : World).freeze ⟨w.heap.size, cs.size, none⟩ 1, cap, by simp only [cap]; rw [hcut]; omega, by simp [cs]; omega, ?_, ?_⟩
                  · simp only [World.freeze, if_neg (show ¬ (1 : Nat) = 0 by omega)]
                    exact ⟨hm, by trivial, by trivial, by trivial⟩
                  · have e0 : (convert s d (.string b)).run P w = (Conv.stringToBytes e b).run P w := by
                      simp only [convert, Sem.run_bind, oks.underlying, run_underlying hu, Result.andThen_ok]
                      cases ts.desc <;> simp [ok.underlying, hd]
                    rw [e0]
                    have hsh : ({ w with drawn := w.drawn + 1, heap := w.heap.push (.cells cs e) } : World).shape? w.heap.size = some (e, cs.size) := by simp [World.shape?]
                    simp only [Conv.stringToBytes, Sem.run_bind, run_choose, Question.forced, Bool.false_eq_true, if_false, Result.andThen_ok, newRow, run_newObj, Sem.run_pure, markStringish, run_shape]
                    erw [hsh]
                    rfl
              obtain ⟨cs, h1, w', cap, h2, h2b, ⟨h3, h3o, h3p⟩, h4⟩ := key
              rw [h4]
              refine ⟨_, _, w', (cs.size, 1), rfl, h3, ⟨cap, by rw [hlen]; exact h2, by simp only; omega, by rw [hlen]⟩, ?_, Kept.push h3o h3p h3⟩
              refine ⟨?_, rfl, cs, e, (cs.size, cs.size + 1), by rw [h3]; simp, by simpa using h1, by simp⟩
              intro arr el fr hc i hi
              rw [h3] at hc
              simp at hc
              obtain ⟨hc1, hc2, hc3⟩ := hc
              subst hc1
              simp [World.frozen?, h3]
              omega
            · trivial
          · trivial
        · cases hs
      · trivial
    · refine acO_ok fun v hv => ?_
      unfold conv at hv
      split at hv
      · rename_i ts ti hts hti
        have oks := hT s ts hts
        have okd := hT d ti hti
        unfold convD at hv
        split at hv
        · rename_i k hd
          split at hv
          · cases hv
            generalize a.eval x = xe at h
            cases h
            exact ⟨_, .int _ _ .nil, by simp [convert, oks.underlying, okd.underlying, hd, Conv.intToInt]⟩
          · cases hv
        · rename_i hd
          split at hv
          · cases hv
            generalize a.eval x = xe at h
            cases h
            refine ⟨_, .str _ .nil, ?_⟩
            simp only [convert, Sem.run_bind, oks.underlying, okd.underlying, hd, Result.andThen_ok]
            cases ts.desc <;> simp
          · cases hv
        · cases hv
      · cases hv
  · trivial

theorem ok_iface (hT : ∀ t ti, E.T.get t = some ti → TIok P t ti) (hz : ∃ q, ρ 0 = some (0, 0, q)) (hTm : TR ρ tm a.tmps) (t : TypeId) (x : Operand) (o : Oper) (ho : o.op = .makeInterface t x) :
    AcOK ρ lk w (aIface t x E tm lk) ((execOp a.eval o).run P w) := by
  unfold aIface
  split
  · rename_i v hx
    have h := ev_sound hz hTm hx
    unfold ifaceV
    split
    · rename_i ti hti
      have ok := hT t ti hti
      split
      · trivial
      · rename_i hni
        refine ⟨.iface t (a.eval x), .iface t h .nil, ?_⟩
        simp only [execOp, ho, Sem.run_bind, Instr.makeInterface, ok.underlying, Result.andThen_ok]
        cases hd : ti.desc <;> first | exact absurd hd (hni _) | simp
    · trivial
  · trivial

theorem ok_func (hz : ∃ q, ρ 0 = some (0, 0, q)) (hTm : TR ρ tm a.tmps) (fn : Go.Fn) (f c : Array Operand) (o : Oper) (ho : o.op = .makeFunc fn f c) :
    AcOK ρ lk w (aFunc fn f c E tm lk) ((execOp a.eval o).run P w) := by
  unfold aFunc
  split
  · rename_i x y hx hy
    have h1 := evs_sound hz hTm hx
    have h2 := evs_sound hz hTm hy
    refine ⟨.func fn ⟨f.toList.map a.eval⟩ ⟨c.toList.map a.eval⟩, .func fn h1 h2 .nil, ?_⟩
    have e1 : f.map a.eval = ⟨f.toList.map a.eval⟩ := by rw [← Array.toList_map]
    have e2 : c.map a.eval = ⟨c.toList.map a.eval⟩ := by rw [← Array.toList_map]
    simp [execOp, ho, Instr.makeFunc, e1, e2]
  · trivial

theorem push_at {α : Type} (l : Array α) (x : α) : (l.push x)[l.size]? = some x := by simp
theorem ok_makeMap (t : TypeId) (r : Option Operand) (o : Oper) (ho : o.op = .makeMap t r) : AcOK ρ lk w (aMakeMap t r E tm lk) ((execOp a.eval o).run P w) := by
  cases r with
  | none =>
    refine ⟨.map (some w.heap.size), .map #[] 0, { w with heap := w.heap.push (.map #[] 0) }, (0, 0), ?_, rfl, rfl, ?_⟩
    · simp only [execOp, ho, Option.map_none, Instr.makeMap, Sem.run_bind, Sem.run_pure, Result.andThen_ok, run_newObj]
    · exact ⟨⟨rfl, #[], 0, push_at _ _, .nil, .nil⟩, Kept.push rfl ⟨rfl, rfl⟩ rfl⟩
  | some x => trivial

theorem wrap_small (n : Nat) (h : n ≤ 100000) : IntKind.i64.wrap (n : Int) = n := by
  have e : (n : Int) % (2 ^ 64 : Int) = n := by omega
  simp only [IntKind.wrap, IntKind.bits, IntKind.signed, e]
  rw [if_neg]
  simp
  omega

theorem ok_makeSl (hT : ∀ t ti, E.T.get t = some ti → TIok P t ti) (hz : ∃ q, ρ 0 = some (0, 0, q)) (hTm : TR ρ tm a.tmps) (t : TypeId) (l c : Operand) (o : Oper) (ho : o.op = .makeSlice t l c) :
    AcOK ρ lk w (aMakeSl t l c E tm lk) ((execOp a.eval o).run P w) := by
  unfold aMakeSl
  split
  · rename_i te k1 n k2 m hte hl hc
    obtain ⟨e, hu, ok⟩ := elemSl_ok hT hte
    have h1 := (ev_sound hz hTm hl)
    have h2 := (ev_sound hz hTm hc)
    have h1 := h1.inv_int
    have h2 := h2.inv_int
    unfold mkSl
    split
    · rename_i hb
      rw [Bool.and_eq_true, Bool.and_eq_true] at hb
      obtain ⟨⟨b1, b2⟩, b3⟩ := hb
      have b1 := Nat.le_of_ble_eq_true b1
      have b2 := Nat.le_of_ble_eq_true b2
      have b3 := Nat.le_of_ble_eq_true b3
      obtain ⟨i, hi, hib, his⟩ := ok.typeInfo w
      have w1 := wrap_small n (by omega)
      have w2 := wrap_small m (by omega)
      have hrun : ∃ cs : Array Value, VR ρ (repl m (cellsOf te.zero)) cs.toList ∧ cs.size = m * te.size ∧ (execOp a.eval o).run P w = .ok (.value (.slice (some ⟨w.heap.size, 0, none⟩) n m)) { w with heap := w.heap.push (.cells cs e) } := by
        have g1 : ¬ ((m : Int) < 0) := by omega
        have g2 : ¬ ((n : Int) < 0) := by omega
        have g3 : ¬ ((n : Int) > m) := by omega
        have g4 : ¬ ((i.bytes : Int) * (m : Int) > 2 ^ 48) := by rw [hib]; omega
        by_cases h0 : m * te.size = 0
        · refine ⟨_, by rw [zero_nil ok m h0]; exact (cellsOf_rel (ok.zero ρ)).repl m, by simp, ?_⟩
          simp only [execOp, ho, Sem.run_bind, Instr.makeSlice, run_underlying hu, Result.andThen_ok, h1, h2, asInt, asIntOf, Sem.run_pure, hi, ofNat_cast, w1, w2, g1, g2, g3, g4, h0, newRow, Int.toNat_natCast]
          simp
          rw [ok.sizeOf]
          simp [h0]
        · refine ⟨_, repl_zero ok m, by simp, ?_⟩
          simp only [execOp, ho, Sem.run_bind, Instr.makeSlice, run_underlying hu, Result.andThen_ok, h1, h2, asInt, asIntOf, Sem.run_pure, hi, ofNat_cast, w1, w2, g1, g2, g3, g4, newRow, Int.toNat_natCast]
          simp
          rw [ok.sizeOf]
          simp only [Result.andThen_ok, h0, if_false, ok.zeroValue]
      obtain ⟨cs, hv, hcz, hr⟩ := hrun
      rw [hr]
      exact ok_new_cells hv ⟨m, Nat.le_refl _, by simp only; omega, rfl⟩
    · trivial
  · trivial

theorem ok_extract (hz : ∃ q, ρ 0 = some (0, 0, q)) (hTm : TR ρ tm a.tmps) (x : Operand) (i : Nat) (o : Oper) (ho : o.op = .extract x i) : AcOK ρ lk w (aExtract x i E tm lk) ((execOp a.eval o).run P w) := by
  unfold aExtract
  split
  · rename_i vs hx
    have h := ev_sound hz hTm hx
    generalize hxe : a.eval x = xe at h
    cases h with
    | tup h1 _ =>
      refine acO_ok fun v hv => ?_
      obtain ⟨v', h2, h3⟩ := h1.nth hv
      refine ⟨v', h3, ?_⟩
      simp [execOp, ho, hxe, Instr.extract, h2]
  · trivial
end
end Go.Ev

/-
  A part of the proof of FireMay: KFacts. No condition.
-/
import Derived.Test.YthhbpkpnhpdeoaaGreatDoorKClo
import Derived.JoinedOf
namespace Go.Proofs.YthhbpkpnhpdeoaaGreatDoor
open Go
noncomputable def allP (p : Nat → Bool) (a : Nat) : Nat → Bool
  | 0 => true
  | n + 1 => p (a + n) && allP p a n
theorem allP_at {p : Nat → Bool} {a : Nat} : ∀ {n : Nat}, allP p a n = true → ∀ j, a ≤ j → j < a + n → p j = true
  | 0, _, j, h1, h2 => by omega
  | n + 1, h, j, h1, h2 => by
    simp only [allP, Bool.and_eq_true] at h
    by_cases e : j = a + n
    · subst e; exact h.1
    · exact allP_at h.2 j h1 (by omega)
theorem r0 : allP (rowFine Tryz.prog) 0 62 = true := by kernel_rfl
theorem r1 : allP (rowFine Tryz.prog) 62 62 = true := by kernel_rfl
theorem r2 : allP (rowFine Tryz.prog) 124 62 = true := by kernel_rfl
theorem r3 : allP (rowFine Tryz.prog) 186 62 = true := by kernel_rfl
theorem r4 : allP (rowFine Tryz.prog) 248 62 = true := by kernel_rfl
theorem r5 : allP (rowFine Tryz.prog) 310 62 = true := by kernel_rfl
theorem r6 : allP (rowFine Tryz.prog) 372 62 = true := by kernel_rfl
theorem r7 : allP (rowFine Tryz.prog) 434 62 = true := by kernel_rfl
theorem r8 : allP (rowFine Tryz.prog) 496 62 = true := by kernel_rfl
theorem r9 : allP (rowFine Tryz.prog) 558 62 = true := by kernel_rfl
theorem r10 : allP (rowFine Tryz.prog) 620 62 = true := by kernel_rfl
theorem r11 : allP (rowFine Tryz.prog) 682 50 = true := by kernel_rfl
theorem all_below {p : Nat → Bool} (h0 : allP p 0 62 = true) (h1 : allP p 62 62 = true) (h2 : allP p 124 62 = true) (h3 : allP p 186 62 = true) (h4 : allP p 248 62 = true) (h5 : allP p 310 62 = true) (h6 : allP p 372 62 = true) (h7 : allP p 434 62 = true) (h8 : allP p 496 62 = true) (h9 : allP p 558 62 = true) (h10 : allP p 620 62 = true) (h11 : allP p 682 50 = true) : ∀ j, j < 732 → p j = true := by
  intro j hj
  by_cases c0 : j < 62; · exact allP_at h0 j (by omega) (by omega)
  by_cases c1 : j < 124; · exact allP_at h1 j (by omega) (by omega)
  by_cases c2 : j < 186; · exact allP_at h2 j (by omega) (by omega)
  by_cases c3 : j < 248; · exact allP_at h3 j (by omega) (by omega)
  by_cases c4 : j < 310; · exact allP_at h4 j (by omega) (by omega)
  by_cases c5 : j < 372; · exact allP_at h5 j (by omega) (by omega)
  by_cases c6 : j < 434; · exact allP_at h6 j (by omega) (by omega)
  by_cases c7 : j < 496; · exact allP_at h7 j (by omega) (by omega)
  by_cases c8 : j < 558; · exact allP_at h8 j (by omega) (by omega)
  by_cases c9 : j < 620; · exact allP_at h9 j (by omega) (by omega)
  by_cases c10 : j < 682; · exact allP_at h10 j (by omega) (by omega)
  exact allP_at h11 j (by omega) (by omega)
theorem laid_globals : Tryz.prog.globals.all (fun g => decide (g.type < Tryz.prog.types.size)) = true := by kernel_rfl
theorem laid_funcs : Tryz.prog.funcs.all (fun f => f.params.all fun t => decide (t < Tryz.prog.types.size)) = true := by kernel_rfl
theorem laid_rows : (List.range Tryz.prog.types.size).all (rowFine Tryz.prog) = true := by
  rw [sizeT, List.all_eq_true]
  exact fun j hj => all_below r0 r1 r2 r3 r4 r5 r6 r7 r8 r9 r10 r11 j (List.mem_range.1 hj)
theorem laidOut : laidOutB Tryz.prog = true := by
  unfold laidOutB
  rw [laid_rows, laid_globals, laid_funcs]
  rfl
theorem j0 : (Rows.fireMayRow.wf (OpenSpec.ofChange Rows.fireMaySpec)) = true := by kernel_rfl
theorem j2 : (mapsRowed Tryz.prog) = true := by kernel_rfl
theorem j3 : (Tryz.f3.params.all (Tryz.prog.readableRec ·)) = true := by kernel_rfl
theorem j4 : (namedTie Tryz.prog Rows.fireMayRow.named Rows.fireMaySpec.vars) = true := by kernel_rfl
theorem j5 : ((Rows.fireMayRow.stops == [])) = true := by kernel_rfl
theorem j6 : ((Tryz.prog.stops == [])) = true := by kernel_rfl
theorem j7 : ((Rows.fireMayRow.knobs == [])) = true := by kernel_rfl
theorem j8 : ((Tryz.prog.stopKnobs == [])) = true := by kernel_rfl
theorem j13 : ((Rows.fireMayRow.maps == (Tryz.f3.params.toList ++ Rows.fireMaySpec.plain.varTypes Tryz.prog).any (Tryz.prog.mapsRec ·))) = true := by kernel_rfl
theorem j14 : ((Rows.fireMayRow.ifaces == (Tryz.f3.params.toList ++ Rows.fireMaySpec.plain.varTypes Tryz.prog).any (Tryz.prog.ifacesRec ·))) = true := by kernel_rfl
theorem j15 : ((Rows.fireMayRow.mapsOut == Tryz.prog.mapsAmong Tryz.f3.resultTypes.toList)) = true := by kernel_rfl
theorem j16 : ((Rows.fireMayRow.loops == (Tryz.f3.params.toList ++ Rows.fireMaySpec.plain.varTypes Tryz.prog).any (Tryz.prog.loopsFrom ·))) = true := by kernel_rfl
theorem j17 : ((Rows.fireMayRow.wideKeys == (Tryz.f3.params.toList ++ Rows.fireMaySpec.plain.varTypes Tryz.prog ++ Tryz.f3.resultTypes.toList).any (Tryz.prog.wideKeysFrom ·))) = true := by kernel_rfl
theorem j18 : (Rows.fireMaySpec.vars.all (Tryz.prog.varReadable ·)) = true := by kernel_rfl
theorem j19 : (Tryz.f3.resultTypes.all (fun t => Tryz.prog.readableRec t && decide (t < Tryz.prog.types.size))) = true := by kernel_rfl
theorem j20 : ((Rows.fireMayRow.ifacesOut == Tryz.f3.resultTypes.toList.any (Tryz.prog.ifacesRec ·))) = true := by kernel_rfl
theorem j21 : ((Rows.fireMayRow.loopsOut == Tryz.f3.resultTypes.toList.any (Tryz.prog.loopsFrom ·))) = true := by kernel_rfl
theorem j22 : ((Rows.fireMayRow.plainKeys == Tryz.prog.plainKeys)) = true := by kernel_rfl
theorem j23 : (Rows.fireMayRow.shortTexts.isNone) = true := by kernel_rfl
theorem j24 : (Tryz.prog.stopsHeard) = true := by kernel_rfl
theorem j25 : (Tryz.prog.mayEnter) = true := by kernel_rfl
theorem j26 : ((Rows.fireMayRow.lifted == Tryz.prog.liftsFinal)) = true := by kernel_rfl
theorem j27 : ((Tryz.prog.make == some Rows.fireMayRow.make)) = true := by kernel_rfl
theorem j29 : ((Rows.fireMayRow.pinned == Rows.fireMayRow.pinnedBy)) = true := by kernel_rfl
theorem j30 : ((Rows.fireMayRow.veiled == (Tryz.f3.params.toList ++ Rows.fireMaySpec.plain.varTypes Tryz.prog ++ Tryz.f3.resultTypes.toList).any (Tryz.prog.veiledRec ·))) = true := by kernel_rfl
theorem j31 : (Rows.fireMayRow.veiledFits Tryz.prog Tryz.f3.params.toList (Tryz.f3.params.toList ++ Rows.fireMaySpec.plain.varTypes Tryz.prog ++ Tryz.f3.resultTypes.toList)) = true := by kernel_rfl
theorem and_t {a b : Bool} (h : a = true) (k : b = true) : (a && b) = true := by rw [h, k]; rfl
theorem row_closed : joinedFacts Tryz.prog 3 Tryz.f3 Rows.fireMaySpec Rows.fireMayRow = true := by
  unfold joinedFacts
  exact (and_t (and_t (and_t (and_t (and_t (and_t (and_t (and_t (and_t (and_t (and_t (and_t (and_t (and_t (and_t (and_t (and_t (and_t (and_t (and_t (and_t (and_t (and_t (and_t (and_t (and_t (and_t (and_t (and_t (and_t (and_t j0 laidOut) j2) j3) j4) j5) j6) j7) j8) j9) j10) j11) j12) j13) j14) j15) j16) j17) j18) j19) j20) j21) j22) j23) j24) j25) j26) j27) (by kernel_rfl)) j29) j30) j31)
end Go.Proofs.YthhbpkpnhpdeoaaGreatDoor

/-
  FireMay's row. Condition: awake's contract, as a hypothesis.
-/
import Derived.Test.YthhbpkpnhpdeoaaGreatDoorKRowB
import Derived.Test.YthhbpkpnhpdeoaaGreatDoorKFacts
namespace Go.Proofs.YthhbpkpnhpdeoaaGreatDoor
open Go Go.RowKit Go.ChangeShapes Go.WideShapes Go.ChangeAt Go.ChangeMaps Go.Ev KX
set_option maxRecDepth 100000 in
theorem lifted (A : Awake) (os : Os) (started : os.Started) (H : Type) (enc : TypeId × Value → H) :
    ReturnsInHanded {} Tryz.checked os 3 .any (fun w args => (Rows.fireMaySpec.pre enc Tryz.prog Tryz.f3 [] false w args ∧ laidMetH Tryz.prog laid9 w) ∧ sizedMet enc Tryz.prog Tryz.f3 (OpenSpec.ofChange Rows.fireMaySpec) false w args)
      (Rows.fireMaySpec.post enc Tryz.prog Tryz.f3 false true false false) := by
  refine returnsInHanded_of_change_and (C := Tryz.checked) (X := fun w _ => laidMetH Tryz.prog laid9 w) (fun _ _ _ hh h => h.of_heap hh) own started (by kernel_rfl) Tryz.func3
    (ChangeSpec.witness_shaped (enc := enc) (C := Tryz.checked) (os := os) (X := fun w _ => laidMetH Tryz.prog laid9 w) false (World.laidAll Tryz.prog os laid9) args0 8 (World.laidAll_os _ _ _)
      (World.shaped_of_ZipB (start_zip os) (start_tail os)) (start_ok os) (start_pre os H enc) (start_sized os H enc) (start_met os)) ?_
  intro W base args ds gs before hval0 hW _ _ hL _
  have hval : ∀ (j : Nat) t v, Tryz.f3.params[j]? = some t → args[j]? = some v → Value.okWide Tryz.prog W .any base t v := hval0
  have hW' := hW
  obtain ⟨p, q, hA0, hV, rfl, _, _⟩ := hW
  have hA : DataW.TrodAll enc Tryz.prog W 0 (fun _ => true) true Tryz.f3.params.toList args.toList ds p := hA0
  rw [Tryz.params3] at hA hval
  obtain ⟨v0, v1, v2, d0, d1, d2, p0, p1, p2, rfl, rfl, rfl, h0, h1, h2⟩ := trodAll_three hA
  obtain ⟨rfl, rfl⟩ := trodVars_none hV
  obtain ⟨o, rfl, rfl, rfl, ho⟩ := open_string Tryz.underlying9 (hval 1 9 v1 rfl rfl) h1
  obtain ⟨n, rfl, rfl, rfl, hn⟩ := open_string Tryz.underlying9 (hval 2 9 v2 rfl rfl) h2
  obtain ⟨a0, len, cap, rfl⟩ := okWide_slice Tryz.underlying22 (hval 0 22 v0 rfl rfl)
  have h0k := h0
  have hlt : ∀ x ∈ p0, x.block < W.heap.size := fun x hx => by
    have := hW'.lt x
    simp only [List.append_nil] at this
    exact this hx
  have hw0 := laid0_of hL
  obtain ⟨fuel, hf⟩ := h0
  have hcall : Calls Tryz.prog 3 #[.slice a0 len cap, .string o, .string n] W fun e w' => e = .returned (.bool true) ∧ Below W.heap.size W w' := by
    rcases open_busies hf with hcs | ⟨a, len', cap', bs, hcs, hl, hbs, hc⟩
    · simp [Value.cells] at hcs
      obtain ⟨rfl, rfl, rfl⟩ := hcs
      by_cases hout : ¬ o.size ≤ 200 ∨ ¬ n.size ≤ 200
      · exact law_out A none 0 0 o n W hw0 (.inr hout)
      · exact law_zero A none 0 o n W (by omega) (by omega) hw0
    · simp [Value.cells] at hcs
      obtain ⟨rfl, rfl, rfl⟩ := hcs
      exact law_any A a len cap bs o n W hbs hl hw0 hc
  refine hcall.mono fun e W' ⟨he, hb⟩ => ?_
  subst he
  have hargs := trodAll_mk3 (busy_again h0k hb hlt) (shut_string (enc := enc) (w := W') (base := 0) (sp := fun b => decide (b < W.heap.size)) (held := true) Tryz.underlying9 ho) (shut_string (enc := enc) (w := W') (base := 0) (sp := fun b => decide (b < W.heap.size)) (held := true) Tryz.underlying9 hn)
  simp only [List.append_nil] at hargs
  exact ⟨_, rfl, _, _, _, [], p0, [], hW', trodAll_mk1 (shut_bool Tryz.underlying4 _), hargs, rfl, hb.frame _, fun h => by cases h⟩
theorem row_wrap : Tryz.f3.isWrapper Tryz.prog Rows.fireMayRow.wrapper Rows.fireMayRow.mainSum := by
  unfold Func.isWrapper; first | (rw [if_pos (by decide +kernel)]; kernel_rfl) | (rw [if_neg (by decide +kernel)]; exact ⟨rfl, rfl⟩)
theorem row_named : Tryz.prog.funcNamed "justiciar/justiciarlaw13.FireMay" = some 3 := by kernel_rfl
theorem row_inst : Tryz.f3.isInstance Tryz.prog Rows.fireMayRow.origin Rows.fireMayRow.targs := of_decide_eq_true (by kernel_rfl)
theorem holds_of (A : Awake) : Rows.FireMaySaid :=
  OpenClaim.holds_of_wide 3 Tryz.f3 rfl rfl rfl rfl rfl rfl rfl ⟨rfl, rfl, rfl, rfl, rfl⟩ rfl rfl rfl rfl rfl row_named Tryz.func3 row_closed
    row_inst row_wrap
    (fun os started H enc _ => lifted A os started H enc)
end Go.Proofs.YthhbpkpnhpdeoaaGreatDoor

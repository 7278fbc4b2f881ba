/-
  A part of the proof of FireMay: KRowA. No condition.
-/
import Derived.Test.YthhbpkpnhpdeoaaGreatDoorRows
import Derived.Test.YthhbpkpnhpdeoaaGreatDoorKWalk
import Derived.ProofKit
import Derived.Lay
import Derived.LaidOnce
import Derived.OpenShut
import Derived.Carry
import Derived.ChangeStays
namespace Go.Proofs.YthhbpkpnhpdeoaaGreatDoor
open Go Go.RowKit Go.ChangeShapes Go.WideShapes Go.ChangeAt Go.Ev KX
theorem own : ownKnob Tryz.prog.godebug = none := by kernel_rfl
/-- the types of a change's row, and below -/
def busyT (t : TypeId) : Prop := t = 22 ∨ t = 27 ∨ t = 9 ∨ t = 25 ∨ t = 4
theorem busyKids : Kids Tryz.prog busyT where
  pointer := by
    intro t e h hu
    rcases h with rfl | rfl | rfl | rfl | rfl <;> simp only [Tryz.underlying22, Tryz.underlying27, Tryz.underlying9, Tryz.underlying25, Tryz.underlying4] at hu <;> cases hu
  slice := by
    intro t e h hu
    rcases h with rfl | rfl | rfl | rfl | rfl <;> simp only [Tryz.underlying22, Tryz.underlying27, Tryz.underlying9, Tryz.underlying25, Tryz.underlying4] at hu <;> cases hu
    exact .inr (.inl rfl)
  array := by
    intro t e n h hu
    rcases h with rfl | rfl | rfl | rfl | rfl <;> simp only [Tryz.underlying22, Tryz.underlying27, Tryz.underlying9, Tryz.underlying25, Tryz.underlying4] at hu <;> cases hu
  map := by
    intro t k e h hu
    rcases h with rfl | rfl | rfl | rfl | rfl <;> simp only [Tryz.underlying22, Tryz.underlying27, Tryz.underlying9, Tryz.underlying25, Tryz.underlying4] at hu <;> cases hu
  struct := by
    intro t fs h hu
    rcases h with rfl | rfl | rfl | rfl | rfl <;> simp only [Tryz.underlying22, Tryz.underlying27, Tryz.underlying9, Tryz.underlying25, Tryz.underlying4] at hu <;> cases hu
    refine ⟨?_, ?_, ?_⟩
    · intro f hf
      simp only [List.mem_cons, List.mem_nil_iff, or_false] at hf
      rcases hf with rfl | rfl | rfl | rfl | rfl <;> simp [busyT]
    · simp [cells5, cells9, cells25, cells4]
    · intro j f hj
      match j, hj with
      | 0, hj => simp at hj; subst hj; simp
      | 1, hj => simp at hj; subst hj; simp [cells9]
      | 2, hj => simp at hj; subst hj; simp [cells9]
      | 3, hj => simp at hj; subst hj; simp [cells9, cells25]
      | 4, hj => simp at hj; subst hj; simp [cells9, cells25, cells4]
      | n + 5, hj => simp at hj
/-- an argument of such a type reads behind the call as it did -/
theorem busy_again {H : Type} {enc : TypeId × Value → H} {W W' : World} {v : Value} {d : DataW H} {ps : List MemPlace} (h : DataW.Trod enc Tryz.prog W 0 (fun _ => true) true 22 v d ps) (hb : Below W.heap.size W W') (hlt : ∀ x ∈ ps, x.block < W.heap.size) :
    DataW.Trod enc Tryz.prog W' 0 (fun b => decide (b < W.heap.size)) true 22 v d ps := by
  obtain ⟨n, hn⟩ := h
  refine ⟨n, DataW.trod_stays busyKids ?_ (fun h => by cases h) (.inl rfl) hn (fun x hx => hb.same (hlt x hx)) (fun x hx => by simpa using hlt x hx)⟩
  intro t e ht hu
  rcases ht with rfl | rfl | rfl | rfl | rfl <;> simp only [Tryz.underlying22, Tryz.underlying27, Tryz.underlying9, Tryz.underlying25, Tryz.underlying4] at hu <;> cases hu
  rw [cells5]; decide
def laid9 : List (String × DataW Unit) := Rows.fireMayRow.laid
theorem gNull : Tryz.prog.globalNamed "justiciar/value.Null" = some 0 := by kernel_rfl
theorem tNull : (Tryz.prog.globals[0]?).map (·.type) = some 44 := by kernel_rfl
theorem noHandle : (laid9.all fun x => x.2.handleName?.isNone) = true := by kernel_rfl
noncomputable def valueF : Array Field := #[{ name := "Kind", type := 42, offset := 0, embedded := false, tag := "", pkgPath := "", byteOffset := 0 },
  { name := "N", type := 3, offset := 1, embedded := false, tag := "", pkgPath := "", byteOffset := 8 },
  { name := "Text", type := 9, offset := 2, embedded := false, tag := "", pkgPath := "", byteOffset := 16 }]
theorem cells44 : Tryz.prog.cellsOf 44 = 3 := by kernel_rfl
theorem cells42 : Tryz.prog.cellsOf 42 = 1 := by kernel_rfl
theorem cells3 : Tryz.prog.cellsOf 3 = 1 := by kernel_rfl
end Go.Proofs.YthhbpkpnhpdeoaaGreatDoor
namespace Go.Proofs.YthhbpkpnhpdeoaaGreatDoor
open Go Go.RowKit Go.ChangeShapes Go.WideShapes Go.ChangeAt Go.Ev KX
theorem three_of {cs : List Value} {a b c : Value} (hl : cs.length = 3) (e0 : (cs.drop 0).take 1 = [a]) (e1 : (cs.drop 1).take 1 = [b]) (e2 : (cs.drop 2).take 1 = [c]) : cs = [a, b, c] := by
  match cs, hl with
  | [c0, c1, c2], _ => simp at e0 e1 e2; rw [e0, e1, e2]
theorem null_cells {w : World} {base : Nat} {sp : Nat → Bool} {held : Bool} {fuel : Nat} {cs : List Value} {p : List MemPlace}
    (h : DataW.trod (fun _ => ()) Tryz.prog w base sp held fuel 44 cs = some (Rows.laid_justiciar_value_Null, p)) : cs = nullC := by
  obtain ⟨xs, n, _, hx, hlen, hxl, hf⟩ := DataW.trod_struct (fs := valueF) Tryz.underlying44 h
  have hx2 := congrArg Prod.fst hx
  have hx2 : DataW.agg [.lit (.int .i64 0), .lit (.int .i64 0), .lit (.string [])] = DataW.agg (xs.map (·.1)) := hx2
  have hlen : cs.length = 3 := hlen.trans cells44
  match xs, hx2, hf with
  | [x0, x1, x2], hx2, hf =>
    simp only [List.map_cons, List.map_nil, DataW.agg.injEq, List.cons.injEq, and_true] at hx2
    have h0 : DataW.trod (fun _ => ()) Tryz.prog w base sp held n 42 ((cs.drop 0).take 1) = some x0 := (congrArg (fun k => DataW.trod (fun _ => ()) Tryz.prog w base sp held n 42 ((cs.drop 0).take k)) cells42.symm).trans (hf 0 _ rfl)
    have h1 : DataW.trod (fun _ => ()) Tryz.prog w base sp held n 3 ((cs.drop 1).take 1) = some x1 := (congrArg (fun k => DataW.trod (fun _ => ()) Tryz.prog w base sp held n 3 ((cs.drop 1).take k)) cells3.symm).trans (hf 1 _ rfl)
    have h2 : DataW.trod (fun _ => ()) Tryz.prog w base sp held n 9 ((cs.drop 2).take 1) = some x2 := (congrArg (fun k => DataW.trod (fun _ => ()) Tryz.prog w base sp held n 9 ((cs.drop 2).take k)) cells9.symm).trans (hf 2 _ rfl)
    obtain ⟨a0, e0, g0, _⟩ := DataW.trod_int Tryz.underlying42 h0
    obtain ⟨a1, e1, g1, _⟩ := DataW.trod_int Tryz.underlying3 h1
    obtain ⟨a2, e2, g2, _⟩ := DataW.trod_string Tryz.underlying9 h2
    rw [g0, g1, g2] at hx2
    have k0 : a0 = 0 := by simpa using hx2.1.symm
    have k1 : a1 = 0 := by simpa using hx2.2.1.symm
    have k2 : a2 = ByteArray.mk #[] := by
      have : a2.data.toList = [] := by simpa using hx2.2.2.symm
      cases a2 with
      | mk d =>
        have : d = #[] := by simpa using this
        rw [this]
    rw [three_of hlen e0 e1 e2, k0, k1, k2]
    rfl
theorem laid0_of {w : World} (h : laidMetH Tryz.prog laid9 w) : Laid0 nullC w := by
  rw [MakeChecks.laidMetH_plain _ _ _ noHandle] at h
  obtain ⟨ps, hl, _, hc⟩ := h
  obtain ⟨g, t, cs, fuel, p, q, hg, ht, hv, hd, _, rfl⟩ := hl
  obtain rfl := Option.some.inj (gNull.symm.trans hg)
  obtain rfl := Option.some.inj (tNull.symm.trans ht)
  have e := null_cells hd
  have hheap : ∃ el fr, w.heap[0]? = some (.cells cs el fr) := by
    unfold World.var? at hv
    rw [gNull] at hv
    simp only [Option.bind_some] at hv
    split at hv
    · rename_i c el fr hh
      cases hv
      exact ⟨el, fr, hh⟩
    · cases hv
  obtain ⟨el, fr, hh⟩ := hheap
  have hsz : cs.size = 3 := by
    have := congrArg List.length e
    simpa [nullC] using this
  have hmem : MemPlace.cell 0 0 ∈ MemPlace.row ⟨0, 0, none⟩ cs.size ++ p ++ q := by
    rw [hsz]
    simp [MemPlace.row]
  obtain ⟨⟨c, t', h2⟩, _⟩ := hc 0 0 hmem
  rw [hh] at h2
  cases h2
  refine ⟨?_, cs, el, (0, 0), hh, e⟩
  intro arr e' fr' h3 i hi
  rw [hh] at h3
  cases h3
  simp [World.frozen?, hh]
end Go.Proofs.YthhbpkpnhpdeoaaGreatDoor
namespace Go.Proofs.YthhbpkpnhpdeoaaGreatDoor
open Go
/-- is it the row of the library's plain errors? -/
noncomputable def isErr (u : Nat) : Bool := Tryz.prog.typeName? 3 u == some "*errors.errorString"
noncomputable def noP (p : Nat → Bool) (a : Nat) : Nat → Bool
  | 0 => true
  | n + 1 => !p (a + n) && noP p a n
theorem noP_at {p : Nat → Bool} {a : Nat} : ∀ {n : Nat}, noP p a n = true → ∀ j, a ≤ j → j < a + n → p j = false
  | 0, _, j, h1, h2 => by omega
  | n + 1, h, j, h1, h2 => by
    simp only [noP, Bool.and_eq_true, Bool.not_eq_true'] at h
    by_cases e : j = a + n
    · subst e; exact h.1
    · exact noP_at h.2 j h1 (by omega)
theorem find_range {p : Nat → Bool} {n u : Nat} (hu : p u = true) (hn : u < n) (h : ∀ j, j < u → p j = false) : (List.range n).find? p = some u := by
  rw [List.find?_range_eq_some]
  exact ⟨hu, List.mem_range.2 hn, fun j hj => by rw [h j hj]; rfl⟩
theorem none_below {p : Nat → Bool} (h0 : noP p 0 50 = true) (h1 : noP p 50 50 = true) (h2 : noP p 100 50 = true) (h3 : noP p 150 50 = true) (h4 : noP p 200 50 = true) (h5 : noP p 250 50 = true) (h6 : noP p 300 50 = true) (h7 : noP p 350 50 = true) (h8 : noP p 400 50 = true) (h9 : noP p 450 50 = true) (h10 : noP p 500 50 = true) (h11 : noP p 550 50 = true) (h12 : noP p 600 50 = true) (h13 : noP p 650 53 = true) : ∀ j, j < 703 → p j = false := by
  intro j hj
  by_cases c0 : j < 50; · exact noP_at h0 j (by omega) (by omega)
  by_cases c1 : j < 100; · exact noP_at h1 j (by omega) (by omega)
  by_cases c2 : j < 150; · exact noP_at h2 j (by omega) (by omega)
  by_cases c3 : j < 200; · exact noP_at h3 j (by omega) (by omega)
  by_cases c4 : j < 250; · exact noP_at h4 j (by omega) (by omega)
  by_cases c5 : j < 300; · exact noP_at h5 j (by omega) (by omega)
  by_cases c6 : j < 350; · exact noP_at h6 j (by omega) (by omega)
  by_cases c7 : j < 400; · exact noP_at h7 j (by omega) (by omega)
  by_cases c8 : j < 450; · exact noP_at h8 j (by omega) (by omega)
  by_cases c9 : j < 500; · exact noP_at h9 j (by omega) (by omega)
  by_cases c10 : j < 550; · exact noP_at h10 j (by omega) (by omega)
  by_cases c11 : j < 600; · exact noP_at h11 j (by omega) (by omega)
  by_cases c12 : j < 650; · exact noP_at h12 j (by omega) (by omega)
  exact noP_at h13 j (by omega) (by omega)
theorem e0 : noP isErr 0 50 = true := by kernel_rfl
theorem e1 : noP isErr 50 50 = true := by kernel_rfl
theorem e2 : noP isErr 100 50 = true := by kernel_rfl
theorem e3 : noP isErr 150 50 = true := by kernel_rfl
theorem e4 : noP isErr 200 50 = true := by kernel_rfl
theorem e5 : noP isErr 250 50 = true := by kernel_rfl
theorem e6 : noP isErr 300 50 = true := by kernel_rfl
theorem e7 : noP isErr 350 50 = true := by kernel_rfl
theorem e8 : noP isErr 400 50 = true := by kernel_rfl
theorem e9 : noP isErr 450 50 = true := by kernel_rfl
theorem e10 : noP isErr 500 50 = true := by kernel_rfl
theorem e11 : noP isErr 550 50 = true := by kernel_rfl
theorem e12 : noP isErr 600 50 = true := by kernel_rfl
theorem e13 : noP isErr 650 53 = true := by kernel_rfl
theorem eAt : isErr 703 = true := by kernel_rfl
theorem sizeT : Tryz.prog.types.size = 732 := by kernel_rfl
theorem err_found : (List.range Tryz.prog.types.size).find? isErr = some 703 := by
  rw [sizeT]
  exact find_range eAt (by decide) (none_below e0 e1 e2 e3 e4 e5 e6 e7 e8 e9 e10 e11 e12 e13)
theorem err_find : ((List.range Tryz.prog.types.size).find? fun u => Tryz.prog.typeName? 3 u == some "*errors.errorString") = some 703 := err_found
end Go.Proofs.YthhbpkpnhpdeoaaGreatDoor

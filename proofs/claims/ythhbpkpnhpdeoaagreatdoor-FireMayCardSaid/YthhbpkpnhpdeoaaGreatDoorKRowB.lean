/-
  A part of the proof of FireMay: KRowB. No condition.
-/
import Derived.Test.YthhbpkpnhpdeoaaGreatDoorKRowA
import Derived.ChangeMaps5
namespace Go.Proofs.YthhbpkpnhpdeoaaGreatDoor
open Go Go.RowKit Go.ChangeShapes Go.WideShapes Go.ChangeAt Go.Ev KX
theorem waits : waiting Tryz.prog = Array.replicate 10 false := by kernel_rfl
/-- a variable's zero cells -/
noncomputable def zc (t : TypeId) : Obj := .cells ((((Tryz.prog.types[t]?).bind (·.zero)).map (·.cells)).getD #[]) t
/-- memory as a run of the program begins -/
noncomputable def H0 : List Obj := [zc 44, zc 3, zc 656, zc 530, zc 530, zc 692, zc 695, zc 700, zc 716, zc 717, .cells ((Array.range 732).map fun t => .int .u64 (Int.ofNat t)) 0, .map #[] 0, .finalizers #[] none, .cells #[.bool false] 0, .finalizers #[] none]
theorem begin_heap (os : Os) : (begin Tryz.prog (fun _ _ => 0) os).world.heap = ⟨H0⟩ := by
  unfold begin
  simp only [waits]
  kernel_rfl
theorem settled_heap (os : Os) : (World.settled Tryz.prog os).heap = ⟨H0⟩ := by
  unfold World.settled
  simp only [begin_heap]
  kernel_rfl
theorem holding_heap (os : Os) : (World.holding Tryz.prog os ⟨#[], #[], []⟩).heap = ⟨H0⟩ := by
  unfold World.holding
  simp only [settled_heap]
  kernel_rfl
/-! the listed variables: seven by the kernel, the two errors by hand -/
theorem layList_append {P : Program} : ∀ (a b : List (String × DataW Unit)) (n : Nat) (y z : List (Nat × List Value) × List Obj), Lay.layList P n a = some y → Lay.layList P (n + y.2.length) b = some z → Lay.layList P n (a ++ b) = some (y.1 ++ z.1, y.2 ++ z.2)
  | [], b, n, y, z, h, hz => by
    unfold Lay.layList at h
    cases h
    simpa using hz
  | x :: a, b, n, y, z, h, hz => by
    unfold Lay.layList at h
    split at h
    · rename_i g hg
      split at h
      · rename_i gl hgl
        split at h
        · rename_i u hu
          split at h
          · rename_i v hv
            cases h
            have := layList_append a b (n + u.2.length) v z hv (by rw [← hz]; simp [Nat.add_assoc])
            rw [List.cons_append]
            unfold Lay.layList
            simp only [hg, hgl, hu, this, List.cons_append, List.append_assoc]
          · cases h
        · cases h
      · cases h
    · cases h
def laidA : List (String × DataW Unit) := laid9.take 7
def laidE : List (String × DataW Unit) := [("strconv.ErrSyntax", Rows.laid_strconv_ErrSyntax), ("strconv.ErrRange", Rows.laid_strconv_ErrRange)]
theorem laid_cut : laid9 = laidA ++ laidE := rfl
noncomputable def layA : List (Nat × List Value) × List Obj := (Lay.layList Tryz.prog 15 laidA).getD ([], [])
theorem layA_some : (Lay.layList Tryz.prog 15 laidA).isSome = true := by kernel_rfl
theorem layA_len : layA.2.length = 1 := by kernel_rfl
theorem layA_is : Lay.layList Tryz.prog 15 laidA = some layA := by
  obtain ⟨y, hy⟩ := Option.isSome_iff_exists.1 layA_some
  unfold layA
  rw [hy]
  rfl
/-- an error's text -/
def errT (bs : List UInt8) : DataW Unit := .iface "*errors.errorString" (.ptr (.agg [.lit (.string bs)]))
noncomputable def errV (n : Nat) : List Value := [.iface 703 (.pointer (some ⟨n, 0, none⟩))]
noncomputable def errB (bs : List UInt8) : List Obj := [.cells #[.string ⟨bs.toArray⟩] 705]
theorem err_in (n : Nat) (bs : List UInt8) (h : bs.length ≤ maxLen) : DataW.lay Tryz.prog 703 n (.ptr (.agg [.lit (.string bs)])) = some ([.pointer (some ⟨n, 0, none⟩)], errB bs) := by
  have c705 : Tryz.prog.cellsOf 705 = 1 := by kernel_rfl
  simp only [DataW.lay, DataW.layEach, Tryz.underlying703, Tryz.underlying705, Tryz.underlying9, c705, cells9, h, if_true, List.map_cons, List.map_nil, List.length_cons, List.length_nil, Nat.zero_add, and_self]
  rfl
theorem err_lay (n : Nat) (bs : List UInt8) (h : bs.length ≤ maxLen) : DataW.lay Tryz.prog 530 n (errT bs) = some (errV n, errB bs) := by
  unfold errT
  rw [DataW.lay]
  rw [err_find, Tryz.underlying530]
  simp only [err_in n bs h]
  unfold Lay.pack
  simp only [Tryz.underlying703]
  rfl
theorem layList_cons {P : Program} {n : Nat} {x : String × DataW Unit} {r : List (String × DataW Unit)} {g : Nat} {t : TypeId} {y : List Value × List Obj} {z : List (Nat × List Value) × List Obj}
    (hg : P.globalNamed x.1 = some g) (ht : (P.globals[g]?).map (·.type) = some t) (hy : x.2.lay P t n = some y) (hz : Lay.layList P (n + y.2.length) r = some z) : Lay.layList P n (x :: r) = some ((g, y.1) :: z.1, y.2 ++ z.2) := by
  obtain ⟨gl, h1, h2⟩ := Option.map_eq_some_iff.1 ht
  unfold Lay.layList
  simp only [hg, h1, h2, hy, hz]
theorem gSyn : Tryz.prog.globalNamed "strconv.ErrSyntax" = some 3 := by kernel_rfl
theorem tSyn : (Tryz.prog.globals[3]?).map (·.type) = some 530 := by kernel_rfl
theorem gRan : Tryz.prog.globalNamed "strconv.ErrRange" = some 4 := by kernel_rfl
theorem tRan : (Tryz.prog.globals[4]?).map (·.type) = some 530 := by kernel_rfl
def synT : List UInt8 := [105, 110, 118, 97, 108, 105, 100, 32, 115, 121, 110, 116, 97, 120]
def ranT : List UInt8 := [118, 97, 108, 117, 101, 32, 111, 117, 116, 32, 111, 102, 32, 114, 97, 110, 103, 101]
noncomputable def layE : List (Nat × List Value) × List Obj := ([(3, errV 16), (4, errV 17)], errB synT ++ errB ranT)
theorem layE_is : Lay.layList Tryz.prog 16 laidE = some layE := by
  have h2 : Lay.layList Tryz.prog 17 [("strconv.ErrRange", Rows.laid_strconv_ErrRange)] = some ([(4, errV 17)], errB ranT) := by
    have h3 : Lay.layList Tryz.prog (17 + (errB ranT).length) [] = some ([], []) := by unfold Lay.layList; rfl
    have h4 := layList_cons (x := ("strconv.ErrRange", Rows.laid_strconv_ErrRange)) gRan tRan (err_lay 17 ranT (by decide)) h3
    exact h4
  have h5 : Lay.layList Tryz.prog (16 + (errB synT).length) [("strconv.ErrRange", Rows.laid_strconv_ErrRange)] = some ([(4, errV 17)], errB ranT) := h2
  exact layList_cons (x := ("strconv.ErrSyntax", Rows.laid_strconv_ErrSyntax)) gSyn tSyn (err_lay 16 synT (by decide)) h5
noncomputable def lay9 : List (Nat × List Value) × List Obj := (layA.1 ++ layE.1, layA.2 ++ layE.2)
theorem lay_is : Lay.layList Tryz.prog (Array.mk H0).size laid9 = some lay9 := by
  have h : (Array.mk H0).size = 15 := by kernel_rfl
  rw [h, laid_cut]
  exact layList_append laidA laidE 15 layA layE layA_is (by rw [layA_len]; exact layE_is)
noncomputable def H1 : List Obj := Lay.setRows H0 lay9.1 ++ lay9.2
noncomputable def args0 : Array Value := #[.slice none 0 0, .string ⟨#[]⟩, .string ⟨#[]⟩]
noncomputable def start0 (os : Os) : World := (World.laidAll Tryz.prog os laid9).forCall (fun _ _ => 0) ⟨#[], args0, []⟩
/-- the start, with its memory -/
noncomputable def start1 (os : Os) : World := { heap := ⟨H1⟩, tape := fun _ _ => 0, drawn := 0, os := os, output := #[] }
theorem layVars_of {P : Program} {w : World} {l : List (String × DataW Unit)} {y : List (Nat × List Value) × List Obj} {h0 : List Obj} (hw : w.heap = ⟨h0⟩) (h : Lay.layList P (Array.mk h0).size l = some y) :
    w.layVars P l = { w with heap := ⟨Lay.setRows h0 y.1 ++ y.2⟩ } := by
  unfold World.layVars
  rw [hw, h]
theorem laidAll_eq (os : Os) : World.laidAll Tryz.prog os laid9 = { World.holding Tryz.prog os ⟨#[], #[], []⟩ with heap := ⟨H1⟩ } := by
  unfold World.laidAll H1
  exact layVars_of (holding_heap os) lay_is
theorem start_eq (os : Os) : start0 os = start1 os := by
  unfold start0 World.forCall Input.heap
  rw [laidAll_eq]
  simp only [List.foldl_nil, Array.append_empty]
  rfl
end Go.Proofs.YthhbpkpnhpdeoaaGreatDoor
namespace Go.Proofs.YthhbpkpnhpdeoaaGreatDoor
open Go Go.RowKit Go.ChangeShapes Go.WideShapes Go.ChangeAt Go.Ev KX
theorem start_zip (os : Os) : (start0 os).variablesZipB Tryz.prog = true := by
  rw [start_eq]
  unfold World.variablesZipB
  simp only [begin_heap]
  kernel_rfl
theorem start_tail (os : Os) : ((start0 os).heap.toList.drop Tryz.prog.globals.size).take ((begin Tryz.prog (fun _ _ => 0) default).world.heap.size - Tryz.prog.globals.size) =
      (begin Tryz.prog (fun _ _ => 0) default).world.heap.toList.drop Tryz.prog.globals.size := by
  rw [start_eq]
  simp only [begin_heap]
  kernel_rfl
theorem start_ok (os : Os) : Input.okWideB Tryz.prog (start0 os) 3 ⟨#[], args0, []⟩ = true := by rw [start_eq]; kernel_rfl
theorem start_pre (os : Os) (H : Type) (enc : TypeId × Value → H) : Rows.fireMaySpec.preB enc Tryz.prog Tryz.f3 [] false (start0 os).memory args0 8 = true := by rw [start_eq]; kernel_rfl
theorem start_sized (os : Os) (H : Type) (enc : TypeId × Value → H) : Rows.fireMaySpec.sizedB enc Tryz.prog Tryz.f3 false (start0 os).memory args0 8 = true := by rw [start_eq]; kernel_rfl
theorem fits_nodup : decide (lay9.1.map (·.1)).Nodup = true := by kernel_rfl
theorem fits_rows : (lay9.1.all fun r => Lay.isRow H0[r.1]? && !([] : List Nat).contains r.1) = true := by kernel_rfl
theorem layFits_of {P : Program} {w : World} {l : List (String × DataW Unit)} {y : List (Nat × List Value) × List Obj} {h0 : List Obj} (hw : w.heap = ⟨h0⟩) (h : Lay.layList P (Array.mk h0).size l = some y)
    (h1 : decide (y.1.map (·.1)).Nodup = true) (h2 : (y.1.all fun r => Lay.isRow h0[r.1]? && !([] : List Nat).contains r.1) = true) : w.layFits P l [] = true := by
  unfold World.layFits
  rw [hw, h]
  simp only [h1, h2, List.all_nil, Bool.and_self]
theorem layIfaces_of {P : Program} {w w' : World} {l : List (String × DataW Unit)} {y : List (Nat × List Value) × List Obj} {h0 : List Obj} (hw : w.heap = ⟨h0⟩) (h : Lay.layList P (Array.mk h0).size l = some y)
    (h1 : (y.1.all fun r => r.2.all (Lay.okV P w')) = true) (h2 : y.2.all (Lay.okO P w') = true) : w.layIfaces P l w' = true := by
  unfold World.layIfaces
  rw [hw, h]
  simp only [h1, h2, Bool.and_self]
theorem start_fits (os : Os) : (World.holding Tryz.prog os ⟨#[], #[], []⟩).layFits Tryz.prog laid9 [] = true := layFits_of (holding_heap os) lay_is fits_nodup fits_rows
/-- the laid memory, in a world of plain fields -/
noncomputable def laid1 (os : Os) : World := { World.holding Tryz.prog os ⟨#[], #[], []⟩ with heap := ⟨H1⟩ }
theorem ifaces_rows (os : Os) : (lay9.1.all fun r => r.2.all (Lay.okV Tryz.prog (laid1 os))) = true := by kernel_rfl
theorem ifaces_objs (os : Os) : (lay9.2.all (Lay.okO Tryz.prog (laid1 os))) = true := by kernel_rfl
theorem start_ifaces (os : Os) : (World.holding Tryz.prog os ⟨#[], #[], []⟩).layIfaces Tryz.prog laid9 (World.laidAll Tryz.prog os laid9) = true := by
  rw [laidAll_eq]
  exact layIfaces_of (holding_heap os) lay_is (ifaces_rows os) (ifaces_objs os)
theorem start_met (os : Os) : laidMetH Tryz.prog laid9 (start0 os).memory := by
  rw [MakeChecks.laidMetH_plain _ _ _ noHandle]
  exact laidMet_laidAll _ (start_fits os) (start_ifaces os)
end Go.Proofs.YthhbpkpnhpdeoaaGreatDoor

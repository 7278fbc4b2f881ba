/-
  The walks through FireMay and what it calls but awake, and how its arguments read. Condition: awake's contract, as a hypothesis.
-/
import Derived.Test.YthhbpkpnhpdeoaaGreatDoorProg
import Derived.WalkKit
import Derived.Test.YthhbpkpnhpdeoaaGreatDoorEvTop
import Derived.ChangeArms
import Derived.ChangeSlices
import Derived.ChangeOld
import Derived.WideShapes
namespace KX
open Go Go.Proofs Go.RowKit
theorem names2 (b : Nat) (x y : ByteArray) (w : World) (h0 : w.cell? ⟨b, 0, none⟩ = some (.string x)) (h1 : w.cell? ⟨b, 1, none⟩ = some (.string y)) :
    Calls Tryz.prog 4 #[.slice (some ⟨b, 0, none⟩) 2 2] w fun e w' => e = .returned (.bool (decide (x.size ≤ 200) && decide (y.size ≤ 200))) ∧ w' = w := by
  go_enter Tryz.func4, Tryz.ntmps4
  go_wp2
  refine wp_loop_rounds 3 ?_
  rw [rounds_succ]
  go_wp2
  · have h : (200 : Int) < (x.size : Int) := by assumption
    go_ret
    refine ⟨?_, rfl⟩
    rw [decide_eq_false (p := x.size ≤ 200) (by omega), Bool.false_and]
    rfl
  · have h : (x.size : Int) ≤ 200 := by assumption
    rw [rounds_succ]
    go_wp2
    · have h : (200 : Int) < (y.size : Int) := by assumption
      go_ret
      refine ⟨?_, rfl⟩
      rw [decide_eq_false (p := y.size ≤ 200) (by omega), Bool.and_false]
      rfl
    · have h2 : (y.size : Int) ≤ 200 := by assumption
      rw [rounds_succ]
      go_wp2
      go_ret
      refine ⟨?_, rfl⟩
      rw [decide_eq_true (p := y.size ≤ 200) (by omega), decide_eq_true (p := x.size ≤ 200) (by omega)]
      rfl
end KX
namespace KX
open Go Go.Proofs Go.RowKit
structure BV where
  o : ByteArray
  n : ByteArray
  op : Int
  ea : Bool
  one : Bool
def eqS (a b : ByteArray) : Bool := decide (a.toList = b.toList)
def hit (b : BV) (o n : ByteArray) : Bool := eqS b.o o && (eqS b.n n && (b.ea && !(decide (b.op = 1) && b.one)))
def mayB (l : List BV) (o n : ByteArray) : Bool := l.all fun b => !hit b o n
structure BCells (w : World) (b off : Nat) (x : BV) : Prop where
  c0 : w.cell? ⟨b, off, none⟩ = some (.string x.o)
  c1 : w.cell? ⟨b, off + 1, none⟩ = some (.string x.n)
  c2 : w.cell? ⟨b, off + 2, none⟩ = some (.int .i64 x.op)
  c3 : w.cell? ⟨b, off + 3, none⟩ = some (.bool x.ea)
  c4 : w.cell? ⟨b, off + 4, none⟩ = some (.bool x.one)
theorem mayB_hit {bs : List BV} {o n : ByteArray} {k : Nat} (h : k < bs.length) (hh : hit bs[k] o n = true) : mayB bs o n = false := by
  unfold mayB
  rw [List.all_eq_false]
  exact ⟨bs[k], List.getElem_mem h, by simp [hh]⟩
theorem mayB_step {bs : List BV} {o n : ByteArray} {k : Nat} (h : k < bs.length) (hh : hit bs[k] o n = false) (hm : mayB (bs.take k) o n = true) : mayB (bs.take (k + 1)) o n = true := by
  unfold mayB at *
  rw [List.take_succ_eq_append_getElem h, List.all_append, hm]
  simp [hh]
theorem refMay (b off len cap : Nat) (bs : List BV) (o n : ByteArray) (w : World) (hl : bs.length = len) (hbig : len ≤ 9223372036854775807) (hb : b < w.heap.size)
    (hc : ∀ i (h : i < bs.length), BCells w b (off + i * 5) bs[i]) :
    Calls Tryz.prog 7 #[.slice (some ⟨b, off, none⟩) len cap, .string o, .string n] w fun e w' => e = .returned (.bool (mayB bs o n)) ∧ Below w.heap.size w w' := by
  go_enter Tryz.func7, Tryz.ntmps7
  go_wp2
  go_loopw [11] (fun i wr => ∃ k : Nat, k ≤ len ∧ i = .int .i64 k ∧ mayB (bs.take k) o n = true ∧ Below w.heap.size w wr) (fun i _ => len - (intOf i).toNat)
  case atStart => exact ⟨0, Nat.zero_le _, rfl, rfl, Below.refl _ _⟩
  case round =>
    obtain ⟨k, hk, rfl, hm, hbl⟩ := hrel
    by_cases hlt : k < len
    · have h0 := hc k (by omega)
      obtain ⟨x, hx⟩ : ∃ x, x = bs[k] := ⟨_, rfl⟩
      rw [← hx] at h0
      have g0 : wr.cell? ⟨b, off + k * 5, none⟩ = some (.string x.o) := (hbl.cell hb).trans h0.c0
      have g1 : wr.cell? ⟨b, off + k * 5 + 1, none⟩ = some (.string x.n) := (hbl.cell hb).trans h0.c1
      have g2 : wr.cell? ⟨b, off + k * 5 + 2, none⟩ = some (.int .i64 x.op) := (hbl.cell hb).trans h0.c2
      have g3 : wr.cell? ⟨b, off + k * 5 + 3, none⟩ = some (.bool x.ea) := (hbl.cell hb).trans h0.c3
      have g4 : wr.cell? ⟨b, off + k * 5 + 4, none⟩ = some (.bool x.one) := (hbl.cell hb).trans h0.c4
      have hkl : k < bs.length := by omega
      have fin : hit x o n = true → mayB bs o n = false := fun h => mayB_hit hkl (hx ▸ h)
      have stp : hit x o n = false → mayB (bs.take (k + 1)) o n = true := fun h => mayB_step hkl (hx ▸ h) hm
      clear h0 hc hx hm
      go_wp2
      · have t1 : x.o.toList = o.toList := by assumption
        have t2 : x.n.toList = n.toList := by assumption
        have t3 : x.ea = true := by assumption
        have t4 : x.op = 1 := by assumption
        have t5 : (!x.one) = true := by assumption
        rw [fin (by simp only [hit, eqS, t1, t2, t3, t4, Bool.not_eq_true'] at t5 ⊢; simp [t5])]
        go_ret
        exact ⟨rfl, hbl.alloc hbl.size _⟩
      · have t1 : x.o.toList = o.toList := by assumption
        have t2 : x.n.toList = n.toList := by assumption
        have t3 : x.ea = true := by assumption
        have t4 : x.op = 1 := by assumption
        have t5 : (!x.one) = false := by assumption
        go_roundw
        case rel => exact ⟨k + 1, by omega, by simp, stp (by simp only [hit, eqS, t1, t2, t3, t4, Bool.not_eq_false'] at t5 ⊢; simp [t5]), hbl.alloc hbl.size _⟩
        case measure => simp [intOf]; omega
      · have t1 : x.o.toList = o.toList := by assumption
        have t2 : x.n.toList = n.toList := by assumption
        have t3 : x.ea = true := by assumption
        have t4 : ¬ x.op = 1 := by assumption
        rw [fin (by simp [hit, eqS, t1, t2, t3, t4])]
        go_ret
        exact ⟨rfl, hbl.alloc hbl.size _⟩
      · have t1 : x.o.toList = o.toList := by assumption
        have t2 : x.n.toList = n.toList := by assumption
        have t3 : ¬ x.ea = true := by assumption
        go_roundw
        case rel => exact ⟨k + 1, by omega, by simp, stp (by simp [hit, eqS, t1, t2, t3]), hbl.alloc hbl.size _⟩
        case measure => simp [intOf]; omega
      · have t1 : x.o.toList = o.toList := by assumption
        have t2 : ¬ x.n.toList = n.toList := by assumption
        go_roundw
        case rel => exact ⟨k + 1, by omega, by simp, stp (by simp [hit, eqS, t1, t2]), hbl.alloc hbl.size _⟩
        case measure => simp [intOf]; omega
      · have t1 : ¬ x.o.toList = o.toList := by assumption
        go_roundw
        case rel => exact ⟨k + 1, by omega, by simp, stp (by simp [hit, eqS, t1]), hbl.alloc hbl.size _⟩
        case measure => simp [intOf]; omega
    · have hke : k = len := by omega
      have hall : mayB bs o n = true := by rw [List.take_of_length_le (by omega)] at hm; exact hm
      subst hke
      clear hc hm
      go_wp2
      go_ret
      exact ⟨by rw [hall]; rfl, hbl⟩
end KX
namespace KX
open Go Go.Proofs Go.RowKit
theorem clo (p q : Nat) (x : BV) (o n : ByteArray) (w : World) (hp : w.cell? ⟨p, 0, none⟩ = some (.string o)) (hq : w.cell? ⟨q, 0, none⟩ = some (.string n)) (hpl : p < w.heap.size) (hql : q < w.heap.size) :
    Calls Tryz.prog 15 #[.agg #[.string x.o, .string x.n, .int .i64 x.op, .bool x.ea, .bool x.one], .pointer (some ⟨p, 0, none⟩), .pointer (some ⟨q, 0, none⟩)] w
      fun e w' => e = .returned (.bool (hit x o n)) ∧ Below w.heap.size w w' := by
  go_enter Tryz.func15, Tryz.ntmps15
  go_wp2
  · have t1 : x.o.toList = o.toList := by assumption
    have t2 : x.n.toList = n.toList := by assumption
    have t3 : x.ea = true := by assumption
    have t4 : x.one = true := by assumption
    go_ret
    exact ⟨by simp [hit, eqS, t1, t2, t3, t4]; rfl, (Below.refl _ _).alloc (Nat.le_refl _) _⟩
  · have t1 : x.o.toList = o.toList := by assumption
    have t2 : x.n.toList = n.toList := by assumption
    have t3 : x.ea = true := by assumption
    have t4 : ¬ x.one = true := by assumption
    go_ret
    exact ⟨by simp [hit, eqS, t1, t2, t3, t4], (Below.refl _ _).alloc (Nat.le_refl _) _⟩
  · have t1 : x.o.toList = o.toList := by assumption
    have t2 : x.n.toList = n.toList := by assumption
    have t3 : ¬ x.ea = true := by assumption
    go_ret
    exact ⟨by simp [hit, eqS, t1, t2, t3], (Below.refl _ _).alloc (Nat.le_refl _) _⟩
  · have t1 : x.o.toList = o.toList := by assumption
    have t2 : ¬ x.n.toList = n.toList := by assumption
    go_ret
    exact ⟨by simp [hit, eqS, t1, t2], (Below.refl _ _).alloc (Nat.le_refl _) _⟩
  · have t1 : ¬ x.o.toList = o.toList := by assumption
    go_ret
    exact ⟨by simp [hit, eqS, t1], (Below.refl _ _).alloc (Nat.le_refl _) _⟩

theorem indexF (b off len cap p q : Nat) (bs : List BV) (o n : ByteArray) (w : World) (hl : bs.length = len) (hbig : len ≤ 9223372036854775807) (hb : b < w.heap.size)
    (hp : w.cell? ⟨p, 0, none⟩ = some (.string o)) (hq : w.cell? ⟨q, 0, none⟩ = some (.string n)) (hpl : p < w.heap.size) (hql : q < w.heap.size)
    (hc : ∀ i (h : i < bs.length), BCells w b (off + i * 5) bs[i]) :
    Calls Tryz.prog 38 #[.slice (some ⟨b, off, none⟩) len cap, .func (.func 15) #[] #[.pointer (some ⟨p, 0, none⟩), .pointer (some ⟨q, 0, none⟩)]] w
      fun e w' => ∃ r : Int, e = .returned (.int .i64 r) ∧ (if mayB bs o n then r = -1 else 0 ≤ r) ∧ Below w.heap.size w w' := by
  go_enter Tryz.func38, Tryz.ntmps38
  go_wp2
  go_loopw [8] (fun i wr => ∃ k : Nat, k ≤ len ∧ i = .int .i64 k ∧ mayB (bs.take k) o n = true ∧ Below w.heap.size w wr) (fun i _ => len - (intOf i).toNat)
  case atStart => exact ⟨0, Nat.zero_le _, rfl, rfl, Below.refl _ _⟩
  case round =>
    obtain ⟨k, hk, rfl, hm, hbl⟩ := hrel
    by_cases hlt : k < len
    · have h0 := hc k (by omega)
      obtain ⟨x, hx⟩ : ∃ x, x = bs[k] := ⟨_, rfl⟩
      rw [← hx] at h0
      have g0 : wr.cell? ⟨b, off + k * 5, none⟩ = some (.string x.o) := (hbl.cell hb).trans h0.c0
      have g1 : wr.cell? ⟨b, off + k * 5 + 1, none⟩ = some (.string x.n) := (hbl.cell hb).trans h0.c1
      have g2 : wr.cell? ⟨b, off + k * 5 + 2, none⟩ = some (.int .i64 x.op) := (hbl.cell hb).trans h0.c2
      have g3 : wr.cell? ⟨b, off + k * 5 + 3, none⟩ = some (.bool x.ea) := (hbl.cell hb).trans h0.c3
      have g4 : wr.cell? ⟨b, off + k * 5 + 4, none⟩ = some (.bool x.one) := (hbl.cell hb).trans h0.c4
      have hkl : k < bs.length := by omega
      have fin : hit x o n = true → mayB bs o n = false := fun h => mayB_hit hkl (hx ▸ h)
      have stp : hit x o n = false → mayB (bs.take (k + 1)) o n = true := fun h => mayB_step hkl (hx ▸ h) hm
      have hp' : wr.cell? ⟨p, 0, none⟩ = some (.string o) := (hbl.cell hpl).trans hp
      have hq' : wr.cell? ⟨q, 0, none⟩ = some (.string n) := (hbl.cell hql).trans hq
      have hsz := hbl.size
      clear h0 hc hx hm
      go_wp2_with (go_at_call 15; refine (clo p q x o n wr hp' hq' (by omega) (by omega)).mono ?_; rintro e w2 ⟨rfl, hb2⟩)
      · have t1 : hit x o n = true := by assumption
        go_ret
        exact ⟨k, rfl, by simp, hbl.trans (hb2.mono hsz)⟩
      · have t1 : hit x o n = true := by assumption
        go_ret
        exact ⟨k, rfl, by simp, hbl.trans (hb2.mono hsz)⟩
      · have t1 : hit x o n = false := by assumption
        go_roundw
        case rel => exact ⟨k + 1, by omega, by simp, stp t1, hbl.trans (hb2.mono hsz)⟩
        case measure => simp [intOf]; omega
    · have hke : k = len := by omega
      have hall : mayB bs o n = true := by rw [List.take_of_length_le (by omega)] at hm; exact hm
      subst hke
      clear hc hm
      go_wp2
      go_ret
      exact ⟨-1, rfl, by simp, hbl⟩
theorem containsF (b off len cap p q : Nat) (bs : List BV) (o n : ByteArray) (w : World) (hl : bs.length = len) (hbig : len ≤ 9223372036854775807) (hb : b < w.heap.size)
    (hp : w.cell? ⟨p, 0, none⟩ = some (.string o)) (hq : w.cell? ⟨q, 0, none⟩ = some (.string n)) (hpl : p < w.heap.size) (hql : q < w.heap.size)
    (hc : ∀ i (h : i < bs.length), BCells w b (off + i * 5) bs[i]) :
    Calls Tryz.prog 14 #[.slice (some ⟨b, off, none⟩) len cap, .func (.func 15) #[] #[.pointer (some ⟨p, 0, none⟩), .pointer (some ⟨q, 0, none⟩)]] w
      fun e w' => e = .returned (.bool (!mayB bs o n)) ∧ Below w.heap.size w w' := by
  go_enter Tryz.func14, Tryz.ntmps14
  go_wp2_with (go_at_call 38; refine (indexF b off len cap p q bs o n w hl hbig hb hp hq hpl hql hc).mono ?_; rintro e w2 ⟨r, rfl, hr, hb2⟩)
  go_ret
  refine ⟨?_, hb2⟩
  cases h : mayB bs o n <;> simp [h] at hr ⊢ <;> omega

theorem fireMay (b off len cap : Nat) (bs : List BV) (o n : ByteArray) (w : World) (hl : bs.length = len) (hbig : len ≤ 9223372036854775807) (hb : b < w.heap.size)
    (hc : ∀ i (h : i < bs.length), BCells w b (off + i * 5) bs[i]) :
    Calls Tryz.prog 6 #[.slice (some ⟨b, off, none⟩) len cap, .string o, .string n] w
      fun e w' => e = .returned (.bool (mayB bs o n)) ∧ Below w.heap.size w w' := by
  have hbl : Below w.heap.size w ((w.alloc (.cells #[.string o] 9)).alloc (.cells #[.string n] 9)) := ((Below.refl _ _).alloc (Nat.le_refl _) _).alloc (by show w.heap.size ≤ (w.heap.push _).size; simp) _
  have hp : ((w.alloc (.cells #[.string o] 9)).alloc (.cells #[.string n] 9)).cell? ⟨w.heap.size, 0, none⟩ = some (.string o) := by
    show (match ((w.heap.push _).push _)[w.heap.size]? with | some (.cells c _ _) => c[0]? | _ => none) = _
    rw [Array.getElem?_push_lt (by simp)]
    simp
  have hq : ((w.alloc (.cells #[.string o] 9)).alloc (.cells #[.string n] 9)).cell? ⟨w.heap.size + 1, 0, none⟩ = some (.string n) := by
    show (match ((w.heap.push _).push _)[w.heap.size + 1]? with | some (.cells c _ _) => c[0]? | _ => none) = _
    have : (w.heap.push (.cells #[.string o] 9)).size = w.heap.size + 1 := by simp
    rw [← this, Array.getElem?_push_size]
    simp
  have hsz : ((w.alloc (.cells #[.string o] 9)).alloc (.cells #[.string n] 9)).heap.size = w.heap.size + 2 := by
    show ((w.heap.push _).push _).size = _
    simp
  generalize hw2 : (w.alloc (.cells #[.string o] 9)).alloc (.cells #[.string n] 9) = w2 at hbl hp hq hsz
  have hc2 : ∀ i (h : i < bs.length), BCells w2 b (off + i * 5) bs[i] := fun i h => by
    have := hc i h
    exact ⟨(hbl.cell hb).trans this.c0, (hbl.cell hb).trans this.c1, (hbl.cell hb).trans this.c2, (hbl.cell hb).trans this.c3, (hbl.cell hb).trans this.c4⟩
  have hcall := containsF b off len cap w.heap.size (w.heap.size + 1) bs o n w2 hl hbig (by omega) hp hq (by omega) (by omega) hc2
  clear hp hq hc hc2
  go_enter Tryz.func6, Tryz.ntmps6
  go_wp2_with (go_at_call 14; refine hcall.mono ?_; rintro e w3 ⟨rfl, hb3⟩)
  go_ret
  exact ⟨by simp, hbl.trans (hb3.mono (by omega))⟩
end KX
namespace KX
open Go Go.Proofs Go.RowKit Go.Ev
def thereB (l : List BV) (o n : ByteArray) : Bool := l.any fun x => eqS x.o o && eqS x.n n
/-- the first package variable: value.Null -/
noncomputable def nullC : List Value := [.int .i64 0, .int .i64 0, .string (ofL [])]
abbrev Awake : Prop := ∀ w, Laid0 nullC w → Calls Tryz.prog 5 #[] w fun e w' => e = .returned (.bool true) ∧ Below w.heap.size w w'
/-- a round's first two blocks: the loop's variable, the two names -/
abbrev W2 (wr : World) (x : BV) : World := (wr.alloc (.cells #[.string x.o, .string x.n, .int .i64 x.op, .bool x.ea, .bool x.one] 27)).alloc (.cells #[.string x.o, .string x.n] 9)
theorem W2_names (wr : World) (x : BV) : (W2 wr x).cell? ⟨wr.heap.size + 1, 0, none⟩ = some (.string x.o) ∧ (W2 wr x).cell? ⟨wr.heap.size + 1, 1, none⟩ = some (.string x.n) := by
  have key : ∀ j, (W2 wr x).cell? ⟨wr.heap.size + 1, j, none⟩ = #[Value.string x.o, .string x.n][j]? := by
    intro j
    show (match ((wr.heap.push _).push _)[wr.heap.size + 1]? with | some (.cells c _ _) => c[j]? | _ => none) = _
    have : (wr.heap.push (.cells #[.string x.o, .string x.n, .int .i64 x.op, .bool x.ea, .bool x.one] 27)).size = wr.heap.size + 1 := by simp
    rw [← this, Array.getElem?_push_size]
  exact ⟨by rw [key]; rfl, by rw [key]; rfl⟩
theorem beqL (a b : List UInt8) : (a == b) = decide (a = b) := by rw [Bool.eq_iff_iff]; simp
theorem there_step {bs : List BV} {o n : ByteArray} {k : Nat} (h : k < bs.length) : thereB (bs.take (k + 1)) o n = (thereB (bs.take k) o n || (eqS bs[k].o o && eqS bs[k].n n)) := by
  unfold thereB
  rw [List.take_succ_eq_append_getElem h, List.any_append]
  simp
theorem may_less {bs : List BV} {o n : ByteArray} {k : Nat} (h : k < bs.length) (hm : mayB (bs.take (k + 1)) o n = true) : mayB (bs.take k) o n = true := by
  unfold mayB at *
  rw [List.take_succ_eq_append_getElem h, List.all_append, Bool.and_eq_true] at hm
  exact hm.1
/-- too many changes, or a name that is too long: awake() alone -/
theorem law_out (A : Awake) (ao : Option Addr) (len cap : Nat) (o n : ByteArray) (w : World) (hw : Laid0 nullC w) (hout : 300 < len ∨ ¬ o.size ≤ 200 ∨ ¬ n.size ≤ 200) :
    Calls Tryz.prog 3 #[.slice ao len cap, .string o, .string n] w
      fun e w' => e = .returned (.bool true) ∧ Below w.heap.size w w' := by
  have hpos := hw.pos
  have hb1 : Below w.heap.size w (w.alloc (.cells #[.string o, .string n] 9)) := (Below.refl _ _).alloc (Nat.le_refl _) _
  have hl1 : Laid0 nullC (w.alloc (.cells #[.string o, .string n] 9)) := hw.below hpos hb1
  have hs1 : w.heap.size ≤ (w.alloc (.cells #[.string o, .string n] 9)).heap.size := hb1.size
  by_cases h300 : 300 < len
  · clear hout
    go_enter Tryz.func3, Tryz.ntmps3
    go_wp2_with (go_at_call 5; refine (A _ hw).mono ?_; rintro e w3 ⟨rfl, hb3⟩)
    go_ret
    exact ⟨rfl, hb3⟩
  · have h300 : len ≤ 300 := by omega
    have hN : (decide (o.size ≤ 200) && decide (n.size ≤ 200)) = false := by
      rcases hout with h | h | h
      · omega
      · simp [h]
      · simp [h]
    have hcall := names2 w.heap.size o n (w.alloc (.cells #[.string o, .string n] 9)) (by simp) (by simp)
    rw [hN] at hcall
    clear hout hN
    go_enter Tryz.func3, Tryz.ntmps3
    go_wp2_with (first
      | (go_at_call 4; refine hcall.mono ?_; rintro e w3 ⟨rfl, rfl⟩)
      | (go_at_call 5; refine (A _ hl1).mono ?_; rintro e w3 ⟨rfl, hb3⟩))
    go_ret
    exact ⟨rfl, hb1.trans (hb3.mono hs1)⟩
theorem may_or_there (bs : List BV) (o n : ByteArray) : thereB bs o n = false → mayB bs o n = true := by
  intro h
  unfold mayB
  rw [List.all_eq_true]
  intro x hx
  unfold thereB at h
  rw [List.any_eq_false] at h
  have := h x hx
  simp only [hit]
  cases h1 : eqS x.o o <;> cases h2 : eqS x.n n <;> simp_all
set_option maxHeartbeats 1000000 in
theorem law_in (A : Awake) (b off len cap : Nat) (bs : List BV) (o n : ByteArray) (w : World) (hl : bs.length = len) (h300 : len ≤ 300) (ho : o.size ≤ 200) (hn : n.size ≤ 200) (hcap : len ≤ cap) (hb : b < w.heap.size) (hw : Laid0 nullC w)
    (hc : ∀ i (h : i < bs.length), BCells w b (off + i * 5) bs[i]) :
    Calls Tryz.prog 3 #[.slice (some ⟨b, off, none⟩) len cap, .string o, .string n] w
      fun e w' => e = .returned (.bool true) ∧ Below w.heap.size w w' := by
  have hpos := hw.pos
  have hb1 : Below w.heap.size w (w.alloc (.cells #[.string o, .string n] 9)) := (Below.refl _ _).alloc (Nat.le_refl _) _
  have hcall := names2 w.heap.size o n (w.alloc (.cells #[.string o, .string n] 9)) (by simp) (by simp)
  rw [decide_eq_true ho, decide_eq_true hn] at hcall
  go_enter Tryz.func3, Tryz.ntmps3
  go_wp2_with (go_at_call 4; refine hcall.mono ?_; rintro e w3 ⟨rfl, rfl⟩)
  · clear hcall
    go_loopw [7, 24] (fun th i wr => ∃ k : Nat, k ≤ len ∧ i = .int .i64 k ∧ th = .bool (thereB (bs.take k) o n) ∧ Below w.heap.size w wr) (fun _ i _ => len - (intOf i).toNat)
    case atStart => exact ⟨0, Nat.zero_le _, rfl, rfl, hb1⟩
    case round =>
      obtain ⟨k, hk, rfl, rfl, hbl⟩ := hrel
      clear hb1
      by_cases hlt : k < len
      · have h0 := hc k (by omega)
        obtain ⟨x, hx⟩ : ∃ x, x = bs[k] := ⟨_, rfl⟩
        rw [← hx] at h0
        have g0 : wr.cell? ⟨b, off + k * 5, none⟩ = some (.string x.o) := (hbl.cell hb).trans h0.c0
        have g1 : wr.cell? ⟨b, off + k * 5 + 1, none⟩ = some (.string x.n) := (hbl.cell hb).trans h0.c1
        have g2 : wr.cell? ⟨b, off + k * 5 + 2, none⟩ = some (.int .i64 x.op) := (hbl.cell hb).trans h0.c2
        have g3 : wr.cell? ⟨b, off + k * 5 + 3, none⟩ = some (.bool x.ea) := (hbl.cell hb).trans h0.c3
        have g4 : wr.cell? ⟨b, off + k * 5 + 4, none⟩ = some (.bool x.one) := (hbl.cell hb).trans h0.c4
        clear h0
        have hb2 : Below w.heap.size w (W2 wr x) :=
          (hbl.alloc hbl.size _).alloc (by have := hbl.size; show w.heap.size ≤ (wr.heap.push _).size; simp; omega) _
        have hl2 : Laid0 nullC (W2 wr x) := hw.below hpos hb2
        have hm1 := fireMay b off (k + 1) (k + 1) (bs.take (k + 1)) o n (W2 wr x) (by simp; omega) (by omega) (by have := hb2.size; omega) (fun i h => by
          have h' : i < bs.length := by simp at h; omega
          have h2 := hc i h'
          have e : (bs.take (k + 1))[i] = bs[i] := by simp
          rw [e]
          exact (⟨(hb2.cell hb).trans h2.c0, (hb2.cell hb).trans h2.c1, (hb2.cell hb).trans h2.c2, (hb2.cell hb).trans h2.c3, (hb2.cell hb).trans h2.c4⟩ : BCells _ b (off + i * 5) bs[i]))
        have hm2 : ∀ w3, Below (W2 wr x).heap.size (W2 wr x) w3 →
            Calls Tryz.prog 6 #[.slice (some ⟨b, off, none⟩) k k, .string o, .string n] w3 fun e w' => e = .returned (.bool (mayB (bs.take k) o n)) ∧ Below w3.heap.size w3 w' := fun w3 h3 => by
          have hb3 := hb2.trans (h3.mono hb2.size)
          exact fireMay b off k k (bs.take k) o n w3 (by simp; omega) (by omega) (by have := hb3.size; omega) (fun i h => by
            have h' : i < bs.length := by simp at h; omega
            have h2 := hc i h'
            have e : (bs.take k)[i] = bs[i] := by simp
            rw [e]
            exact (⟨(hb3.cell hb).trans h2.c0, (hb3.cell hb).trans h2.c1, (hb3.cell hb).trans h2.c2, (hb3.cell hb).trans h2.c3, (hb3.cell hb).trans h2.c4⟩ : BCells _ b (off + i * 5) bs[i]))
        have HX : Hid (x = bs[k]) := hx
        clear hc hx
        go_wp2_with (first
          | (go_at_call 4; refine (names2 (wr.heap.size + 1) x.o x.n (W2 wr x) (W2_names wr x).1 (W2_names wr x).2).mono ?_; rintro e w3 ⟨rfl, rfl⟩)
          | (go_at_call 5; refine (A _ hl2).mono ?_; rintro e w3 ⟨rfl, hb3⟩)
          | (go_at_call 6; with_reducible refine Calls.mono (hm2 _ (by assumption)) ?_; rintro e w4 ⟨rfl, hb4⟩)
          | (go_at_call 6; with_reducible refine Calls.mono hm1 ?_; rintro e w3 ⟨rfl, hb3⟩))
        · go_ret
          exact ⟨rfl, hb2.trans (hb3.mono hb2.size)⟩
        · have t1 : mayB (bs.take (k + 1)) o n = true := by assumption
          have t2 : (!mayB (bs.take k) o n) = true := by assumption
          rw [may_less (by omega) t1] at t2
          cases t2
        · have t0 : thereB (bs.take k) o n = true := by assumption
          go_roundw
          case rel => exact ⟨k + 1, by omega, by simp, by rw [there_step (by omega), t0]; rfl, (hb2.trans (hb3.mono hb2.size)).trans (hb4.mono (hb2.trans (hb3.mono hb2.size)).size)⟩
          case measure => simp [intOf]; omega
        · have t0 : thereB (bs.take k) o n = true := by assumption
          go_roundw
          case rel => exact ⟨k + 1, by omega, by simp, by rw [there_step (by omega), t0]; rfl, hb2.trans (hb3.mono hb2.size)⟩
          case measure => simp [intOf]; omega
        · have t1 : mayB (bs.take (k + 1)) o n = true := by assumption
          have t2 : (!mayB (bs.take k) o n) = true := by assumption
          rw [may_less (by omega) t1] at t2
          cases t2
        · have t0 : ¬ thereB (bs.take k) o n = true := by assumption
          have t1 : x.o.toList = o.toList := by assumption
          have HX : x = bs[k] := HX
          go_roundw
          case rel => exact ⟨k + 1, by omega, by simp, by rw [there_step (by omega), ← HX, Bool.eq_false_iff.2 t0]; simp [eqS, t1]; exact beqL _ _, (hb2.trans (hb3.mono hb2.size)).trans (hb4.mono (hb2.trans (hb3.mono hb2.size)).size)⟩
          case measure => simp [intOf]; omega
        · have t0 : ¬ thereB (bs.take k) o n = true := by assumption
          have t1 : x.o.toList = o.toList := by assumption
          have HX : x = bs[k] := HX
          go_roundw
          case rel => exact ⟨k + 1, by omega, by simp, by rw [there_step (by omega), ← HX, Bool.eq_false_iff.2 t0]; simp [eqS, t1]; exact beqL _ _, hb2.trans (hb3.mono hb2.size)⟩
          case measure => simp [intOf]; omega
        · have t1 : mayB (bs.take (k + 1)) o n = true := by assumption
          have t2 : (!mayB (bs.take k) o n) = true := by assumption
          rw [may_less (by omega) t1] at t2
          cases t2
        · have t0 : ¬ thereB (bs.take k) o n = true := by assumption
          have t1 : ¬ x.o.toList = o.toList := by assumption
          have HX : x = bs[k] := HX
          go_roundw
          case rel => exact ⟨k + 1, by omega, by simp, by rw [there_step (by omega), ← HX, Bool.eq_false_iff.2 t0]; simp [eqS, t1], (hb2.trans (hb3.mono hb2.size)).trans (hb4.mono (hb2.trans (hb3.mono hb2.size)).size)⟩
          case measure => simp [intOf]; omega
        · have t0 : ¬ thereB (bs.take k) o n = true := by assumption
          have t1 : ¬ x.o.toList = o.toList := by assumption
          have HX : x = bs[k] := HX
          go_roundw
          case rel => exact ⟨k + 1, by omega, by simp, by rw [there_step (by omega), ← HX, Bool.eq_false_iff.2 t0]; simp [eqS, t1], hb2.trans (hb3.mono hb2.size)⟩
          case measure => simp [intOf]; omega
      · have hke : k = len := by omega
        have hth : thereB (bs.take k) o n = thereB bs o n := by rw [List.take_of_length_le (by omega)]
        subst hke
        have hc2 : ∀ w2, Below w.heap.size w w2 → ∀ i (h : i < bs.length), BCells w2 b (off + i * 5) bs[i] := fun w2 h2 i h => by
          have h3 := hc i h
          exact ⟨(h2.cell hb).trans h3.c0, (h2.cell hb).trans h3.c1, (h2.cell hb).trans h3.c2, (h2.cell hb).trans h3.c3, (h2.cell hb).trans h3.c4⟩
        have hsz := hbl.size
        have hm1 := fireMay b off k cap bs o n wr hl (by omega) (by omega) (hc2 wr hbl)
        have hm2 : ∀ w3, Below wr.heap.size wr w3 → Calls Tryz.prog 7 #[.slice (some ⟨b, off, none⟩) k cap, .string o, .string n] w3 fun e w' => e = .returned (.bool (mayB bs o n)) ∧ Below w3.heap.size w3 w' := fun w3 h3 =>
          refMay b off k cap bs o n w3 hl (by omega) (by have := h3.size; omega) (hc2 w3 (hbl.trans (h3.mono hsz)))
        have hm3 : ∀ w3 w4, Below wr.heap.size wr w3 → Below w3.heap.size w3 w4 → Below w.heap.size w w4 := fun w3 w4 h3 h4 => (hbl.trans (h3.mono hsz)).trans (h4.mono (by have := h3.size; omega))
        have hl4 : ∀ w3 w4, Below wr.heap.size wr w3 → Below w3.heap.size w3 w4 → Laid0 nullC w4 := fun w3 w4 h3 h4 => hw.below hpos (hm3 w3 w4 h3 h4)
        have hor := may_or_there bs o n
        rw [hth]
        clear hth hc hc2
        go_wp2_with (first
          | (go_at_call 6; with_reducible refine Calls.mono hm1 ?_; rintro e w3 ⟨rfl, hb3⟩)
          | (go_at_call 7; with_reducible refine Calls.mono (hm2 _ hb3) ?_; rintro e w4 ⟨rfl, hb4⟩)
          | (go_at_call 5; with_reducible refine Calls.mono (A _ (hl4 _ _ hb3 hb4)) ?_; rintro e w5 ⟨rfl, hb5⟩))
        · go_ret
          exact ⟨rfl, (hm3 _ _ hb3 hb4).trans (hb5.mono (hm3 _ _ hb3 hb4).size)⟩
        · have t0 : ¬ thereB bs o n = true := by assumption
          have t1 := hor (Bool.eq_false_iff.2 t0)
          clear hor
          go_ret
          exact ⟨by simp, (hm3 _ _ hb3 hb4).trans (hb5.mono (hm3 _ _ hb3 hb4).size)⟩
end KX
namespace KX
open Go Go.Proofs Go.RowKit Go.Ev
theorem refMay0 (ao : Option Addr) (cap : Nat) (o n : ByteArray) (w : World) :
    Calls Tryz.prog 7 #[.slice ao 0 cap, .string o, .string n] w fun e w' => e = .returned (.bool true) ∧ w' = w := by
  go_enter Tryz.func7, Tryz.ntmps7
  go_wp2
  refine wp_loop_rounds 1 ?_
  rw [rounds_succ]
  go_wp2
  go_ret
  exact ⟨rfl, rfl⟩
theorem indexF0 (ao : Option Addr) (cap : Nat) (f : Value) (w : World) :
    Calls Tryz.prog 38 #[.slice ao 0 cap, f] w fun e w' => e = .returned (.int .i64 (-1)) ∧ w' = w := by
  go_enter Tryz.func38, Tryz.ntmps38
  go_wp2
  refine wp_loop_rounds 1 ?_
  rw [rounds_succ]
  go_wp2
  go_ret
  exact ⟨rfl, rfl⟩
theorem containsF0 (ao : Option Addr) (cap : Nat) (f : Value) (w : World) :
    Calls Tryz.prog 14 #[.slice ao 0 cap, f] w fun e w' => e = .returned (.bool false) ∧ w' = w := by
  go_enter Tryz.func14, Tryz.ntmps14
  go_wp2_with (go_at_call 38; refine (indexF0 ao cap f w).mono ?_; rintro e w2 ⟨rfl, rfl⟩)
  go_ret
  exact ⟨rfl, rfl⟩
theorem fireMay0 (ao : Option Addr) (cap : Nat) (o n : ByteArray) (w : World) :
    Calls Tryz.prog 6 #[.slice ao 0 cap, .string o, .string n] w fun e w' => e = .returned (.bool true) ∧ Below w.heap.size w w' := by
  have hbl : Below w.heap.size w ((w.alloc (.cells #[.string o] 9)).alloc (.cells #[.string n] 9)) := ((Below.refl _ _).alloc (Nat.le_refl _) _).alloc (by show w.heap.size ≤ (w.heap.push _).size; simp) _
  go_enter Tryz.func6, Tryz.ntmps6
  go_wp2_with (go_at_call 14; refine (containsF0 ao cap _ _).mono ?_; rintro e w3 ⟨rfl, rfl⟩)
  go_ret
  exact ⟨rfl, hbl⟩
theorem law_zero (A : Awake) (ao : Option Addr) (cap : Nat) (o n : ByteArray) (w : World) (ho : o.size ≤ 200) (hn : n.size ≤ 200) (hw : Laid0 nullC w) :
    Calls Tryz.prog 3 #[.slice ao 0 cap, .string o, .string n] w fun e w' => e = .returned (.bool true) ∧ Below w.heap.size w w' := by
  have hpos := hw.pos
  have hb1 : Below w.heap.size w (w.alloc (.cells #[.string o, .string n] 9)) := (Below.refl _ _).alloc (Nat.le_refl _) _
  have hcall := names2 w.heap.size o n (w.alloc (.cells #[.string o, .string n] 9)) (by simp) (by simp)
  rw [decide_eq_true ho, decide_eq_true hn] at hcall
  go_enter Tryz.func3, Tryz.ntmps3
  go_wp2_with (go_at_call 4; refine hcall.mono ?_; rintro e w3 ⟨rfl, rfl⟩)
  clear hcall
  refine wp_loop_rounds 1 ?_
  rw [rounds_succ]
  have hsz := hb1.size
  generalize w.alloc (.cells #[.string o, .string n] 9) = w1 at hb1 hsz
  have hm3 : ∀ w3, Below w1.heap.size w1 w3 → Below w.heap.size w w3 := fun w3 h3 => hb1.trans (h3.mono hsz)
  have hl4 : ∀ w3, Below w1.heap.size w1 w3 → Laid0 nullC w3 := fun w3 h3 => hw.below hpos (hm3 w3 h3)
  go_wp2_with (first
    | (go_at_call 6; with_reducible refine Calls.mono (fireMay0 ao cap o n w1) ?_; rintro e w3 ⟨rfl, hb3⟩)
    | (go_at_call 7; with_reducible refine Calls.mono (refMay0 ao cap o n _) ?_; rintro e w4 ⟨rfl, rfl⟩)
    | (go_at_call 5; with_reducible refine Calls.mono (A _ (hl4 _ hb3)) ?_; rintro e w5 ⟨rfl, hb5⟩))
  go_ret
  exact ⟨rfl, (hm3 _ hb3).trans (hb5.mono (hm3 _ hb3).size)⟩
/-- FireMay, whatever the slice of changes -/
theorem law_any (A : Awake) (a : Addr) (len cap : Nat) (bs : List BV) (o n : ByteArray) (w : World) (hl : bs.length = len) (hcap : len ≤ cap) (hw : Laid0 nullC w)
    (hc : ∀ i (h : i < bs.length), a.block < w.heap.size ∧ ∃ b off, a = ⟨b, off, none⟩ ∧ BCells w b (off + i * 5) bs[i]) :
    Calls Tryz.prog 3 #[.slice (some a) len cap, .string o, .string n] w fun e w' => e = .returned (.bool true) ∧ Below w.heap.size w w' := by
  by_cases hout : 300 < len ∨ ¬ o.size ≤ 200 ∨ ¬ n.size ≤ 200
  · exact law_out A _ len cap o n w hw hout
  · have h1 : len ≤ 300 := by omega
    have h2 : o.size ≤ 200 := by omega
    have h3 : n.size ≤ 200 := by omega
    by_cases h0 : len = 0
    · subst h0; exact law_zero A _ cap o n w h2 h3 hw
    · obtain ⟨hb, b, off, e, _⟩ := hc 0 (by omega)
      subst e
      exact law_in A b off len cap bs o n w hl h1 h2 h3 hcap hb hw fun i h => by
        obtain ⟨_, b', off', e, h4⟩ := hc i h
        cases e
        exact h4
end KX
namespace KX
open Go Go.Proofs Go.RowKit Go.Ev
section
variable {H : Type} {enc : TypeId × Value → H} {w : World} {base : Nat} {spare : Nat → Bool} {held : Bool} {fuel : Nat}
theorem cells5 : Tryz.prog.cellsOf 27 = 5 := by kernel_rfl
theorem cells9 : Tryz.prog.cellsOf 9 = 1 := by kernel_rfl
theorem cells25 : Tryz.prog.cellsOf 25 = 1 := by kernel_rfl
theorem cells4 : Tryz.prog.cellsOf 4 = 1 := by kernel_rfl
theorem one_of {l : List Value} {i : Nat} {v : Value} (h : (l.drop i).take 1 = [v]) : l[i]? = some v := by
  have := congrArg (fun m : List Value => m[0]?) h
  simpa [List.getElem?_take, List.getElem?_drop] using this
noncomputable def busyF : Array Field := #[{ name := "Owner", type := 9, offset := 0, embedded := false, tag := "", pkgPath := "", byteOffset := 0 },
  { name := "Name", type := 9, offset := 1, embedded := false, tag := "", pkgPath := "", byteOffset := 16 },
  { name := "Op", type := 25, offset := 2, embedded := false, tag := "", pkgPath := "", byteOffset := 32 },
  { name := "Each", type := 4, offset := 3, embedded := false, tag := "", pkgPath := "", byteOffset := 40 },
  { name := "One", type := 4, offset := 4, embedded := false, tag := "", pkgPath := "", byteOffset := 41 }]
theorem open_busy {a : Addr} {y : DataW H × List MemPlace} {cs : List Value} (hcs : w.cells? base a 5 = some cs) (hy : DataW.trod enc Tryz.prog w base spare held fuel 27 cs = some y) :
    ∃ x : BV, a.block < w.heap.size ∧ a.spot = none ∧ BCells w a.block a.off x := by
  obtain ⟨xs, n, _, _, hlen, hxl, hf⟩ := DataW.trod_struct (fs := busyF) Tryz.underlying27 hy
  have hx : ∀ (i : Nat) (f : Field), busyF[i]? = some f → ∃ z, DataW.trod enc Tryz.prog w base spare held n f.type ((cs.drop f.offset).take (Tryz.prog.cellsOf f.type)) = some z := by
    intro i f h
    have h2 := hf i f h
    have : i < xs.length := by
      rw [hxl]
      exact (Array.getElem?_eq_some_iff.1 h).1
    rw [List.getElem?_eq_getElem this] at h2
    exact ⟨_, h2⟩
  obtain ⟨z0, h0⟩ := hx 0 _ rfl
  obtain ⟨z1, h1⟩ := hx 1 _ rfl
  obtain ⟨z2, h2⟩ := hx 2 _ rfl
  obtain ⟨z3, h3⟩ := hx 3 _ rfl
  obtain ⟨z4, h4⟩ := hx 4 _ rfl
  have h0 : DataW.trod enc Tryz.prog w base spare held n 9 ((cs.drop 0).take 1) = some z0 :=
    (congrArg (fun k => DataW.trod enc Tryz.prog w base spare held n 9 ((cs.drop 0).take k)) cells9.symm).trans h0
  have h1 : DataW.trod enc Tryz.prog w base spare held n 9 ((cs.drop 1).take 1) = some z1 :=
    (congrArg (fun k => DataW.trod enc Tryz.prog w base spare held n 9 ((cs.drop 1).take k)) cells9.symm).trans h1
  have h2 : DataW.trod enc Tryz.prog w base spare held n 25 ((cs.drop 2).take 1) = some z2 :=
    (congrArg (fun k => DataW.trod enc Tryz.prog w base spare held n 25 ((cs.drop 2).take k)) cells25.symm).trans h2
  have h3 : DataW.trod enc Tryz.prog w base spare held n 4 ((cs.drop 3).take 1) = some z3 :=
    (congrArg (fun k => DataW.trod enc Tryz.prog w base spare held n 4 ((cs.drop 3).take k)) cells4.symm).trans h3
  have h4 : DataW.trod enc Tryz.prog w base spare held n 4 ((cs.drop 4).take 1) = some z4 :=
    (congrArg (fun k => DataW.trod enc Tryz.prog w base spare held n 4 ((cs.drop 4).take k)) cells4.symm).trans h4
  obtain ⟨s0, e0, _⟩ := DataW.trod_string Tryz.underlying9 h0
  obtain ⟨s1, e1, _⟩ := DataW.trod_string Tryz.underlying9 h1
  obtain ⟨s2, e2, _⟩ := DataW.trod_int Tryz.underlying25 h2
  obtain ⟨s3, e3, _⟩ := DataW.trod_bool Tryz.underlying4 h3
  obtain ⟨s4, e4, _⟩ := DataW.trod_bool Tryz.underlying4 h4
  have hblk := World.cells?_block hcs (by decide)
  obtain ⟨_, hl5, hget⟩ := World.cells?_some hcs
  have hsp : a.spot = none := by
    have h := hget 0 (by decide)
    have g : cs[0]? = some (cs[0]'(by omega)) := List.getElem?_eq_getElem (by omega)
    rw [g] at h
    simpa [Addr.add] using World.cell?_spot h
  have hc : ∀ i v, i < 5 → (cs.drop i).take 1 = [v] → w.cell? ⟨a.block, a.off + i, none⟩ = some v := fun i v hi hv => by
    have h := hget i hi
    rw [one_of hv] at h
    rw [← h]
    obtain ⟨b, off, sp⟩ := a
    have hsp : sp = none := hsp
    subst hsp
    rw [WideShapes.add_plain]
  exact ⟨⟨s0, s1, s2, s3, s4⟩, hblk, hsp, hc 0 _ (by decide) e0, hc 1 _ (by decide) e1, hc 2 _ (by decide) e2, hc 3 _ (by decide) e3, hc 4 _ (by decide) e4⟩
theorem open_busies {cs : List Value} {x : DataW H × List MemPlace} (h : DataW.trod enc Tryz.prog w base spare held fuel 22 cs = some x) :
    cs = [.slice none 0 0] ∨ ∃ (a : Addr) (len cap : Nat) (bs : List BV), cs = [.slice (some a) len cap] ∧ len ≤ cap ∧ bs.length = len ∧
      ∀ i (h : i < bs.length), a.block < w.heap.size ∧ ∃ b off, a = ⟨b, off, none⟩ ∧ BCells w b (off + i * 5) bs[i] := by
  rcases DataW.trod_slice Tryz.underlying22 h with ⟨h0, _⟩ | ⟨a, len, cap, elems, rest, n, _, rfl, _, _, hl, _, hlen, hel, _, _⟩
  · exact .inl h0
  right
  have each : ∀ i, i < len → ∃ x : BV, (a.add (i * 5)).block < w.heap.size ∧ (a.add (i * 5)).spot = none ∧ BCells w (a.add (i * 5)).block (a.add (i * 5)).off x := by
    intro i hi
    have h1 := hel i hi
    rw [cells5, List.getElem?_eq_getElem (by omega), Option.bind_eq_some_iff] at h1
    obtain ⟨cs', h2, h3⟩ := h1
    exact open_busy h2 h3
  have pick : ∀ m, m ≤ len → ∃ bs : List BV, bs.length = m ∧ ∀ i (h : i < bs.length), (a.add (i * 5)).block < w.heap.size ∧ (a.add (i * 5)).spot = none ∧ BCells w (a.add (i * 5)).block (a.add (i * 5)).off bs[i] := by
    intro m
    induction m with
    | zero => exact fun _ => ⟨[], rfl, fun i h => absurd h (by simp)⟩
    | succ m ih =>
      intro hm
      obtain ⟨bs, h1, h2⟩ := ih (by omega)
      obtain ⟨x, h3⟩ := each m (by omega)
      refine ⟨bs ++ [x], by simp [h1], fun i h => ?_⟩
      by_cases hi : i < bs.length
      · rw [List.getElem_append_left hi]
        exact h2 i hi
      · have e : i = bs.length := by simp at h; omega
        subst e
        simp only [List.getElem_concat_length]
        rw [h1]
        exact h3
  obtain ⟨bs, h1, h2⟩ := pick len (Nat.le_refl _)
  refine ⟨a, len, cap, bs, rfl, hl, h1, fun i h => ?_⟩
  obtain ⟨h3, h4, h5⟩ := h2 i h
  obtain ⟨b, off, sp⟩ := a
  by_cases hi : i = 0
  · subst hi
    have e : (⟨b, off, sp⟩ : Addr).add (0 * 5) = ⟨b, off, sp⟩ := by simp [Addr.add]
    rw [e] at h3 h4 h5
    have h4 : sp = none := h4
    subst h4
    exact ⟨h3, b, off, rfl, by simpa using h5⟩
  · have e : sp = none := by
      obtain ⟨h6, h7, h8⟩ := h2 0 (by omega)
      have e : (⟨b, off, sp⟩ : Addr).add (0 * 5) = ⟨b, off, sp⟩ := by simp [Addr.add]
      rw [e] at h7
      exact h7
    subst e
    rw [WideShapes.add_plain] at h3 h5
    exact ⟨h3, b, off, rfl, h5⟩
end
end KX

/-
  A part of the proof of FireMay: EvRel. No condition.
-/
import Derived.Test.YthhbpkpnhpdeoaaGreatDoorEv
import Derived.Tactics
import Derived.Lib.Strings
namespace Go.Ev
open Go

/-- where a symbolic block lies: the machine's block, at which of its cells, how many cells there are from there on, and how many an element has -/
abbrev Rn := Nat → Option (Nat × Nat × Nat × Nat)

/-- rows of values, symbolic and of the machine -/
inductive VR (ρ : Rn) : List Value → List Value → Prop where
  | nil : VR ρ [] []
  | bool (b : Bool) {t t' : List Value} : VR ρ t t' → VR ρ (.bool b :: t) (.bool b :: t')
  | int (k : IntKind) (n : Int) {t t' : List Value} : VR ρ t t' → VR ρ (.int k n :: t) (.int k n :: t')
  | str (s : ByteArray) {t t' : List Value} : VR ρ t t' → VR ρ (.string s :: t) (.string s :: t')
  | ptr0 {t t' : List Value} : VR ρ t t' → VR ρ (.pointer none :: t) (.pointer none :: t')
  | ptr (b o c s : Nat) (q : Nat × Nat) {t t' : List Value} : ρ b = some (c, s, q) → VR ρ t t' → VR ρ (.pointer (some ⟨b, o, none⟩) :: t) (.pointer (some ⟨c, s + o, none⟩) :: t')
  | sl0 (n c : Nat) {t t' : List Value} : VR ρ t t' → VR ρ (.slice none n c :: t) (.slice none n c :: t')
  | sl (b o n k c s k' : Nat) (q : Nat × Nat) {t t' : List Value} : ρ b = some (c, s, q) → k ≤ k' → o + k' * q.2 ≤ q.1 → VR ρ t t' → VR ρ (.slice (some ⟨b, o, none⟩) n k :: t) (.slice (some ⟨c, s + o, none⟩) n k' :: t')
  | slE (b o c o' k' s : Nat) (q : Nat × Nat) {t t' : List Value} : ρ b = some (c, s, q) → s ≤ o' → o' + k' * q.2 ≤ s + q.1 → VR ρ t t' → VR ρ (.slice (some ⟨b, o, none⟩) 0 0 :: t) (.slice (some ⟨c, o', none⟩) 0 k' :: t')
  | map0 {t t' : List Value} : VR ρ t t' → VR ρ (.map none :: t) (.map none :: t')
  | map (b c : Nat) (q : Nat × Nat) {t t' : List Value} : ρ b = some (c, 0, q) → VR ρ t t' → VR ρ (.map (some b) :: t) (.map (some c) :: t')
  | func (fn : Go.Fn) {x x' y y' t t' : List Value} : VR ρ x x' → VR ρ y y' → VR ρ t t' → VR ρ (.func fn ⟨x⟩ ⟨y⟩ :: t) (.func fn ⟨x'⟩ ⟨y'⟩ :: t')
  | nilFunc {t t' : List Value} : VR ρ t t' → VR ρ (.nilFunc :: t) (.nilFunc :: t')
  | iface (ty : TypeId) {v v' : Value} {t t' : List Value} : VR ρ [v] [v'] → VR ρ t t' → VR ρ (.iface ty v :: t) (.iface ty v' :: t')
  | nilIface {t t' : List Value} : VR ρ t t' → VR ρ (.nilIface :: t) (.nilIface :: t')
  | agg {x x' t t' : List Value} : VR ρ x x' → VR ρ t t' → VR ρ (.agg ⟨x⟩ :: t) (.agg ⟨x'⟩ :: t')
  | tup {x x' t t' : List Value} : VR ρ x x' → VR ρ t t' → VR ρ (.tuple ⟨x⟩ :: t) (.tuple ⟨x'⟩ :: t')

abbrev V1 (ρ : Rn) (v v' : Value) : Prop := VR ρ [v] [v']

theorem VR.cons {ρ : Rn} {v v' : Value} {t t' : List Value} (h : V1 ρ v v') (ht : VR ρ t t') : VR ρ (v :: t) (v' :: t') := by
  cases h with
  | bool b _ => exact .bool b ht
  | int k n _ => exact .int k n ht
  | str s _ => exact .str s ht
  | ptr0 _ => exact .ptr0 ht
  | ptr b o c s q hr _ => exact .ptr b o c s q hr ht
  | sl0 n c _ => exact .sl0 n c ht
  | sl b o n k c s k' q hr hk hm _ => exact .sl b o n k c s k' q hr hk hm ht
  | slE b o c o' k' s q hr h1 h2 _ => exact .slE b o c o' k' s q hr h1 h2 ht
  | map0 _ => exact .map0 ht
  | map b c q hr _ => exact .map b c q hr ht
  | func fn h1 h2 _ => exact .func fn h1 h2 ht
  | nilFunc _ => exact .nilFunc ht
  | iface ty h1 _ => exact .iface ty h1 ht
  | nilIface _ => exact .nilIface ht
  | agg h1 _ => exact .agg h1 ht
  | tup h1 _ => exact .tup h1 ht

theorem VR.uncons {ρ : Rn} {v : Value} {t l : List Value} (h : VR ρ (v :: t) l) : ∃ v' t', l = v' :: t' ∧ V1 ρ v v' ∧ VR ρ t t' := by
  cases h with
  | bool b ht => exact ⟨_, _, rfl, .bool b .nil, ht⟩
  | int k n ht => exact ⟨_, _, rfl, .int k n .nil, ht⟩
  | str s ht => exact ⟨_, _, rfl, .str s .nil, ht⟩
  | ptr0 ht => exact ⟨_, _, rfl, .ptr0 .nil, ht⟩
  | ptr b o c s q hr ht => exact ⟨_, _, rfl, .ptr b o c s q hr .nil, ht⟩
  | sl0 n c ht => exact ⟨_, _, rfl, .sl0 n c .nil, ht⟩
  | sl b o n k c s k' q hr hk hm ht => exact ⟨_, _, rfl, .sl b o n k c s k' q hr hk hm .nil, ht⟩
  | slE b o c o' k' s q hr h1 h2 ht => exact ⟨_, _, rfl, .slE b o c o' k' s q hr h1 h2 .nil, ht⟩
  | map0 ht => exact ⟨_, _, rfl, .map0 .nil, ht⟩
  | map b c q hr ht => exact ⟨_, _, rfl, .map b c q hr .nil, ht⟩
  | func fn h1 h2 ht => exact ⟨_, _, rfl, .func fn h1 h2 .nil, ht⟩
  | nilFunc ht => exact ⟨_, _, rfl, .nilFunc .nil, ht⟩
  | iface ty h1 ht => exact ⟨_, _, rfl, .iface ty h1 .nil, ht⟩
  | nilIface ht => exact ⟨_, _, rfl, .nilIface .nil, ht⟩
  | agg h1 ht => exact ⟨_, _, rfl, .agg h1 .nil, ht⟩
  | tup h1 ht => exact ⟨_, _, rfl, .tup h1 .nil, ht⟩

theorem VR.nil_l {ρ : Rn} {l : List Value} (h : VR ρ [] l) : l = [] := by cases h; rfl

theorem VR.length {ρ : Rn} : ∀ {l l' : List Value}, VR ρ l l' → l.length = l'.length
  | [], _, h => by cases h; rfl
  | v :: t, _, h => by
    obtain ⟨v', t', rfl, _, ht⟩ := h.uncons
    simp [VR.length ht]

def Ext (ρ ρ' : Rn) : Prop := ∀ b x, ρ b = some x → ρ' b = some x
theorem Ext.refl (ρ : Rn) : Ext ρ ρ := fun _ _ h => h
theorem Ext.trans {ρ ρ' ρ'' : Rn} (h : Ext ρ ρ') (h' : Ext ρ' ρ'') : Ext ρ ρ'' := fun b x hb => h' b x (h b x hb)

theorem VR.mono {ρ ρ' : Rn} (e : Ext ρ ρ') {l l' : List Value} (h : VR ρ l l') : VR ρ' l l' := by
  induction h with
  | nil => exact .nil
  | bool b _ ih => exact .bool b ih
  | int k n _ ih => exact .int k n ih
  | str s _ ih => exact .str s ih
  | ptr0 _ ih => exact .ptr0 ih
  | ptr b o c s q hr _ ih => exact .ptr b o c s q (e _ _ hr) ih
  | sl0 n c _ ih => exact .sl0 n c ih
  | sl b o n k c s k' q hr hk hm _ ih => exact .sl b o n k c s k' q (e _ _ hr) hk hm ih
  | slE b o c o' k' s q hr h1 h2 _ ih => exact .slE b o c o' k' s q (e _ _ hr) h1 h2 ih
  | map0 _ ih => exact .map0 ih
  | map b c q hr _ ih => exact .map b c q (e _ _ hr) ih
  | func fn _ _ _ i1 i2 ih => exact .func fn i1 i2 ih
  | nilFunc _ ih => exact .nilFunc ih
  | iface ty _ _ i1 ih => exact .iface ty i1 ih
  | nilIface _ ih => exact .nilIface ih
  | agg _ _ i1 ih => exact .agg i1 ih
  | tup _ _ i1 ih => exact .tup i1 ih

theorem VR.append {ρ : Rn} : ∀ {l l' m m' : List Value}, VR ρ l l' → VR ρ m m' → VR ρ (l ++ m) (l' ++ m')
  | [], _, _, _, h, hm => by cases h; exact hm
  | v :: t, _, _, _, h, hm => by
    obtain ⟨v', t', rfl, hv, ht⟩ := h.uncons
    exact VR.cons hv (VR.append ht hm)

theorem VR.take {ρ : Rn} : ∀ (n : Nat) {l l' : List Value}, VR ρ l l' → VR ρ (l.take n) (l'.take n)
  | 0, _, _, _ => by simpa using VR.nil
  | n + 1, [], _, h => by cases h; simpa using VR.nil
  | n + 1, v :: t, _, h => by
    obtain ⟨v', t', rfl, hv, ht⟩ := h.uncons
    simpa using VR.cons hv (VR.take n ht)

theorem VR.drop {ρ : Rn} : ∀ (n : Nat) {l l' : List Value}, VR ρ l l' → VR ρ (l.drop n) (l'.drop n)
  | 0, _, _, h => by simpa using h
  | n + 1, [], _, h => by cases h; simpa using VR.nil
  | n + 1, v :: t, _, h => by
    obtain ⟨v', t', rfl, hv, ht⟩ := h.uncons
    simpa using VR.drop n ht

theorem VR.nth {ρ : Rn} : ∀ {l l' : List Value} {i : Nat} {v : Value}, VR ρ l l' → nth l i = some v → ∃ v', l'[i]? = some v' ∧ V1 ρ v v'
  | [], _, _, _, _, h => by simp [Ev.nth] at h
  | x :: t, _, 0, v, hr, h => by
    obtain ⟨v', t', rfl, hv, _⟩ := hr.uncons
    simp [Ev.nth] at h; subst h
    exact ⟨v', by simp, hv⟩
  | x :: t, _, i + 1, v, hr, h => by
    obtain ⟨v', t', rfl, _, ht⟩ := hr.uncons
    simp only [Ev.nth] at h
    obtain ⟨w, hw, hvw⟩ := VR.nth ht h
    exact ⟨w, by simpa using hw, hvw⟩

theorem nth_eq {α : Type} : ∀ (l : List α) (i : Nat), nth l i = l[i]?
  | [], _ => by simp [nth]
  | _ :: _, 0 => by simp [nth]
  | _ :: l, i + 1 => by simp [nth, nth_eq l i]

theorem takeN_eq {α : Type} : ∀ {n : Nat} {l r : List α}, takeN n l = some r → r = l.take n ∧ n ≤ l.length
  | 0, _, _, h => by simp [takeN] at h; subst h; simp
  | n + 1, [], _, h => by simp [takeN] at h
  | n + 1, x :: l, r, h => by
    simp only [takeN] at h
    split at h
    · rename_i r' hr
      cases h
      obtain ⟨e, hl⟩ := takeN_eq hr
      subst e
      exact ⟨by simp, by simp; omega⟩
    · cases h

theorem cut_eq {α : Type} : ∀ {o n : Nat} {l r : List α}, cut o n l = some r → r = (l.drop o).take n ∧ n ≤ (l.drop o).length
  | 0, n, l, r, h => by simp only [cut] at h; obtain ⟨e, hl⟩ := takeN_eq h; exact ⟨by simpa using e, by simpa using hl⟩
  | o + 1, 0, [], r, h => by simp [cut] at h; subst h; simp
  | o + 1, n + 1, [], r, h => by simp [cut] at h
  | o + 1, n, x :: l, r, h => by simp only [cut] at h; obtain ⟨e, hl⟩ := cut_eq h; exact ⟨by simpa using e, by simpa using hl⟩

theorem over_eq {α : Type} : ∀ {l new r : List α}, over l new = some r → r = new ++ l.drop new.length ∧ new.length ≤ l.length
  | l, [], r, h => by cases l <;> simp [over] at h <;> subst h <;> simp
  | [], y :: ys, r, h => by simp [over] at h
  | x :: l, y :: ys, r, h => by
    simp only [over] at h
    split at h
    · rename_i r' hr
      cases h
      obtain ⟨e, hl⟩ := over_eq hr
      subst e
      exact ⟨by simp, by simp; omega⟩
    · cases h

theorem splice_eq {α : Type} : ∀ {n : Nat} {l new r : List α}, splice n l new = some r →
    (new = [] ∧ r = l) ∨ (n + new.length ≤ l.length ∧ r = l.take n ++ new ++ l.drop (n + new.length))
  | 0, l, new, r, h => by
    cases l <;> simp only [splice] at h <;> (obtain ⟨e, hl⟩ := over_eq h; subst e; exact .inr ⟨by simpa using hl, by simp⟩)
  | n + 1, [], new, r, h => by
    cases new with
    | nil => simp [splice] at h; subst h; exact .inl ⟨rfl, rfl⟩
    | cons y ys => simp [splice] at h
  | n + 1, x :: l, new, r, h => by
    simp only [splice] at h
    split at h
    · rename_i r' hr
      cases h
      rcases splice_eq hr with ⟨e, hr'⟩ | ⟨hl, hr'⟩
      · subst hr'; exact .inl ⟨e, rfl⟩
      · subst hr'
        refine .inr ⟨by simp; omega, ?_⟩
        have : n + 1 + new.length = (n + new.length) + 1 := by omega
        rw [this]; simp
    · cases h

/-- one cell's values: a struct's or an array's are several -/
theorem cellsOf_rel {ρ : Rn} {v v' : Value} (h : V1 ρ v v') : VR ρ (cellsOf v) v'.cells.toList := by
  cases h with
  | agg h1 _ => exact h1
  | bool b _ => exact .bool b .nil
  | int k n _ => exact .int k n .nil
  | str s _ => exact .str s .nil
  | ptr0 _ => exact .ptr0 .nil
  | ptr b o c s q hr _ => exact .ptr b o c s q hr .nil
  | sl0 n c _ => exact .sl0 n c .nil
  | sl b o n k c s k' q hr hk hm _ => exact .sl b o n k c s k' q hr hk hm .nil
  | slE b o c o' k' s q hr h1 h2 _ => exact .slE b o c o' k' s q hr h1 h2 .nil
  | map0 _ => exact .map0 .nil
  | map b c q hr _ => exact .map b c q hr .nil
  | func fn h1 h2 _ => exact .func fn h1 h2 .nil
  | nilFunc _ => exact .nilFunc .nil
  | iface ty h1 _ => exact .iface ty h1 .nil
  | nilIface _ => exact .nilIface .nil
  | tup h1 _ => exact .tup h1 .nil

/-! memory -/

/-- no cell of the block is frozen -/
def Soft (w : World) (c : Nat) : Prop := ∀ arr e fr, w.heap[c]? = some (.cells arr e fr) → ∀ i, i < arr.size → w.frozen? ⟨c, i, none⟩ = false

def BlkRel (ρ : Rn) (w : World) (c s : Nat) (q : Nat × Nat) : Blk → Prop
  | .cells st cs => Soft w c ∧ q.2 = st ∧ ∃ arr e fr, w.heap[c]? = some (.cells arr e fr) ∧ VR ρ cs ((arr.toList.drop s).take cs.length) ∧ arr.size = s + q.1
  | .map es => s = 0 ∧ ∃ ents clock, w.heap[c]? = some (.map ents clock) ∧ VR ρ (es.map (·.1)) (ents.toList.map (·.key)) ∧ VR ρ (es.map (·.2)) (ents.toList.map (·.val))

structure HRel (ρ : Rn) (lk : Lk) (w : World) : Prop where
  blk : ∀ id b, lk id = some b → ∃ c s q, ρ id = some (c, s, q) ∧ BlkRel ρ w c s q b
  apart : ∀ i j b b' c s c' s', lk i = some b → lk j = some b' → i ≠ j → ρ i = some (c, s) → ρ j = some (c', s') → c ≠ c'
  low : ∀ id c s, ρ id = some (c, s) → c < w.heap.size
  zero : ∃ q, ρ 0 = some (0, 0, q)

/-- symbolic names from nx on are free -/
def Bd (ρ : Rn) (nx : Nat) : Prop := ∀ id, nx ≤ id → ρ id = none

/-- is block c one of those that the symbolic heap speaks of? -/
def Img (ρ : Rn) (lk : Lk) (c : Nat) : Prop := ∃ id b s, lk id = some b ∧ ρ id = some (c, s)

/-- the outside world as it was; rows of cells keep their kind and their length -/
structure Kept (w w' : World) : Prop where
  os : w'.os = w.os
  out : w'.output = w.output ∧ w'.tape = w.tape
  row : ∀ (c : Nat) (arr : Array Value) (t : TypeId) (fr : Nat × Nat), w.heap[c]? = some (Obj.cells arr t fr) → ∃ arr' : Array Value, arr'.size = arr.size ∧ w'.heap[c]? = some (Obj.cells arr' t fr)

theorem Kept.refl (w : World) : Kept w w := ⟨rfl, ⟨rfl, rfl⟩, fun _ arr _ _ h => ⟨arr, rfl, h⟩⟩
theorem Kept.trans {w w₁ w₂ : World} (h : Kept w w₁) (h' : Kept w₁ w₂) : Kept w w₂ :=
  ⟨h'.os.trans h.os, ⟨h'.out.1.trans h.out.1, h'.out.2.trans h.out.2⟩, fun c arr t fr hc => by
    obtain ⟨a1, e1, h1⟩ := h.row c arr t fr hc
    obtain ⟨a2, e2, h2⟩ := h'.row c a1 t fr h1
    exact ⟨a2, e2.trans e1, h2⟩⟩
theorem Kept.one {w w' : World} {c : Nat} {arr arr' : Array Value} {t : TypeId} {fr : Nat × Nat} (hos : w'.os = w.os) (hout : w'.output = w.output ∧ w'.tape = w.tape) (hc : w.heap[c]? = some (.cells arr t fr)) (hc' : w'.heap[c]? = some (.cells arr' t fr))
    (hs : arr'.size = arr.size) (hoth : ∀ c', c' ≠ c → w'.heap[c']? = w.heap[c']?) : Kept w w' :=
  ⟨hos, hout, fun c2 a2 t2 fr2 h2 => by
    by_cases e : c2 = c
    · subst e; rw [hc] at h2; cases h2; exact ⟨arr', hs, hc'⟩
    · exact ⟨a2, rfl, (hoth c2 e).trans h2⟩⟩
theorem Kept.push {w w' : World} {ob : Obj} (hos : w'.os = w.os) (hout : w'.output = w.output ∧ w'.tape = w.tape) (hh : w'.heap = w.heap.push ob) : Kept w w' :=
  ⟨hos, hout, fun c arr t fr h => ⟨arr, rfl, by
    have hlt : c < w.heap.size := by
      rcases Nat.lt_or_ge c w.heap.size with h1 | h1
      · exact h1
      · rw [Array.getElem?_eq_none h1] at h; cases h
    rw [hh, Array.getElem?_push_lt hlt]
    simpa [hlt] using h⟩⟩
theorem Kept.heap {w w' : World} (hos : w'.os = w.os) (hout : w'.output = w.output ∧ w'.tape = w.tape) (hh : w'.heap = w.heap) : Kept w w' := ⟨hos, hout, fun c arr t fr h => ⟨arr, rfl, by rw [hh]; exact h⟩⟩

structure Pst (ρ : Rn) (lk : Lk) (w : World) (ρ' : Rn) (lk' : Lk) (w' : World) : Prop where
  kept : Kept w w'
  ext : Ext ρ ρ'
  rel : HRel ρ' lk' w'
  size : w.heap.size ≤ w'.heap.size
  frame : ∀ c, c < w.heap.size → ¬ Img ρ lk c → w'.heap[c]? = w.heap[c]?
  img : ∀ c, Img ρ' lk' c → w.heap.size ≤ c ∨ Img ρ lk c

theorem Pst.refl {ρ : Rn} {lk : Lk} {w : World} (h : HRel ρ lk w) : Pst ρ lk w ρ lk w :=
  ⟨Kept.refl w, Ext.refl ρ, h, Nat.le_refl _, fun _ _ _ => rfl, fun _ h => .inr h⟩

theorem Pst.trans {ρ ρ₁ ρ₂ : Rn} {lk lk₁ lk₂ : Lk} {w w₁ w₂ : World} (h : Pst ρ lk w ρ₁ lk₁ w₁) (h' : Pst ρ₁ lk₁ w₁ ρ₂ lk₂ w₂) :
    Pst ρ lk w ρ₂ lk₂ w₂ where
  kept := h.kept.trans h'.kept
  ext := h.ext.trans h'.ext
  rel := h'.rel
  size := Nat.le_trans h.size h'.size
  frame := fun c hc hn => by
    rw [h'.frame c (Nat.lt_of_lt_of_le hc h.size) (fun hi => by
      rcases h.img c hi with hh | hh
      · omega
      · exact hn hh), h.frame c hc hn]
  img := fun c hc => by
    rcases h'.img c hc with hh | hh
    · exact .inl (Nat.le_trans h.size hh)
    · exact h.img c hh

/-- the frame's slots -/
structure TR (ρ : Rn) (tm : Tm) (tmps : Array Value) : Prop where
  size : tm.n ≤ tmps.size
  get : ∀ t v, tm.t.get t = some v → ∃ v', tmps[t]? = some v' ∧ V1 ρ v v'

theorem TR.mono {ρ ρ' : Rn} (e : Ext ρ ρ') {tm : Tm} {a : Array Value} (h : TR ρ tm a) : TR ρ' tm a :=
  ⟨h.size, fun t v hv => let ⟨v', h1, h2⟩ := h.get t v hv; ⟨v', h1, h2.mono e⟩⟩

end Go.Ev

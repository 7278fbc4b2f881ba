/-
  A part of the proof of FireMay: EvDraw3. No condition.
-/
import Derived.Test.YthhbpkpnhpdeoaaGreatDoorEvDraw2
namespace Go.Ev
open Go

section
variable {P : Program} {E : Env} {all : List Oper} {an : List Nat} {tm0 : Tm} {s0 : St} {Ds : Nat → Dr} {Vs : Nat → Value} {Ks : Nat → Kd}
variable (ρ0 : Rn) (w0 : World) (ds : Dl) (all an tm0 s0 Ds Vs Ks)

/-- what holds when the operations of L have run, whatever their order -/
structure Inv (L : Nat → Bool) (p : Nat) (ρ : Rn) (a : Act) (w : World) : Prop where
  pst : Pst ρ0 s0.h.get w0 ρ (cur an s0.nx all.length Ks L (Ds p)) w
  bd : Bd ρ (Ds p).s.nx
  nx : s0.nx + all.length ≤ (Ds p).s.nx
  old : ∀ id, id < s0.nx → ρ id = ρ0 id
  fresh : ∀ j, j < all.length → L j = false → ρ (s0.nx + j) = none
  no : ∀ j b, j < all.length → L j = true → Ks j = .new b → unc an (Ds p).lds j = true → (Ds p).s.h.get (s0.nx + j) = none
  cl : ∀ i j, L i = true → bit (anOf an i) j = true → L j = true
  le : p ≤ all.length
  ld : ∀ j, j < all.length → Ks j = .loud → (L j = true ↔ j < p)
  sz : tm0.n ≤ a.tmps.size
  wr : ∀ t j, writer t 0 all = some j → L j = true → ∃ v', a.tmps[t]? = some v' ∧ V1 ρ (Vs j) v'
  un : ∀ t, (∀ j, writer t 0 all = some j → L j = false) → ∀ v, tm0.t.get t = some v → ∃ v', a.tmps[t]? = some v' ∧ V1 ρ v v'
  dr : DR ρ ds a.defers

variable {ρ0 w0 ds all an tm0 s0 Ds Vs Ks}
variable {L : Nat → Bool} {p : Nat} {ρ : Rn} {a : Act} {w : World}

/-- the slots that an operation looks at -/
theorem Inv.tr (R : Rows P E all an tm0 s0 Ds Vs Ks) (I : Inv all an tm0 s0 Ds Vs Ks ρ0 w0 ds L p ρ a w) {i : Nat} (hi : i < all.length) (hun : L i = false) (hanc : ∀ j, bit (anOf an i) j = true → L j = true)
    {ts : List Tmp} {t : Tr Value} (h : tmFor all an tm0 (Ds i).vals i ts = some t) : TR ρ ⟨tm0.n, t⟩ a.tmps := by
  refine ⟨I.sz, fun u v hu => ?_⟩
  have h1 := tmFor_get h u v hu
  cases hw : writer u 0 all with
  | none =>
    rw [hw] at h1
    simp only [valFor, Option.some.injEq] at h1
    exact I.un u (fun j hj => by rw [hw] at hj; cases hj) v h1
  | some j =>
    rw [hw] at h1
    simp only [valFor] at h1
    split at h1
    · rename_i hb
      simp only [Option.some.injEq] at h1
      obtain ⟨_, rfl⟩ := R.vals i (by omega) j v h1
      exact I.wr u j hw (hanc j hb)
    · rename_i hb
      simp only [Option.some.injEq] at h1
      refine I.un u (fun k hk => ?_) v h1
      rw [hw] at hk; cases hk
      cases hL : L j with
      | false => rfl
      | true =>
        have := I.cl j i hL hb
        rw [hun] at this; cases this
    · cases h1

/-- an operation's result goes to its slot -/
theorem Inv.slots (R : Rows P E all an tm0 s0 Ds Vs Ks) (I : Inv all an tm0 s0 Ds Vs Ks ρ0 w0 ds L p ρ a w) {ρ' : Rn} (e : Ext ρ ρ') {i : Nat} {o : Oper} (ho : all[i]? = some o) {v' : Value} (hv : V1 ρ' (Vs i) v')
    {L' : Nat → Bool} (hL : ∀ j, L' j = true ↔ (j = i ∨ L j = true)) :
    tm0.n ≤ (a.put o.dst v').tmps.size ∧ (∀ t j, writer t 0 all = some j → L' j = true → ∃ u, (a.put o.dst v').tmps[t]? = some u ∧ V1 ρ' (Vs j) u) ∧
    (∀ t, (∀ j, writer t 0 all = some j → L' j = false) → ∀ v, tm0.t.get t = some v → ∃ u, (a.put o.dst v').tmps[t]? = some u ∧ V1 ρ' v u) := by
  have hmem : o ∈ all := List.mem_of_getElem? ho
  have other : ∀ t, o.dst ≠ some t → (a.put o.dst v').tmps[t]? = a.tmps[t]? := by
    intro t ht
    cases hd : o.dst with
    | none => rfl
    | some d =>
      have hne : d ≠ t := fun e => ht (by rw [hd, e])
      simp only [Act.put, Array.getElem?_setIfInBounds_ne hne]
  refine ⟨?_, fun t j hw hj => ?_, fun t ht v hv0 => ?_⟩
  · cases hd : o.dst with
    | none => exact I.sz
    | some d => simp only [Act.put, Array.size_setIfInBounds]; exact I.sz
  · by_cases hd : o.dst = some t
    · have h1 := writer_at 0 R.nodup ho hd
      rw [hw] at h1
      have : j = i := by simpa using h1
      subst this
      have hlt : t < a.tmps.size := Nat.lt_of_lt_of_le (belowN_iff R.below t (mem_dsts.2 ⟨o, hmem, hd⟩)) I.sz
      refine ⟨v', ?_, hv⟩
      rw [hd]
      simp [Act.put, hlt]
    · have hji : j ≠ i := by
        rintro rfl
        obtain ⟨k, o', h1, h2, h3⟩ := writer_some hw
        have : j = k := by omega
        subst this
        rw [ho] at h2; cases h2
        exact hd h3
      obtain ⟨u, h1, h2⟩ := I.wr t j hw (((hL j).1 hj).resolve_left hji)
      exact ⟨u, by rw [other t hd]; exact h1, h2.mono e⟩
  · have hd : o.dst ≠ some t := by
      intro hd
      have h1 := ht _ (writer_at 0 R.nodup ho hd)
      rw [show (0 + i) = i by omega] at h1
      have := (hL i).2 (.inl rfl)
      rw [h1] at this; cases this
    have hun : ∀ j, writer t 0 all = some j → L j = false := by
      intro j hj
      cases hb : L j with
      | false => rfl
      | true =>
        have h1 := (hL j).2 (.inr hb)
        rw [ht j hj] at h1; cases h1
    obtain ⟨u, h1, h2⟩ := I.un t hun v hv0
    exact ⟨u, by rw [other t hd]; exact h1, h2.mono e⟩

/-- what an operation may see of memory is there -/
theorem Inv.pre_sub (R : Rows P E all an tm0 s0 Ds Vs Ks) (I : Inv all an tm0 s0 Ds Vs Ks ρ0 w0 ds L p ρ a w) {i k : Nat} (hk : k ≤ all.length) (hanc : ∀ j, bit (anOf an i) j = true → L j = true) :
    ∀ id b, (preH an s0.nx (Ds p).s.h (Ds p).lds i (Ds k).al).get id = some b → cur an s0.nx all.length Ks L (Ds p) id = some b := by
  intro id b h
  rcases preH_get h with ⟨j, h1, h2, h3, rfl⟩ | h1
  · obtain ⟨h4, h5⟩ := R.al k hk j b h1
    exact cur_p (I.no j b (by omega) (hanc j h2) h5 h3) (pend_at (by omega) h5 (hanc j h2) h3)
  · exact cur_h h1

theorem Inv.quiet (R : Rows P E all an tm0 s0 Ds Vs Ks) (I : Inv all an tm0 s0 Ds Vs Ks ρ0 w0 ds L p ρ a w) {i : Nat} {o : Oper} (ho : all[i]? = some o) (hanc : ∀ j, bit (anOf an i) j = true → L j = true)
    (hk : Ks i = .quiet) {v' : Value} (hv : V1 ρ (Vs i) v') {L' : Nat → Bool} (hL : ∀ j, L' j = true ↔ (j = i ∨ L j = true)) : Inv all an tm0 s0 Ds Vs Ks ρ0 w0 ds L' p ρ (a.put o.dst v') w := by
  obtain ⟨h1, h2, h3⟩ := I.slots R (Ext.refl ρ) ho hv hL
  have hne : ∀ j b, Ks j = .new b → L' j = L j := by
    intro j b hj
    rw [Bool.eq_iff_iff, hL]
    constructor
    · rintro (rfl | h)
      · rw [hk] at hj; cases hj
      · exact h
    · exact .inr
  have hp : pend an s0.nx all.length Ks L' (Ds p).lds = pend an s0.nx all.length Ks L (Ds p).lds := by
    funext id
    unfold pend
    split
    · split
      · rename_i b hb; rw [hne _ _ hb]
      · rfl
    · rfl
  have hc : cur an s0.nx all.length Ks L' (Ds p) = cur an s0.nx all.length Ks L (Ds p) := by
    funext id; unfold cur; rw [hp]
  exact {
    pst := by rw [hc]; exact I.pst
    bd := I.bd, nx := I.nx, old := I.old
    fresh := fun j hj hf => I.fresh j hj (by
      cases hb : L j with
      | false => rfl
      | true => have := (hL j).2 (.inr hb); rw [hf] at this; cases this)
    no := fun j b hj hl hb hu => I.no j b hj (by rw [← hne j b hb]; exact hl) hb hu
    cl := fun x y hx hb => (hL y).2 (.inr (by
      rcases (hL x).1 hx with rfl | hx
      · exact hanc y hb
      · exact I.cl x y hx hb))
    le := I.le
    ld := fun j hj hl => by
      rw [← I.ld j hj hl, hL]
      constructor
      · rintro (rfl | h)
        · rw [hk] at hl; cases hl
        · exact h
      · exact .inr
    sz := h1, wr := h2, un := h3
    dr := by rw [put_defers]; exact I.dr }

theorem Inv.new (R : Rows P E all an tm0 s0 Ds Vs Ks) (I : Inv all an tm0 s0 Ds Vs Ks ρ0 w0 ds L p ρ a w) {i : Nat} {o : Oper} (ho : all[i]? = some o) (hun : L i = false) (hanc : ∀ j, bit (anOf an i) j = true → L j = true)
    {b : Blk} {k : Nk} (hk : Ks i = .new b) (hV : Vs i = nkVal k (s0.nx + i)) {v' : Value} {ob : Obj} {w' : World} {q : Nat × Nat} (hh : w'.heap = w.heap.push ob) (hnk : NkRel k w.heap.size q v') (hb : BlkRel ρ w' w.heap.size 0 q b) (hkp : Kept w w')
    {L' : Nat → Bool} (hL : ∀ j, L' j = true ↔ (j = i ∨ L j = true)) : ∃ ρ', Inv all an tm0 s0 Ds Vs Ks ρ0 w0 ds L' p ρ' (a.put o.dst v') w' := by
  have hi : i < all.length := (List.getElem?_eq_some_iff.1 ho).1
  have hid := I.fresh i hi hun
  have hlk : ∀ id x, cur an s0.nx all.length Ks L' (Ds p) id = some x → (id = s0.nx + i ∧ x = b) ∨ (id ≠ s0.nx + i ∧ cur an s0.nx all.length Ks L (Ds p) id = some x) := by
    intro id x hx
    rcases cur_cases hx with h | ⟨h0, h⟩
    · refine .inr ⟨?_, cur_h h⟩
      rintro rfl
      obtain ⟨c, s, q, h1, _⟩ := I.pst.rel.blk _ _ (cur_h (Ks := Ks) (an := an) (base := s0.nx) (n := all.length) (L := L) h)
      rw [hid] at h1; cases h1
    · obtain ⟨j, h1, rfl, h3, h4, h5⟩ := pend_some h
      by_cases e : j = i
      · subst e
        rw [hk] at h3; cases h3
        exact .inl ⟨rfl, rfl⟩
      · exact .inr ⟨by omega, cur_p h0 (pend_at h1 h3 (((hL j).1 h4).resolve_left e) h5)⟩
  obtain ⟨hp, hv⟩ := new_ok I.pst.rel hid hh hnk hb hkp hlk
  obtain ⟨h1, h2, h3⟩ := I.slots R hp.ext ho (by rw [hV]; exact hv) hL
  refine ⟨_, {
    pst := I.pst.trans hp
    bd := fun id hge => by
      have := I.nx
      rw [Rn.add_ne _ _ _ (by omega)]
      exact I.bd id hge
    nx := I.nx
    old := fun id hlt => by rw [Rn.add_ne _ _ _ (by omega)]; exact I.old id hlt
    fresh := fun j hj hf => by
      have hne : j ≠ i := by
        rintro rfl
        have := (hL j).2 (.inl rfl)
        rw [hf] at this; cases this
      rw [Rn.add_ne _ _ _ (by omega)]
      refine I.fresh j hj ?_
      cases hb : L j with
      | false => rfl
      | true => have := (hL j).2 (.inr hb); rw [hf] at this; cases this
    no := fun j b' hj hl hb' hu => by
      rcases (hL j).1 hl with rfl | hl
      · cases hg : (Ds p).s.h.get (s0.nx + j) with
        | none => rfl
        | some x =>
          obtain ⟨c, s, q, h1, _⟩ := I.pst.rel.blk _ _ (cur_h (Ks := Ks) (an := an) (base := s0.nx) (n := all.length) (L := L) hg)
          rw [hid] at h1; cases h1
      · exact I.no j b' hj hl hb' hu
    cl := fun x y hx hb => (hL y).2 (.inr (by
      rcases (hL x).1 hx with rfl | hx
      · exact hanc y hb
      · exact I.cl x y hx hb))
    le := I.le
    ld := fun j hj hl => by
      rw [← I.ld j hj hl, hL]
      constructor
      · rintro (rfl | h)
        · rw [hk] at hl; cases hl
        · exact h
      · exact .inr
    sz := h1, wr := h2, un := h3
    dr := by rw [put_defers]; exact I.dr.mono hp.ext }⟩

/-- the loud operations run in the order as written -/
theorem Inv.turn (R : Rows P E all an tm0 s0 Ds Vs Ks) (I : Inv all an tm0 s0 Ds Vs Ks ρ0 w0 ds L p ρ a w) {i : Nat} (hi : i < all.length) (hun : L i = false) (hanc : ∀ j, bit (anOf an i) j = true → L j = true) (hk : Ks i = .loud) :
    (Ds i).lds = (Ds p).lds ∧ (Ds i).s = (Ds p).s ∧ p ≤ i ∧ ∀ j, p ≤ j → j < i → Ks j ≠ .loud := by
  have hpi : p ≤ i := by
    rcases Nat.lt_or_ge i p with h | h
    · have := (I.ld i hi hk).2 h
      rw [hun] at this; cases this
    · exact h
  have hbetween : ∀ j, p ≤ j → j < i → Ks j ≠ .loud := by
    intro j h1 h2 hl
    obtain ⟨o, _, hs⟩ := R.fact hi
    have hch := R.chainAt (all.length - (i + 1)) (i + 1) (by omega)
    rcases hs.facts.2.2.1 with ⟨_, h3, _⟩ | ⟨h3, _⟩
    · rw [h3] at hch
      have := chain_listed I.cl hch hanc j ((R.lds i (by omega) j).2 ⟨h2, hl⟩)
      have := (I.ld j (by omega) hl).1 this
      omega
    · exact h3 hk
  have := R.same p (i - p) (by omega) fun j h1 h2 => hbetween j h1 (by omega)
  rw [show p + (i - p) = i by omega] at this
  exact ⟨this.1, this.2, hpi, hbetween⟩

theorem Inv.loud (R : Rows P E all an tm0 s0 Ds Vs Ks) (I : Inv all an tm0 s0 Ds Vs Ks ρ0 w0 ds L p ρ a w) {i : Nat} {o : Oper} (ho : all[i]? = some o) (hun : L i = false) (hanc : ∀ j, bit (anOf an i) j = true → L j = true) (hk : Ks i = .loud)
    {v' : Value} {w' : World} {ρ' : Rn} (G : Go2 ρ ⟨preH an s0.nx (Ds i).s.h (Ds i).lds i (Ds i).al, (Ds i).s.nx⟩ w ρ' (Ds (i + 1)).s w') (hv : V1 ρ' (Vs i) v') {L' : Nat → Bool} (hL : ∀ j, L' j = true ↔ (j = i ∨ L j = true)) :
    Inv all an tm0 s0 Ds Vs Ks ρ0 w0 ds L' (i + 1) ρ' (a.put o.dst v') w' := by
  have hi : i < all.length := (List.getElem?_eq_some_iff.1 ho).1
  obtain ⟨e1, e2, hpi, hbt⟩ := I.turn R hi hun hanc hk
  have hsub := I.pre_sub R (i := i) (k := i) (by omega) hanc
  rw [← e1, ← e2] at hsub
  have hlds : (Ds (i + 1)).lds = i :: (Ds i).lds := by
    obtain ⟨_, _, hs⟩ := R.fact hi
    rcases hs.facts.2.2.1 with ⟨_, h, _⟩ | ⟨h, _⟩
    · exact h
    · exact absurd hk h
  have hnx := I.nx
  rw [← e2] at hnx
  have hpre : ∀ j, bit (anOf an i) j = false → (Ds i).s.h.get (s0.nx + j) = none → (preH an s0.nx (Ds i).s.h (Ds i).lds i (Ds i).al).get (s0.nx + j) = none := by
    intro j hb hn
    cases hg : (preH an s0.nx (Ds i).s.h (Ds i).lds i (Ds i).al).get (s0.nx + j) with
    | none => rfl
    | some x =>
      rcases preH_get hg with ⟨j', _, h2, _, h4⟩ | h1
      · have : j' = j := by omega
        subst this
        rw [hb] at h2; cases h2
      · rw [hn] at h1; cases h1
  have huncons : ∀ j, unc an (i :: (Ds i).lds) j = true → bit (anOf an i) j = false ∧ unc an (Ds p).lds j = true := by
    intro j h
    simp only [unc, Bool.and_eq_true, Bool.not_eq_true'] at h
    rw [← e1]
    exact h
  have hcur : ∀ id x, cur an s0.nx all.length Ks L' (Ds (i + 1)) id = some x → (Ds (i + 1)).s.h.get id = some x ∨
      (cur an s0.nx all.length Ks L (Ds p) id = some x ∧ (preH an s0.nx (Ds i).s.h (Ds i).lds i (Ds i).al).get id = none) := by
    intro id x hx
    rcases cur_cases hx with h | ⟨_, h⟩
    · exact .inl h
    · obtain ⟨j, h1, rfl, h3, h4, h5⟩ := pend_some h
      rw [hlds] at h5
      obtain ⟨h6, h7⟩ := huncons j h5
      have hji : j ≠ i := by rintro rfl; rw [hk] at h3; cases h3
      have hl := ((hL j).1 h4).resolve_left hji
      have hn := I.no j x h1 hl h3 h7
      exact .inr ⟨cur_p hn (pend_at h1 h3 hl h7), hpre j h6 (by rw [e2]; exact hn)⟩
  have hsub' : ∀ id b, (preH an s0.nx (Ds i).s.h (Ds i).lds i (Ds i).al).get id = some b → cur an s0.nx all.length Ks L (Ds p) id = some b := by
    intro id b h
    have h1 := hsub id b h
    exact h1
  have hp := Pst.aside I.pst.rel G.pst hsub' hcur
  obtain ⟨h1, h2, h3⟩ := I.slots R hp.ext ho hv hL
  exact {
    pst := I.pst.trans hp
    bd := G.bd
    nx := Nat.le_trans hnx G.mono
    old := fun id hlt => (G.old id (by show id < (Ds i).s.nx; omega)).trans (I.old id hlt)
    fresh := fun j hj hf => by
      rw [G.old _ (by show s0.nx + j < (Ds i).s.nx; omega)]
      refine I.fresh j hj ?_
      cases hb : L j with
      | false => rfl
      | true => have := (hL j).2 (.inr hb); rw [hf] at this; cases this
    no := fun j b hj hl hb hu => by
      rw [hlds] at hu
      obtain ⟨h6, h7⟩ := huncons j hu
      have hji : j ≠ i := by rintro rfl; rw [hk] at hb; cases hb
      have hl' := ((hL j).1 hl).resolve_left hji
      have hn := I.no j b hj hl' hb h7
      have hc := cur_p (Ks := Ks) (an := an) (base := s0.nx) (n := all.length) (L := L) hn (pend_at hj hb hl' h7)
      have hpn := hpre j h6 (by rw [e2]; exact hn)
      cases hg : (Ds (i + 1)).s.h.get (s0.nx + j) with
      | none => rfl
      | some x =>
        obtain ⟨c, s, q, h8, _⟩ := G.pst.rel.blk _ _ hg
        have h9 := h8
        rw [G.old _ (by show s0.nx + j < (Ds i).s.nx; omega)] at h9
        rcases G.pst.img c ⟨_, _, _, hg, h8⟩ with h10 | ⟨id2, b2, s2, h10, h11⟩
        · have := I.pst.rel.low _ _ _ h9
          omega
        · refine absurd rfl (I.pst.rel.apart (s0.nx + j) id2 b b2 c _ c s2 hc (hsub' _ _ h10) ?_ h9 h11)
          rintro rfl
          rw [hpn] at h10; cases h10
    cl := fun x y hx hb => (hL y).2 (.inr (by
      rcases (hL x).1 hx with rfl | hx
      · exact hanc y hb
      · exact I.cl x y hx hb))
    le := hi
    ld := fun j hj hl => by
      rw [hL]
      constructor
      · rintro (rfl | h)
        · omega
        · have := (I.ld j hj hl).1 h; omega
      · intro h
        by_cases e : j = i
        · exact .inl e
        · refine .inr ((I.ld j hj hl).2 ?_)
          rcases Nat.lt_or_ge j p with h5 | h5
          · exact h5
          · exact absurd hl (hbt j h5 (by omega))
    sz := h1, wr := h2, un := h3
    dr := by rw [put_defers]; exact I.dr.mono hp.ext }

/-- one operation that may run -/
theorem Inv.op (K : TabOK P E) (R : Rows P E all an tm0 s0 Ds Vs Ks) (I : Inv all an tm0 s0 Ds Vs Ks ρ0 w0 ds L p ρ a w) {i : Nat} {o : Oper} (ho : all[i]? = some o) (hun : L i = false) (hanc : ∀ j, bit (anOf an i) j = true → L j = true)
    {L' : Nat → Bool} (hL : ∀ j, L' j = true ↔ (j = i ∨ L j = true)) {N : Act → World → Prop} {Q : Exit → Act → World → Prop} (hN : ∀ p' ρ' a' w', Inv all an tm0 s0 Ds Vs Ks ρ0 w0 ds L' p' ρ' a' w' → N a' w') :
    wpOp P all.toArray Q i N a w := by
  have hi : i < all.length := (List.getElem?_eq_some_iff.1 ho).1
  have hoA : all.toArray[i]? = some o := by simpa using ho
  unfold wpOp
  simp only [hoA]
  have hs := R.step i o ho
  have huncNow : unc an (Ds p).lds i = true := by
    rw [unc_iff]
    intro l hl
    obtain ⟨h1, h2⟩ := (R.lds p I.le l).1 hl
    cases hb : bit (anOf an l) i with
    | false => rfl
    | true =>
      have h3 := (I.ld l (by have := I.le; omega) h2).2 h1
      have := I.cl l i h3 hb
      rw [hun] at this; cases this
  generalize hkd : Ks i = kd at hs
  generalize hvv : Vs i = vv at hs
  generalize hdi : Ds i = di at hs
  generalize hdn : Ds (i + 1) = dn at hs
  cases hs with
  | @skip _ t ht hw =>
    rw [← hdi] at ht
    have hT := I.tr R hi hun hanc ht
    rw [wants_ok hT hw o rfl, if_neg (by simp)]
    exact hN p ρ _ w (I.quiet R ho hanc hkd (by rw [hvv]; exact V1.undef) hL)
  | @val _ t v ht hw hact =>
    rw [← hdi] at ht hact
    have hT := I.tr R hi hun hanc ht
    rw [wants_ok hT hw o rfl, if_pos rfl]
    refine .inl ?_
    let lk : Lk := (preH an s0.nx (Ds p).s.h (Ds p).lds i (Ds all.length).al).get
    have hsub := I.pre_sub R (i := i) (k := all.length) (Nat.le_refl _) hanc
    have hrel : HRel ρ lk w := I.pst.rel.sub hsub
    have hac : act o.op E ⟨tm0.n, t⟩ lk = .val vv := by
      cases hr : reads o.op with
      | false => rw [act_still hr E _ lk _]; exact hact
      | true =>
        have hlog : (i, o, (⟨tm0.n, t⟩ : Tm), vv) ∈ (Ds all.length).lg := by
          have := (R.keep (i + 1) (all.length - (i + 1)) (by omega)).2 (i, o, ⟨tm0.n, t⟩, vv) (by rw [hdn]; simp)
          rwa [show i + 1 + (all.length - (i + 1)) = all.length by omega] at this
        have hst : ((Ds p).s.h, (Ds p).lds) ∈ (Ds all.length).stg := by
          have := (R.keep p (all.length - p) (by have := I.le; omega)).1 _ (R.stage p I.le)
          rwa [show p + (all.length - p) = all.length by have := I.le; omega] at this
        refine logStage_at (logsOk_at R.logs i o _ vv hlog hr) _ _ hst ?_
        unfold inRange
        rw [Bool.and_eq_true]
        refine ⟨huncNow, rest_iff fun l hl hb => ?_⟩
        obtain ⟨h1, h2⟩ := (R.lds _ (Nat.le_refl _) l).1 hl
        exact (R.lds p I.le l).2 ⟨(I.ld l h1 h2).1 (hanc l hb), h2⟩
    have hok := act_sound K hrel hT o
    rw [hac] at hok
    obtain ⟨v', h1, h2⟩ := hok
    unfold Oper.wp
    rw [h2]
    exact hN p ρ _ w (I.quiet R ho hanc hkd (by rw [hvv]; exact h1) hL)
  | @new _ t b k ht hw hr hact =>
    rw [← hdi] at ht hact
    have hT := I.tr R hi hun hanc ht
    rw [wants_ok hT hw o rfl, if_pos rfl]
    refine .inl ?_
    have hac : act o.op E ⟨tm0.n, t⟩ (cur an s0.nx all.length Ks L (Ds p)) = .new b k := by rw [act_still hr E _ _ _]; exact hact
    have hok := act_sound K I.pst.rel hT o
    rw [hac] at hok
    obtain ⟨v', ob, w', q, h1, hh, hnk, hb, hkp⟩ := hok
    unfold Oper.wp
    rw [h1]
    obtain ⟨ρ', hI⟩ := I.new R ho hun hanc hkd hvv hh hnk hb hkp hL
    exact hN p ρ' _ w' hI
  | @loud _ t v s' ht hw heff =>
    rw [← hdi] at ht heff
    have hT := I.tr R hi hun hanc ht
    rw [wants_ok hT hw o rfl, if_pos rfl]
    refine .inl ?_
    obtain ⟨e1, e2, _, _⟩ := I.turn R hi hun hanc hkd
    have hsub := I.pre_sub R (i := i) (k := i) (by omega) hanc
    rw [← e1, ← e2] at hsub
    have S : StOK ρ ⟨preH an s0.nx (Ds i).s.h (Ds i).lds i (Ds i).al, (Ds i).s.nx⟩ w := ⟨I.pst.rel.sub hsub, by rw [e2]; exact I.bd⟩
    have hok := act_sound K S.rel hT o
    have hs' : (Ds (i + 1)).s = s' := by rw [hdn]
    exact eff_ok heff S hok N Q fun v' w' ρ' hg hv => hN (i + 1) ρ' _ w' (I.loud R ho hun hanc hkd (by rw [hs']; exact hg) (by rw [hvv]; exact hv) hL)
end
end Go.Ev

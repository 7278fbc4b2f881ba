/-
  A part of the proof of FireMay: EvDraw4. No condition.
-/
import Derived.Test.YthhbpkpnhpdeoaaGreatDoorEvDraw3
namespace Go.Ev
open Go

section
variable {P : Program} {E : Env} {all : List Oper} {an : List Nat} {tm0 : Tm} {s0 : St} {Ds : Nat → Dr} {Vs : Nat → Value} {Ks : Nat → Kd}
variable {ρ0 : Rn} {w0 : World} {ds : Dl}

theorem Rows.before (R : Rows P E all an tm0 s0 Ds Vs Ks) {i : Nat} {o : Oper} (ho : all[i]? = some o) : (∀ e ∈ o.after, Region.binds .any e = true → e.on < i) ∧
    ∀ j, bit (anOf an i) j = true → ∃ e ∈ o.after, Region.binds .any e = true ∧ (j = e.on ∨ bit (anOf an e.on) j = true) := by
  obtain ⟨_, h⟩ := ancs_spec all [] an R.anc
  obtain ⟨m, h1, h2, h3⟩ := h i o ho
  simp only [List.length_nil, Nat.zero_add] at h1 h2
  refine ⟨h2, fun j hj => h3 j ?_⟩
  have : anOf an i = m := by simp only [anOf, h1]
  rw [this] at hj
  exact hj

theorem getD_lt {l : Array Bool} {i : Nat} (h : l.getD i true = false) : i < l.size ∧ l.getD i false = false := by
  rcases Nat.lt_or_ge i l.size with h1 | h1
  · refine ⟨h1, ?_⟩
    simp [h1] at h ⊢; exact h
  · simp [Array.getElem?_eq_none h1] at h

theorem all_listed (R : Rows P E all an tm0 s0 Ds Vs Ks) {listed : Array Bool} (hsz : listed.size = all.length) (hr : Region.ready .any all.toArray listed = []) : ∀ n i, i < n → i < all.length → listed.getD i false = true
  | 0, i, h, _ => by omega
  | n + 1, i, h, hi => by
    have ih := all_listed R hsz hr n
    cases hb : listed.getD i false with
    | true => rfl
    | false =>
      have hm : i ∈ Region.ready .any all.toArray listed := by
        refine mem_ready.2 ⟨?_, all[i], by simp [hi], fun e he hbd => ?_⟩
        · have : i < listed.size := by omega
          simp [this] at hb ⊢; exact hb
        · have h1 := (R.before (i := i) (o := all[i]) (by simp [hi])).1 e he hbd
          exact ih e.on (by omega) (by omega)
      rw [hr] at hm; cases hm

theorem Inv.end (R : Rows P E all an tm0 s0 Ds Vs Ks) {L : Nat → Bool} {p : Nat} {ρ : Rn} {a : Act} {w : World} (I : Inv all an tm0 s0 Ds Vs Ks ρ0 w0 ds L p ρ a w) (hall : ∀ i, i < all.length → L i = true) :
    CodePost ρ0 s0 w0 .normal ⟨tm0.n, endT (Ds all.length).vals 0 all tm0.t⟩ ds ⟨endH an s0.nx (Ds all.length).s.h (Ds all.length).lds (Ds all.length).al, (Ds all.length).s.nx⟩ .normal a w := by
  have hs := R.same p (all.length - p) (by have := I.le; omega) (fun j h1 h2 hl => by
    have h3 := I.le
    have := (I.ld j (by omega) hl).1 (hall j (by omega))
    omega)
  rw [show p + (all.length - p) = all.length by have := I.le; omega] at hs
  obtain ⟨e1, e2⟩ := hs
  have hsub : ∀ id b, (endH an s0.nx (Ds all.length).s.h (Ds all.length).lds (Ds all.length).al).get id = some b → cur an s0.nx all.length Ks L (Ds p) id = some b := by
    intro id b h
    rcases endH_get h with ⟨j, h1, h2, rfl⟩ | h1
    · obtain ⟨h4, h5⟩ := R.al all.length (Nat.le_refl _) j b h1
      rw [e1] at h2
      exact cur_p (I.no j b h4 (hall j h4) h5 h2) (pend_at h4 h5 (hall j h4) h2)
    · rw [e2] at h1
      exact cur_h h1
  refine ⟨rfl, ρ, ⟨⟨I.pst.kept, I.pst.ext, I.pst.rel.sub hsub, I.pst.size, I.pst.frame, ?_⟩, ?_, ?_, fun id hid => I.old id hid⟩, ⟨I.sz, fun t v hv => ?_⟩, I.dr⟩
  · rintro c ⟨id, b, s, h1, h2⟩
    exact I.pst.img c ⟨id, b, s, hsub id b h1, h2⟩
  · show Bd ρ (Ds all.length).s.nx
    rw [e2]; exact I.bd
  · show s0.nx ≤ (Ds all.length).s.nx
    rw [e2]
    have := I.nx
    omega
  · rcases endT_get hv with ⟨j, o, h1, h2, h3⟩ | ⟨h1, h2⟩
    · rw [Nat.zero_add] at h3
      obtain ⟨h4, rfl⟩ := R.vals all.length (Nat.le_refl _) j v h3
      have hw := writer_at 0 R.nodup h1 h2
      rw [Nat.zero_add] at hw
      exact I.wr t j hw (hall j h4)
    · have hw := writer_none 0 h2
      exact I.un t (fun j hj => by rw [hw] at hj; cases hj) v h1

theorem any_go (K : EnvOK P E) (R : Rows P E all an tm0 s0 Ds Vs Ks) : ∀ (fuel : Nat) (listed : Array Bool) (a : Act) (w : World) (p : Nat) (ρ : Rn), listed.size = all.length → listed.toList.count false = fuel →
    Inv all an tm0 s0 Ds Vs Ks ρ0 w0 ds (fun j => listed.getD j false) p ρ a w →
    wpAny P .any all.toArray (CodePost ρ0 s0 w0 .normal ⟨tm0.n, endT (Ds all.length).vals 0 all tm0.t⟩ ds ⟨endH an s0.nx (Ds all.length).s.h (Ds all.length).lds (Ds all.length).al, (Ds all.length).s.nx⟩) fuel listed a w
  | 0, listed, a, w, p, ρ, hsz, hc, I => by
    have h0 : ∀ i, listed.getD i true = false → False := by
      intro i hi
      obtain ⟨h1, h2⟩ := getD_lt hi
      have : false ∈ listed.toList := by
        rw [Array.mem_toList_iff]
        simp [h1] at h2
        exact h2 ▸ Array.getElem_mem h1
      exact List.count_eq_zero.1 hc this
    have hr : Region.ready .any all.toArray listed = [] := by
      cases hr : Region.ready .any all.toArray listed with
      | nil => rfl
      | cons i r =>
        have : i ∈ Region.ready .any all.toArray listed := by rw [hr]; simp
        exact (h0 i (mem_ready.1 this).1).elim
    exact ⟨hr, I.end R fun i hi => all_listed R hsz hr (i + 1) i (by omega) hi⟩
  | fuel + 1, listed, a, w, p, ρ, hsz, hc, I => by
    refine ⟨fun hr => I.end R fun i hi => all_listed R hsz hr (i + 1) i (by omega) hi, fun i hi => ?_⟩
    obtain ⟨h0, o, ho, hbd⟩ := mem_ready.1 hi
    have ho : all[i]? = some o := by simpa using ho
    obtain ⟨hlt, hun⟩ := getD_lt h0
    refine I.op K.toTabOK R ho hun (fun j hj => ?_) (L' := fun j => (listed.setIfInBounds i true).getD j false) (fun j => ?_) (fun p' ρ' a' w' I' => ?_)
    · obtain ⟨e, he, hb, h1⟩ := (R.before ho).2 j hj
      rcases h1 with rfl | h1
      · exact hbd e he hb
      · exact I.cl e.on j (hbd e he hb) h1
    · by_cases e : j = i
      · subst e
        simp [hlt]
      · rw [getD_set_ne false (Ne.symm e)]
        simp [e]
    · refine any_go K R fuel _ a' w' p' ρ' (by simpa using hsz) ?_ I'
      rw [Array.toList_setIfInBounds, List.count_set (by simpa using hlt)]
      have h1 : listed.toList[i]'(by simpa using hlt) = false := by simp [hlt] at hun ⊢; exact hun
      rw [h1, hc]
      simp

theorem HRel.drawn {ρ : Rn} {lk : Lk} {w : World} (h : HRel ρ lk w) (n : Nat) : HRel ρ lk { w with drawn := n } :=
  ⟨fun id b hb => by
    obtain ⟨c, s, q, h1, h2⟩ := h.blk id b hb
    exact ⟨c, s, q, h1, h2.mono (w := w) (w' := { w with drawn := n }) (Ext.refl ρ) rfl⟩, h.apart, h.low, h.zero⟩

theorem draw_sound (K : EnvOK P E) (R : Rows P E all an tm0 s0 Ds Vs Ks) {id : Nat} {ρ : Rn} {a : Act} {w : World} (S : StOK ρ s0 w) (hT : TR ρ tm0 a.tmps) (hD : DR ρ ds a.defers) :
    (Code.region id all.toArray true).wp P (CodePost ρ s0 w .normal ⟨tm0.n, endT (Ds all.length).vals 0 all tm0.t⟩ ds ⟨endH an s0.nx (Ds all.length).s.h (Ds all.length).lds (Ds all.length).al, (Ds all.length).s.nx⟩) a w := by
  refine wp_region_any K.mixed ?_
  rw [show all.toArray.size = all.length by simp]
  have hget : ∀ j, (Array.replicate all.length false).getD j false = false := by
    intro j
    by_cases h : j < all.length <;> simp [h]
  have hempty : cur an s0.nx all.length Ks (fun j => (Array.replicate all.length false).getD j false) (Ds 0) = s0.h.get := by
    funext x
    unfold cur
    rw [R.zero]
    simp only
    cases hx : s0.h.get x with
    | some y => rfl
    | none =>
      simp only
      cases hp : pend an s0.nx all.length Ks (fun j => (Array.replicate all.length false).getD j false) [] x with
      | none => rfl
      | some b =>
        obtain ⟨j, _, _, _, h4, _⟩ := pend_some hp
        simp only [hget] at h4; cases h4
  refine any_go K R all.length _ a _ 0 ρ (by simp) (by simp) ?_
  have hnx : (Ds 0).s.nx = s0.nx + all.length := by rw [R.zero]
  exact {
    pst := by
      rw [hempty]
      exact ⟨Kept.heap rfl ⟨rfl, rfl⟩ rfl, Ext.refl ρ, S.rel.drawn _, Nat.le_refl _, fun _ _ _ => rfl, fun _ h => .inr h⟩
    bd := fun id h => S.bd id (by omega)
    nx := by omega
    old := fun _ _ => rfl
    fresh := fun j _ _ => S.bd _ (by omega)
    no := fun j b _ h => by simp only [hget] at h; cases h
    cl := fun i j h => by simp only [hget] at h; cases h
    le := Nat.zero_le _
    ld := fun j _ _ => by simp only [hget]; simp
    sz := hT.size
    wr := fun t j _ h => by simp only [hget] at h; cases h
    un := fun t _ v hv => hT.get t v hv
    dr := hD }

/-- what 'startD' says -/
theorem startD_sound (K : EnvOK P E) {ih : Ih} (hih : ∀ i l d dn, ih (.draw all an s0.nx tm0 i l d) = some (.drawn dn) → Trace P E all an s0.nx tm0 i l d dn) (han : ancs all [] = some an) {o : Out}
    (h : startD E all tm0 ds s0 ih (some an) = some o) : ∃ tm' s', o = .code .normal tm' ds s' ∧ ∀ id ρ a w, StOK ρ s0 w → TR ρ tm0 a.tmps → DR ρ ds a.defers → (Code.region id all.toArray true).wp P (CodePost ρ s0 w .normal tm' ds s') a w := by
  unfold startD at h
  simp only at h
  split at h
  · rename_i hc
    simp only [Bool.and_eq_true] at hc
    unfold drawnK at h
    split at h
    · rename_i dn hr
      split at h
      · rename_i hok
        simp only [Bool.and_eq_true] at hok
        cases h
        refine ⟨_, _, rfl, fun id ρ a w S hT hD => ?_⟩
        obtain ⟨Ds, Vs, Ks, h1, h2, h3⟩ := (hih _ _ _ _ hr).rows
        simp only [Nat.zero_add] at h2 h3
        subst h2
        exact draw_sound K ⟨h1, h3, han, hc.1, hc.2, hok.1, hok.2⟩ S hT hD
      · cases h
    · cases h
  · cases h

/-- one step, at the evaluator's word -/
theorem tDraw_trace {ih : Ih} {base : Nat} {i : Nat} {l : List Oper} {d dn : Dr} (hih : ∀ i l d dn, ih (.draw all an base tm0 i l d) = some (.drawn dn) → Trace P E all an base tm0 i l d dn)
    (hcall : ∀ f vs s v s', ih (.call f vs s) = some (.call v s') → CallSound P f vs s v s') (h : tDraw E ih all an base tm0 i l d = some (.drawn dn)) : Trace P E all an base tm0 i l d dn := by
  unfold tDraw at h
  split at h
  · cases h; exact .nil i d
  · rename_i o l
    unfold dTm at h
    split at h
    · rename_i t ht
      unfold dOp at h
      split at h
      · rename_i hw
        unfold dFin at h
        split at h
        · rename_i v hact
          exact .cons (.val ht hw hact) (hih _ _ _ _ h)
        · rename_i b k hact
          split at h
          · cases h
          · rename_i hr
            exact .cons (.new ht hw hr hact) (hih _ _ _ _ h)
        · rename_i b blk v hact
          refine .cons (.loud ht hw ?_) (hih _ _ _ _ h)
          rw [hact]; exact .put b blk v _
        · rename_i dead st cells n hact
          refine .cons (.loud ht hw ?_) (hih _ _ _ _ h)
          rw [hact]; exact .app dead st cells n _
        · rename_i f vs hact
          unfold dCall at h
          split at h
          · rename_i v s' hc
            refine .cons (.loud ht hw ?_) (hih _ _ _ _ h)
            rw [hact]; exact .call (hcall _ _ _ _ _ hc)
          · cases h
        · cases h
      · rename_i hw
        exact .cons (.skip ht hw) (hih _ _ _ _ h)
      · cases h
    · cases h
end
end Go.Ev

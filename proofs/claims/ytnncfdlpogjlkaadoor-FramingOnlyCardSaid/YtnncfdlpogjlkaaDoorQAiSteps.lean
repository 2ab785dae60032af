/-
  Stores into memory of the call's own, and appends.
-/
import Derived.Test.YtnncfdlpogjlkaaDoorQAiApp
namespace Go.Ai
set_option linter.unusedVariables false
set_option linter.unusedSimpArgs false
set_option linter.unnecessarySimpa false
open Go.RowKit

section
variable {G : Nat → Option (List AV)} {I : World → Prop} {B0 : Nat} {E : Env}

theorem getElem?_set_cases {h : Hp} {b : Nat} {x y : Blk} {id : Nat} (hy : (h.set b x)[id]? = some y) : (id = b ∧ y = x ∧ b < h.length) ∨ (id ≠ b ∧ h[id]? = some y) := by
  rw [List.getElem?_set] at hy
  by_cases hb : b = id
  · subst hb
    rw [if_pos rfl] at hy
    split at hy
    · injection hy with hy; exact .inl ⟨rfl, hy.symm, by assumption⟩
    · cases hy
  · rw [if_neg hb] at hy
    exact .inr ⟨fun e => hb e.symm, hy⟩

/-- The cells of one block of the call's own have turned. -/
theorem step_store (hI : ∀ w w', I w → Below B0 w w' → I w') (H : Good G I B0 E) {w' : World} {b g : Nat} {cs ds : List AV} {c d : Array Value} {t : TypeId} {fr : Nat × Nat}
    (hb : E.h[b]? = some (.mem t cs)) (hg : E.σ b = some g) (hold : E.w.heap[g]? = some (.cells c t fr)) (hw : E.w.grownBy w' (some g)) (hsz : w'.heap.size = E.w.heap.size)
    (hnew : w'.heap[g]? = some (.cells d t fr)) (hcd : d.size = c.size) (hlen : ds.length = cs.length)
    (hds : ∀ (j : Nat) x, ds[j]? = some x → ∃ v, d[j]? = some v ∧ v.oneCell' = true ∧ Rel E x v) :
    Step G I B0 E { E with w := w', h := E.h.set b (.mem t ds) } := by
  have hB : E.B ≤ g := (H.lt hb (by simp) hg).1
  have hbl : b < E.h.length := (List.getElem?_eq_some_iff.1 hb).1
  have hfz : ∀ j, w'.frozen? ⟨g, j, none⟩ = E.w.frozen? ⟨g, j, none⟩ := fun j => by simp [World.frozen?, hnew, hold]
  have hne : ∀ (id : Nat) x g', id ≠ b → E.h[id]? = some x → x ≠ .dead → E.σ id = some g' → g' ≠ g := by
    rintro id x g' hid hx hd hs rfl
    exact hid (H.inj id b x _ g' hx hb hd (by simp) hs hg)
  have hown : ∀ (e : TypeId) (size n : Nat) v xs, v.ownBlock ≠ some g → E.w.ownsRow E.B e size v n xs → w'.ownsRow E.B e size v n xs := fun e size n v xs hv h => h.kept hw (.inr hv)
  have L : Le E { E with w := w', h := E.h.set b (.mem t ds) } := by
    refine ⟨rfl, fun a v h s => ?_, by simp, fun id t' cs' h => ?_, fun id n sz e hi h => ?_, fun id s p h => ?_⟩
    · have hag : a.block ≠ g := by
        intro e
        rcases s.2 b _ hb (e ▸ hg) with h1 | ⟨_, _, _, h1, _⟩ <;> cases h1
      refine ⟨hw.cell h (fun e => hag (by injection e)), s.1, fun id x hx hs => ?_⟩
      rcases getElem?_set_cases hx with ⟨rfl, rfl, _⟩ | ⟨_, hx'⟩
      · have hs' : E.σ id = some a.block := hs
        rw [hg] at hs'
        injection hs' with hs'
        exact absurd hs'.symm hag
      · exact s.2 id x hx' hs
    · by_cases hid : id = b
      · subst hid
        rw [hb] at h
        injection h with h
        injection h with h0 h
        subst h; subst h0
        exact ⟨ds, by simp [hbl], hlen, rfl⟩
      · exact ⟨cs', by rw [List.getElem?_set_ne (fun e => hid e.symm)]; exact h, rfl, rfl⟩
    · rcases getElem?_set_cases h with ⟨rfl, h1, _⟩ | ⟨hid, h1⟩
      · cases h1
      · refine ⟨n, h1, Nat.le_refl _, fun _ => ⟨rfl, fun v xs hv hob => hown e sz n v xs (fun he => ?_) hv⟩⟩
        rw [he] at hob
        exact hne id _ g hid h1 (by simp) hob.symm rfl
    · have hid : id ≠ b := by rintro rfl; rw [hb] at h; cases h
      exact ⟨p, by rw [List.getElem?_set_ne (fun e => hid e.symm)]; exact h, rfl⟩
  refine ⟨L, ⟨fun id y hy => ?_, fun i j x y g' hi hj hx hy hsi hsj => ?_, fun k gs hk => At.mono L _ _ (H.glob k gs hk), H.U, ?_, H.B0, hI _ _ H.I ?_⟩, rfl, ?_⟩
  · rcases getElem?_set_cases hy with ⟨rfl, rfl, _⟩ | ⟨hid, hy'⟩
    · have h := H.blk id _ hb
      obtain ⟨g', c', fr', h1, h2, h3, h4, h5, h6⟩ := h
      rw [hg] at h1
      injection h1 with h1
      subst h1
      rw [hold] at h3
      injection h3 with h3
      injection h3 with h3 h3' h3''
      subst h3; subst h3''
      refine ⟨g, d, fr, hg, h2, hnew, by rw [hlen, hcd]; exact h4, fun j hj => (hfz j).trans (h5 j (by rw [← hlen]; exact hj)), fun j z hz => ?_⟩
      obtain ⟨v, k1, k2, k3⟩ := hds j z hz
      exact ⟨v, k1, k2, Rel.mono L _ _ k3⟩
    · have h := H.blk id y hy'
      cases y with
      | mem t' es =>
        obtain ⟨g', c', fr', h1, h2, h3, h4, h5, h6⟩ := h
        have hgg := hne id _ g' hid hy' (by simp) h1
        have hblk : w'.heap[g']? = E.w.heap[g']? := hw.block g' (Array.getElem?_eq_some_iff.1 h3).1 (fun e => hgg (by injection e))
        refine ⟨g', c', fr', h1, h2, hblk.trans h3, h4, fun j hj => (World.frozen?_of_block (a := ⟨g', j, none⟩) hblk).trans (h5 j hj), fun j z hz => ?_⟩
        obtain ⟨v, k1, k2, k3⟩ := h6 j z hz
        exact ⟨v, k1, k2, Rel.mono L _ _ k3⟩
      | grow n sz e =>
        intro g' hg'
        show E.B ≤ g' ∧ g' < w'.heap.size
        rw [hsz]
        exact h g' hg'
      | dead => trivial
      | iter s p =>
        obtain ⟨g', h1, h2, h3⟩ := h
        have hgg := hne id _ g' hid hy' (by simp) h1
        exact ⟨g', h1, h2, (hw.block g' (Array.getElem?_eq_some_iff.1 h3).1 (fun e => hgg (by injection e))).trans h3⟩
  · rcases getElem?_set_cases hi with ⟨rfl, rfl, _⟩ | ⟨hii, hi'⟩ <;> rcases getElem?_set_cases hj with ⟨rfl, rfl, _⟩ | ⟨hjj, hj'⟩
    · rfl
    · exact H.inj _ _ _ _ g' hb hj' (by simp) hy hsi hsj
    · exact H.inj _ _ _ _ g' hi' hb hx (by simp) hsi hsj
    · exact H.inj _ _ _ _ g' hi' hj' hx hy hsi hsj
  · show E.B ≤ w'.heap.size
    rw [hsz]
    exact H.size
  · exact ⟨hw.os, hw.tape, hw.output, hw.size, fun k hk => hw.block k (by have := H.size; have := H.B0; omega) (fun e => by injection e with e; have := H.B0; omega)⟩
  · exact ⟨hw.os, hw.tape, hw.output, hw.size, fun k hk => hw.block k (by have := H.size; show k < E.w.heap.size; omega) (fun e => by injection e with e; omega)⟩

/-- A walk along a string has gone on. -/
theorem step_next (hI : ∀ w w', I w → Below B0 w w' → I w') (H : Good G I B0 E) {w' : World} {b g p p' : Nat} {s : List UInt8}
    (hb : E.h[b]? = some (.iter s p)) (hg : E.σ b = some g) (hold : E.w.heap[g]? = some (.stringIter ⟨s.toArray⟩ p)) (hw : E.w.grownBy w' (some g)) (hsz : w'.heap.size = E.w.heap.size)
    (hnew : w'.heap[g]? = some (.stringIter ⟨s.toArray⟩ p')) :
    Step G I B0 E { E with w := w', h := E.h.set b (.iter s p') } := by
  have hB : E.B ≤ g := (H.lt hb (by simp) hg).1
  have hbl : b < E.h.length := (List.getElem?_eq_some_iff.1 hb).1
  have hne : ∀ (id : Nat) x g', id ≠ b → E.h[id]? = some x → x ≠ .dead → E.σ id = some g' → g' ≠ g := by
    rintro id x g' hid hx hd hs rfl
    exact hid (H.inj id b x _ g' hx hb hd (by simp) hs hg)
  have L : Le E { E with w := w', h := E.h.set b (.iter s p') } := by
    refine ⟨rfl, fun a v h st => ?_, by simp, fun id t' cs' h => ?_, fun id n sz e hi h => ?_, fun id s1 p1 h => ?_⟩
    · have hag : a.block ≠ g := by
        intro e
        rcases st.2 b _ hb (e ▸ hg) with h1 | ⟨_, _, _, h1, _⟩ <;> cases h1
      refine ⟨hw.cell h (fun e => hag (by injection e)), st.1, fun id x hx hs => ?_⟩
      rcases getElem?_set_cases hx with ⟨rfl, rfl, _⟩ | ⟨_, hx'⟩
      · have hs' : E.σ id = some a.block := hs
        rw [hg] at hs'
        injection hs' with hs'
        exact absurd hs'.symm hag
      · exact st.2 id x hx' hs
    · have hid : id ≠ b := by rintro rfl; rw [hb] at h; cases h
      exact ⟨cs', by rw [List.getElem?_set_ne (fun e => hid e.symm)]; exact h, rfl, rfl⟩
    · rcases getElem?_set_cases h with ⟨rfl, h1, _⟩ | ⟨hid, h1⟩
      · cases h1
      · refine ⟨n, h1, Nat.le_refl _, fun _ => ⟨rfl, fun v xs hv hob => hv.kept hw (.inr fun he => ?_)⟩⟩
        rw [he] at hob
        exact hne id _ g hid h1 (by simp) hob.symm rfl
    · by_cases hid : id = b
      · subst hid
        rw [hb] at h
        injection h with h
        injection h with h0 h1
        subst h0; subst h1
        exact ⟨p', by simp [hbl], rfl⟩
      · exact ⟨p1, by rw [List.getElem?_set_ne (fun e => hid e.symm)]; exact h, rfl⟩
  refine ⟨L, ⟨fun id y hy => ?_, fun i j x y g' hi hj hx hy hsi hsj => ?_, fun k gs hk => At.mono L _ _ (H.glob k gs hk), H.U, ?_, H.B0, hI _ _ H.I ?_⟩, rfl, ?_⟩
  · rcases getElem?_set_cases hy with ⟨rfl, rfl, _⟩ | ⟨hid, hy'⟩
    · exact ⟨g, hg, hB, hnew⟩
    · have h := H.blk id y hy'
      cases y with
      | mem t' es =>
        obtain ⟨g', c', fr', h1, h2, h3, h4, h5, h6⟩ := h
        have hgg := hne id _ g' hid hy' (by simp) h1
        have hblk : w'.heap[g']? = E.w.heap[g']? := hw.block g' (Array.getElem?_eq_some_iff.1 h3).1 (fun e => hgg (by injection e))
        refine ⟨g', c', fr', h1, h2, hblk.trans h3, h4, fun j hj => (World.frozen?_of_block (a := ⟨g', j, none⟩) hblk).trans (h5 j hj), fun j z hz => ?_⟩
        obtain ⟨v, k1, k2, k3⟩ := h6 j z hz
        exact ⟨v, k1, k2, Rel.mono L _ _ k3⟩
      | grow n sz e =>
        intro g' hg'
        show E.B ≤ g' ∧ g' < w'.heap.size
        rw [hsz]
        exact h g' hg'
      | dead => trivial
      | iter s1 p1 =>
        obtain ⟨g', h1, h2, h3⟩ := h
        have hgg := hne id _ g' hid hy' (by simp) h1
        exact ⟨g', h1, h2, (hw.block g' (Array.getElem?_eq_some_iff.1 h3).1 (fun e => hgg (by injection e))).trans h3⟩
  · rcases getElem?_set_cases hi with ⟨rfl, rfl, _⟩ | ⟨hii, hi'⟩ <;> rcases getElem?_set_cases hj with ⟨rfl, rfl, _⟩ | ⟨hjj, hj'⟩
    · rfl
    · exact H.inj _ _ _ _ g' hb hj' (by simp) hy hsi hsj
    · exact H.inj _ _ _ _ g' hi' hb hx (by simp) hsi hsj
    · exact H.inj _ _ _ _ g' hi' hj' hx hy hsi hsj
  · show E.B ≤ w'.heap.size
    rw [hsz]
    exact H.size
  · exact ⟨hw.os, hw.tape, hw.output, hw.size, fun k hk => hw.block k (by have := H.size; have := H.B0; omega) (fun e => by injection e with e; have := H.B0; omega)⟩
  · exact ⟨hw.os, hw.tape, hw.output, hw.size, fun k hk => hw.block k (by have := H.size; show k < E.w.heap.size; omega) (fun e => by injection e with e; omega)⟩

/-- An append onto a lineage. -/
theorem step_append (hI : ∀ w w', I w → Below B0 w w' → I w') (H : Good G I B0 E) {w' : World} {id n m sz : Nat} {e : TypeId} {v v' : Value} {xs news : List Value}
    (hb : E.h[id]? = some (.grow n sz e)) (hown : E.w.ownsRow E.B e sz v n xs) (hob : v.ownBlock = E.σ id)
    (hown' : w'.ownsRow E.B e sz v' (n + m) (xs ++ news)) (hos : w'.os = E.w.os) (htp : w'.tape = E.w.tape) (hout : w'.output = E.w.output)
    (hcase : (v'.ownBlock = v.ownBlock ∧ E.w.grownBy w' v.ownBlock ∧ w'.heap.size = E.w.heap.size ∧ (m = 0 → v' = v ∧ w'.heap = E.w.heap)) ∨ (0 < m ∧ v'.ownBlock = some E.w.heap.size ∧ E.w.grownBy w' none)) :
    Step G I B0 E { E with w := w', σ := upd E.σ id v'.ownBlock, h := E.h.set id (.grow (n + m) sz e) } := by
  have hidl : id < E.h.length := (List.getElem?_eq_some_iff.1 hb).1
  have hg : E.w.grownBy w' v.ownBlock := by
    rcases hcase with h | h
    · exact h.2.1
    · exact ⟨h.2.2.os, h.2.2.tape, h.2.2.output, h.2.2.size, fun k hk _ => h.2.2.block k hk (by simp)⟩
  have hsz : E.w.heap.size ≤ w'.heap.size := hg.size
  have hBl : ∀ k, v.ownBlock = some k → E.B ≤ k ∧ k < E.w.heap.size := hown.lt
  have hne : ∀ (j : Nat) x g', j ≠ id → E.h[j]? = some x → x ≠ .dead → E.σ j = some g' → some g' ≠ v.ownBlock := by
    intro j x g' hj hx hd hs he
    rw [hob] at he
    exact hj (H.inj j id x _ g' hx hb hd (by simp) hs he.symm)
  have hσ : ∀ {j : Nat}, j ≠ id → upd E.σ id v'.ownBlock j = E.σ j := fun h => upd_other h
  have hnb : ∀ g, v'.ownBlock = some g → E.B ≤ g ∧ g < w'.heap.size := hown'.lt
  have hnewg : ∀ g, v'.ownBlock = some g → v.ownBlock = some g ∨ g = E.w.heap.size := by
    intro g hg'
    rcases hcase with h | h
    · exact .inl (h.1 ▸ hg')
    · rw [h.2.1] at hg'
      injection hg' with hg'
      exact .inr hg'.symm
  have L : Le E { E with w := w', σ := upd E.σ id v'.ownBlock, h := E.h.set id (.grow (n + m) sz e) } := by
    refine ⟨rfl, fun a u h s => ?_, by simp, fun j t' cs' h => ?_, fun j n' sz' e' hj h => ?_, fun j s p h => ?_⟩
    · have hlt := World.block_lt_of_cell? E.w a h
      refine ⟨?_, s.1, fun j x hx hs => ?_⟩
      · by_cases hab : some a.block = v.ownBlock
        · rcases hcase with hc | hc
          · rcases s.2 id _ hb (hob.symm.trans hab.symm) with h1 | ⟨n1, sz1, e1, h1, hoff⟩
            · cases h1
            injection h1 with h1 h2 h3
            subst h1; subst h2; subst h3
            have hsp : a.spot = none := by
              unfold World.cell? at h
              split at h
              · cases hsp : a.spot with
                | none => rfl
                | some _ => simp [hsp] at h
              · cases h
            obtain ⟨ab, ao, asp⟩ := a
            simp only at hsp hab hoff h
            subst hsp
            have hx1 : xs[ao]? = some u := by
              have hlx : ao < xs.length := by rw [hown.1]; exact hoff
              have := hown.cells hab.symm ao _ (List.getElem?_eq_getElem hlx)
              rw [Addr.add_lit, Nat.zero_add] at this
              rw [h] at this
              injection this with this
              rw [List.getElem?_eq_getElem hlx, this]
            have := hown'.cells (hc.1.trans hab.symm) ao u (by rw [List.getElem?_append_left (by rw [hown.1]; exact hoff)]; exact hx1)
            rwa [Addr.add_lit, Nat.zero_add] at this
          · exact hc.2.2.cell h (by simp)
        · exact hg.cell h hab
      · rcases getElem?_set_cases hx with ⟨rfl, rfl, _⟩ | ⟨hjid, hx'⟩
        · have hs' : v'.ownBlock = some a.block := by simpa [upd_same] using hs
          rcases hnewg _ hs' with h1 | h1
          · rcases s.2 j _ hb (hob.symm.trans h1) with h2 | ⟨n1, sz1, e1, h2, hoff⟩
            · cases h2
            injection h2 with h2 h3 h4
            subst h2; subst h3; subst h4
            exact .inr ⟨n + m, sz, e, rfl, Nat.lt_of_lt_of_le hoff (Nat.mul_le_mul_right _ (Nat.le_add_right _ _))⟩
          · omega
        · exact s.2 j x hx' (by simpa [hσ hjid] using hs)
    · have hjid : j ≠ id := by rintro rfl; rw [hb] at h; cases h
      exact ⟨cs', by rw [List.getElem?_set_ne (fun e => hjid e.symm)]; exact h, rfl, hσ hjid⟩
    · rcases getElem?_set_cases h with ⟨rfl, h1, _⟩ | ⟨hjid, h1⟩
      · injection h1 with h1 h2 h3
        subst h1; subst h2; subst h3
        refine ⟨n, hb, Nat.le_add_right _ _, fun hnm => ?_⟩
        have hm : m = 0 := by omega
        rcases hcase with hc | hc
        · obtain ⟨hv, hh⟩ := hc.2.2.2 hm
          refine ⟨by show upd E.σ j v'.ownBlock j = _; rw [upd_same, hv, hob], fun u ys hu _ => ?_⟩
          subst hm
          refine ⟨hu.1, ?_⟩
          rcases hu.2 with h2 | ⟨g, cap, cur, h2, h3, h4, h5⟩
          · exact .inl h2
          · exact .inr ⟨g, cap, cur, h2, h3, by show w'.heap[g]? = _; rw [hh]; exact h4, h5⟩
        · omega
      · refine ⟨n', h1, Nat.le_refl _, fun _ => ⟨hσ hjid, fun u ys hu hub => ?_⟩⟩
        refine hu.kept hg ?_
        cases hub' : u.ownBlock with
        | none => exact .inl rfl
        | some g' =>
          refine .inr ?_
          rw [hub'] at hub
          exact hne j _ g' hjid h1 (by simp) hub.symm
    · have hjid : j ≠ id := by rintro rfl; rw [hb] at h; cases h
      exact ⟨p, by rw [List.getElem?_set_ne (fun e => hjid e.symm)]; exact h, hσ hjid⟩
  refine ⟨L, ⟨fun j y hy => ?_, fun i j x y g' hi hj hx hy hsi hsj => ?_, fun k gs hk => At.mono L _ _ (H.glob k gs hk), H.U, ?_, H.B0, hI _ _ H.I ?_⟩, rfl, ?_⟩
  · rcases getElem?_set_cases hy with ⟨rfl, rfl, _⟩ | ⟨hjid, hy'⟩
    · intro g' hg'
      exact hnb g' (by simpa [upd_same] using hg')
    · have h := H.blk j y hy'
      cases y with
      | mem t' es =>
        obtain ⟨g', c', fr', h1, h2, h3, h4, h5, h6⟩ := h
        have hgg := hne j _ g' hjid hy' (by simp) h1
        have hblk : w'.heap[g']? = E.w.heap[g']? := hg.block g' (Array.getElem?_eq_some_iff.1 h3).1 hgg
        refine ⟨g', c', fr', by show upd E.σ id _ j = _; rw [hσ hjid]; exact h1, h2, hblk.trans h3, h4, fun k hk => (World.frozen?_of_block (a := ⟨g', k, none⟩) hblk).trans (h5 k hk), fun k z hz => ?_⟩
        obtain ⟨u, k1, k2, k3⟩ := h6 k z hz
        exact ⟨u, k1, k2, Rel.mono L _ _ k3⟩
      | grow n1 sz1 e1 =>
        intro g' hg'
        have hg'' : E.σ j = some g' := by
          have : upd E.σ id v'.ownBlock j = some g' := hg'
          rwa [hσ hjid] at this
        exact ⟨(h g' hg'').1, Nat.lt_of_lt_of_le (h g' hg'').2 hsz⟩
      | dead => trivial
      | iter s p =>
        obtain ⟨g', h1, h2, h3⟩ := h
        exact ⟨g', by show upd E.σ id _ j = _; rw [hσ hjid]; exact h1, h2, (hg.block g' (Array.getElem?_eq_some_iff.1 h3).1 (hne j _ g' hjid hy' (by simp) h1)).trans h3⟩
  · have hs : ∀ {k : Nat}, k ≠ id → upd E.σ id v'.ownBlock k = some g' → E.σ k = some g' := fun hk h => by rwa [hσ hk] at h
    have hcl : ∀ {k : Nat} {z : Blk}, k ≠ id → E.h[k]? = some z → z ≠ .dead → upd E.σ id v'.ownBlock k = some g' → upd E.σ id v'.ownBlock id = some g' → k = id := by
      intro k z hk hz hzd h1 h2
      have h1' := hs hk h1
      rw [upd_same] at h2
      rcases hnewg _ h2 with h3 | h3
      · exact absurd h3.symm (hne k z g' hk hz hzd h1')
      · have := (H.lt hz hzd h1').2
        omega
    rcases getElem?_set_cases hi with ⟨rfl, rfl, _⟩ | ⟨hii, hi'⟩ <;> rcases getElem?_set_cases hj with ⟨rfl, rfl, _⟩ | ⟨hjj, hj'⟩
    · rfl
    · exact (hcl hjj hj' hy hsj hsi).symm
    · exact hcl hii hi' hx hsi hsj
    · exact H.inj _ _ _ _ g' hi' hj' hx hy (hs hii hsi) (hs hjj hsj)
  · show E.B ≤ w'.heap.size
    have := H.size
    omega
  · exact ⟨hos, htp, hout, hsz, fun k hk => hg.block k (by have := H.size; have := H.B0; omega) (fun he => by have := (hBl k he.symm).1; have := H.B0; omega)⟩
  · exact ⟨hos, htp, hout, hsz, fun k hk => hg.block k (by have := H.size; show k < E.w.heap.size; omega) (fun he => by have := (hBl k he.symm).1; omega)⟩

end
end Go.Ai

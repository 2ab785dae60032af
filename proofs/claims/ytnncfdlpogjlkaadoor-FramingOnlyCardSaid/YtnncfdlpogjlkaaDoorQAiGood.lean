/-
  What a concrete world must be with respect to an abstract heap, and the steps that keep it.
-/
import Derived.Test.YtnncfdlpogjlkaaDoorQAiRel
namespace Go.Ai
set_option linter.unusedVariables false
set_option linter.unusedSimpArgs false
set_option linter.unnecessarySimpa false
open Go.RowKit

def BlkOk (E : Env) (id : Nat) : Blk → Prop
  | .mem t cs => ∃ g c fr, E.σ id = some g ∧ E.B ≤ g ∧ E.w.heap[g]? = some (.cells c t fr) ∧ cs.length ≤ c.size ∧
      (∀ j, j < cs.length → E.w.frozen? ⟨g, j, none⟩ = false) ∧ ∀ (j : Nat) x, cs[j]? = some x → ∃ v, c[j]? = some v ∧ v.oneCell' = true ∧ Rel E x v
  | .grow _ _ _ => ∀ g, E.σ id = some g → E.B ≤ g ∧ g < E.w.heap.size
  | .dead => True
  | .iter s p => ∃ g, E.σ id = some g ∧ E.B ≤ g ∧ E.w.heap[g]? = some (.stringIter ⟨s.toArray⟩ p)

structure Good (G : Nat → Option (List AV)) (I : World → Prop) (B0 : Nat) (E : Env) : Prop where
  blk : ∀ (id : Nat) x, E.h[id]? = some x → BlkOk E id x
  inj : ∀ (i j : Nat) x y g, E.h[i]? = some x → E.h[j]? = some y → x ≠ .dead → y ≠ .dead → E.σ i = some g → E.σ j = some g → i = j
  glob : ∀ g cs, G g = some cs → At E cs ⟨g, 0, none⟩
  U : ∀ b o, E.U b o → b < E.B
  size : E.B ≤ E.w.heap.size
  B0 : B0 ≤ E.B
  I : I E.w

section
variable {G : Nat → Option (List AV)} {I : World → Prop} {B0 : Nat} {E : Env}

theorem Good.lt (H : Good G I B0 E) {id : Nat} {x : Blk} (hx : E.h[id]? = some x) (hd : x ≠ .dead) {g : Nat} (hs : E.σ id = some g) : E.B ≤ g ∧ g < E.w.heap.size := by
  have h := H.blk id x hx
  cases x with
  | mem t cs =>
    obtain ⟨g', c, fr, h1, h2, h3, _⟩ := h
    rw [hs] at h1
    injection h1 with h1
    subst h1
    exact ⟨h2, (Array.getElem?_eq_some_iff.1 h3).1⟩
  | grow n sz e => exact h g hs
  | dead => exact absurd rfl hd
  | iter s p =>
    obtain ⟨g', h1, h2, h3⟩ := h
    rw [hs] at h1
    injection h1 with h1
    subst h1
    exact ⟨h2, (Array.getElem?_eq_some_iff.1 h3).1⟩

/-- What a step owes. -/
structure Step (G : Nat → Option (List AV)) (I : World → Prop) (B0 : Nat) (E E' : Env) : Prop where
  le : Le E E'
  good : Good G I B0 E'
  U : E'.U = E.U
  below : Below E.B E.w E'.w

theorem Step.refl (H : Good G I B0 E) : Step G I B0 E E := ⟨Le.refl E, H, rfl, Below.refl _ _⟩
theorem Step.trans {E1 E2 E3 : Env} (S : Step G I B0 E1 E2) (T : Step G I B0 E2 E3) : Step G I B0 E1 E3 :=
  ⟨S.le.trans T.le, T.good, T.U.trans S.U, S.below.trans (by have := T.below; rw [S.le.B] at this; exact this)⟩

/-- The world's heap is as it was. -/
theorem step_same (hI : ∀ w w', I w → Below B0 w w' → I w') (H : Good G I B0 E) {w' : World} (hw : Below E.B E.w w') (hh : w'.heap = E.w.heap) : Step G I B0 E { E with w := w' } := by
  have hc : ∀ a, w'.cell? a = E.w.cell? a := fun a => by simp [World.cell?, hh]
  have hf : ∀ a, w'.frozen? a = E.w.frozen? a := fun a => by simp [World.frozen?, hh]
  have L : Le E { E with w := w' } := by
    refine ⟨rfl, fun a v h s => ⟨(hc a).trans h, s⟩, Nat.le_refl _, fun _ _ cs h => ⟨cs, h, rfl, rfl⟩, fun _ n _ _ _ h => ⟨n, h, Nat.le_refl _, fun _ => ⟨rfl, fun v xs h _ => ?_⟩⟩, fun _ _ p h => ⟨p, h, rfl⟩⟩
    refine ⟨h.1, ?_⟩
    rcases h.2 with h2 | ⟨g, cap, cur, h2, h3, h4, h5⟩
    · exact .inl h2
    · exact .inr ⟨g, cap, cur, h2, h3, by rw [hh]; exact h4, h5⟩
  refine ⟨L, ⟨fun id x hx => ?_, H.inj, fun g cs hg => At.mono L _ _ (H.glob g cs hg), H.U, by show E.B ≤ w'.heap.size; rw [hh]; exact H.size, H.B0, hI _ _ H.I (hw.mono H.B0)⟩, rfl, hw⟩
  have h := H.blk id x hx
  cases x with
  | mem t cs =>
    obtain ⟨g, c, fr, h1, h2, h3, h4, h5, h6⟩ := h
    refine ⟨g, c, fr, h1, h2, by rw [hh]; exact h3, h4, fun j hj => (hf _).trans (h5 j hj), fun j y hy => ?_⟩
    obtain ⟨v, k1, k2, k3⟩ := h6 j y hy
    exact ⟨v, k1, k2, Rel.mono L _ _ k3⟩
  | grow n sz e =>
    intro g hg
    show E.B ≤ g ∧ g < w'.heap.size
    rw [hh]
    exact h g hg
  | dead => trivial
  | iter s p =>
    obtain ⟨g, h1, h2, h3⟩ := h
    exact ⟨g, h1, h2, by rw [hh]; exact h3⟩

def upd (σ : Nat → Option Nat) (i : Nat) (v : Option Nat) : Nat → Option Nat := fun j => if j = i then v else σ j

theorem upd_same (σ : Nat → Option Nat) (i : Nat) (v : Option Nat) : upd σ i v i = v := by simp [upd]
theorem upd_other {σ : Nat → Option Nat} {i j : Nat} {v : Option Nat} (h : j ≠ i) : upd σ i v j = σ j := by simp [upd, h]

/-- A world that has only grown, and one new abstract block. -/
theorem le_push {w' : World} {x : Blk} {o : Option Nat} (H : Good G I B0 E) (hw : Below E.w.heap.size E.w w') (ho : ∀ g, o = some g → E.w.heap.size ≤ g) :
    Le E { E with w := w', σ := upd E.σ E.h.length o, h := E.h ++ [x] } := by
  have hold : ∀ (id : Nat) y, id < E.h.length → (E.h ++ [x])[id]? = some y → E.h[id]? = some y := fun id y hi hy => by
    rwa [List.getElem?_append_left hi] at hy
  refine ⟨rfl, fun a v h s => ?_, by simp, fun id _ cs h => ⟨cs, by rw [List.getElem?_append_left (List.getElem?_eq_some_iff.1 h).1]; exact h, rfl, upd_other (by have := (List.getElem?_eq_some_iff.1 h).1; omega)⟩, fun id n sz e hi h => ⟨n, hold id _ hi h, Nat.le_refl _, fun _ => ⟨upd_other (by omega), fun v xs hv _ => ?_⟩⟩,
    fun id _ p h => ⟨p, by rw [List.getElem?_append_left (List.getElem?_eq_some_iff.1 h).1]; exact h, upd_other (by have := (List.getElem?_eq_some_iff.1 h).1; omega)⟩⟩
  · have hlt := World.block_lt_of_cell? E.w a h
    refine ⟨(hw.cell hlt).trans h, s.1, fun id y hy hs => ?_⟩
    by_cases hid : id < E.h.length
    · exact s.2 id y (hold id y hid hy) (by simpa [upd_other (show id ≠ E.h.length by omega)] using hs)
    · have hidl : id = E.h.length := by
        have := (List.getElem?_eq_some_iff.1 hy).1
        simp at this
        omega
      subst hidl
      have hs' : o = some a.block := by simpa [upd_same] using hs
      have := ho _ hs'
      omega
  · refine ⟨hv.1, ?_⟩
    rcases hv.2 with h2 | ⟨g, cap, cur, h2, h3, h4, h5⟩
    · exact .inl h2
    · exact .inr ⟨g, cap, cur, h2, h3, (hw.block g (Array.getElem?_eq_some_iff.1 h4).1).trans h4, h5⟩

/-- A new block of cells. -/
theorem step_mem (hI : ∀ w w', I w → Below B0 w w' → I w') (H : Good G I B0 E) {w' : World} {cs : List AV} {c : Array Value} {t : TypeId} {fr : Nat × Nat}
    (hw : Below E.w.heap.size E.w w') (hnew : w'.heap[E.w.heap.size]? = some (.cells c t fr)) (hlen : cs.length ≤ c.size)
    (hfr : ∀ j, j < cs.length → w'.frozen? ⟨E.w.heap.size, j, none⟩ = false)
    (hcs : ∀ (j : Nat) x, cs[j]? = some x → ∃ v, c[j]? = some v ∧ v.oneCell' = true ∧ Rel E x v) :
    Step G I B0 E { E with w := w', σ := upd E.σ E.h.length (some E.w.heap.size), h := E.h ++ [.mem t cs] } := by
  have hsz : E.w.heap.size < w'.heap.size := (Array.getElem?_eq_some_iff.1 hnew).1
  have L := le_push (x := .mem t cs) (o := some E.w.heap.size) H hw (fun g hg => by injection hg with hg; omega)
  have hold : ∀ (id : Nat) y, id < E.h.length → (E.h ++ [Blk.mem t cs])[id]? = some y → E.h[id]? = some y := fun id y hi hy => by
    rwa [List.getElem?_append_left hi] at hy
  have hcase : ∀ (id : Nat) y, (E.h ++ [Blk.mem t cs])[id]? = some y → (id < E.h.length ∧ E.h[id]? = some y) ∨ (id = E.h.length ∧ y = .mem t cs) := by
    intro id y hy
    by_cases hid : id < E.h.length
    · exact .inl ⟨hid, hold id y hid hy⟩
    · have hidl : id = E.h.length := by
        have := (List.getElem?_eq_some_iff.1 hy).1
        simp at this
        omega
      subst hidl
      simp at hy
      exact .inr ⟨rfl, hy.symm⟩
  refine ⟨L, ⟨fun id y hy => ?_, ?_, fun g gs hg => At.mono L _ _ (H.glob g gs hg), H.U, ?_, H.B0, hI _ _ H.I (hw.mono (Nat.le_trans H.B0 H.size))⟩, rfl, hw.mono H.size⟩
  · rcases hcase id y hy with ⟨hid, hy'⟩ | ⟨rfl, rfl⟩
    · have h := H.blk id y hy'
      cases y with
      | mem t' ds =>
        obtain ⟨g, d, fr', h1, h2, h3, h4, h5, h6⟩ := h
        have hg := (Array.getElem?_eq_some_iff.1 h3).1
        refine ⟨g, d, fr', by show upd E.σ E.h.length _ id = _; rw [upd_other (by omega)]; exact h1, h2, (hw.block g hg).trans h3, h4, fun j hj => (hw.frozen (p := ⟨g, j, none⟩) hg).trans (h5 j hj), fun j z hz => ?_⟩
        obtain ⟨v, k1, k2, k3⟩ := h6 j z hz
        exact ⟨v, k1, k2, Rel.mono L _ _ k3⟩
      | grow n sz e =>
        intro g hg
        have hg' : E.σ id = some g := by
          have : upd E.σ E.h.length (some E.w.heap.size) id = some g := hg
          rwa [upd_other (by omega)] at this
        exact ⟨(h g hg').1, Nat.lt_of_lt_of_le (h g hg').2 hw.size⟩
      | dead => trivial
      | iter s p =>
        obtain ⟨g, h1, h2, h3⟩ := h
        exact ⟨g, by show upd E.σ E.h.length _ id = _; rw [upd_other (by omega)]; exact h1, h2, (hw.block g (Array.getElem?_eq_some_iff.1 h3).1).trans h3⟩
    · refine ⟨E.w.heap.size, c, fr, upd_same _ _ _, H.size, hnew, hlen, hfr, fun j z hz => ?_⟩
      obtain ⟨v, k1, k2, k3⟩ := hcs j z hz
      exact ⟨v, k1, k2, Rel.mono L _ _ k3⟩
  · intro i j x y g hi hj hx hy hsi hsj
    rcases hcase i x hi with ⟨hil, hi'⟩ | ⟨rfl, rfl⟩ <;> rcases hcase j y hj with ⟨hjl, hj'⟩ | ⟨rfl, rfl⟩
    · have hsi' : E.σ i = some g := by
        have : upd E.σ E.h.length (some E.w.heap.size) i = some g := hsi
        rwa [upd_other (by omega)] at this
      have hsj' : E.σ j = some g := by
        have : upd E.σ E.h.length (some E.w.heap.size) j = some g := hsj
        rwa [upd_other (by omega)] at this
      exact H.inj i j x y g hi' hj' hx hy hsi' hsj'
    · have hsi' : E.σ i = some g := by
        have : upd E.σ E.h.length (some E.w.heap.size) i = some g := hsi
        rwa [upd_other (by omega)] at this
      have := (H.lt hi' hx hsi').2
      have hg : E.w.heap.size = g := by
        have : upd E.σ E.h.length (some E.w.heap.size) E.h.length = some g := hsj
        rw [upd_same] at this
        injection this
      omega
    · have hsj' : E.σ j = some g := by
        have : upd E.σ E.h.length (some E.w.heap.size) j = some g := hsj
        rwa [upd_other (by omega)] at this
      have := (H.lt hj' hy hsj').2
      have hg : E.w.heap.size = g := by
        have : upd E.σ E.h.length (some E.w.heap.size) E.h.length = some g := hsi
        rw [upd_same] at this
        injection this
      omega
    · rfl
  · show E.B ≤ w'.heap.size
    have := H.size
    omega

/-- A new walk along a string. -/
theorem step_iter (hI : ∀ w w', I w → Below B0 w w' → I w') (H : Good G I B0 E) {w' : World} {s : List UInt8} {p : Nat}
    (hw : Below E.w.heap.size E.w w') (hnew : w'.heap[E.w.heap.size]? = some (.stringIter ⟨s.toArray⟩ p)) :
    Step G I B0 E { E with w := w', σ := upd E.σ E.h.length (some E.w.heap.size), h := E.h ++ [.iter s p] } := by
  have hsz : E.w.heap.size < w'.heap.size := (Array.getElem?_eq_some_iff.1 hnew).1
  have L := le_push (x := .iter s p) (o := some E.w.heap.size) H hw (fun g hg => by injection hg with hg; omega)
  have hold : ∀ (id : Nat) y, id < E.h.length → (E.h ++ [Blk.iter s p])[id]? = some y → E.h[id]? = some y := fun id y hi hy => by
    rwa [List.getElem?_append_left hi] at hy
  have hcase : ∀ (id : Nat) y, (E.h ++ [Blk.iter s p])[id]? = some y → (id < E.h.length ∧ E.h[id]? = some y) ∨ (id = E.h.length ∧ y = .iter s p) := by
    intro id y hy
    by_cases hid : id < E.h.length
    · exact .inl ⟨hid, hold id y hid hy⟩
    · have hidl : id = E.h.length := by
        have := (List.getElem?_eq_some_iff.1 hy).1
        simp at this
        omega
      subst hidl
      simp at hy
      exact .inr ⟨rfl, hy.symm⟩
  have hσ : ∀ {id : Nat} {g : Nat}, id < E.h.length → upd E.σ E.h.length (some E.w.heap.size) id = some g → E.σ id = some g := fun hi h => by
    rwa [upd_other (by omega)] at h
  have hnewσ : ∀ {g : Nat}, upd E.σ E.h.length (some E.w.heap.size) E.h.length = some g → E.w.heap.size = g := fun h => by
    rw [upd_same] at h
    injection h
  refine ⟨L, ⟨fun id y hy => ?_, ?_, fun g gs hg => At.mono L _ _ (H.glob g gs hg), H.U, ?_, H.B0, hI _ _ H.I (hw.mono (Nat.le_trans H.B0 H.size))⟩, rfl, hw.mono H.size⟩
  · rcases hcase id y hy with ⟨hid, hy'⟩ | ⟨rfl, rfl⟩
    · have h := H.blk id y hy'
      cases y with
      | mem t' ds =>
        obtain ⟨g, d, fr', h1, h2, h3, h4, h5, h6⟩ := h
        have hg := (Array.getElem?_eq_some_iff.1 h3).1
        refine ⟨g, d, fr', by show upd E.σ E.h.length _ id = _; rw [upd_other (by omega)]; exact h1, h2, (hw.block g hg).trans h3, h4, fun j hj => (hw.frozen (p := ⟨g, j, none⟩) hg).trans (h5 j hj), fun j z hz => ?_⟩
        obtain ⟨v, k1, k2, k3⟩ := h6 j z hz
        exact ⟨v, k1, k2, Rel.mono L _ _ k3⟩
      | grow n sz e =>
        intro g hg
        have hg' := hσ hid hg
        exact ⟨(h g hg').1, Nat.lt_of_lt_of_le (h g hg').2 hw.size⟩
      | dead => trivial
      | iter s p =>
        obtain ⟨g, h1, h2, h3⟩ := h
        exact ⟨g, by show upd E.σ E.h.length _ id = _; rw [upd_other (by omega)]; exact h1, h2, (hw.block g (Array.getElem?_eq_some_iff.1 h3).1).trans h3⟩
    · exact ⟨E.w.heap.size, upd_same _ _ _, H.size, hnew⟩
  · intro i j x y g hi hj hx hy hsi hsj
    rcases hcase i x hi with ⟨hil, hi'⟩ | ⟨rfl, rfl⟩ <;> rcases hcase j y hj with ⟨hjl, hj'⟩ | ⟨rfl, rfl⟩
    · exact H.inj i j x y g hi' hj' hx hy (hσ hil hsi) (hσ hjl hsj)
    · have := (H.lt hi' hx (hσ hil hsi)).2
      have := hnewσ hsj
      omega
    · have := (H.lt hj' hy (hσ hjl hsj)).2
      have := hnewσ hsi
      omega
    · rfl
  · show E.B ≤ w'.heap.size
    have := H.size
    omega

/-- A new lineage; its first block, if it has one, is the world's newest. -/
theorem step_grow (hI : ∀ w w', I w → Below B0 w w' → I w') (H : Good G I B0 E) {w' : World} {n sz : Nat} {e : TypeId} {o : Option Nat}
    (hw : Below E.w.heap.size E.w w') (ho : ∀ g, o = some g → E.w.heap.size ≤ g ∧ g < w'.heap.size) :
    Step G I B0 E { E with w := w', σ := upd E.σ E.h.length o, h := E.h ++ [.grow n sz e] } := by
  have L := le_push (x := .grow n sz e) (o := o) H hw (fun g hg => (ho g hg).1)
  have hold : ∀ (id : Nat) y, id < E.h.length → (E.h ++ [Blk.grow n sz e])[id]? = some y → E.h[id]? = some y := fun id y hi hy => by
    rwa [List.getElem?_append_left hi] at hy
  have hcase : ∀ (id : Nat) y, (E.h ++ [Blk.grow n sz e])[id]? = some y → (id < E.h.length ∧ E.h[id]? = some y) ∨ (id = E.h.length ∧ y = .grow n sz e) := by
    intro id y hy
    by_cases hid : id < E.h.length
    · exact .inl ⟨hid, hold id y hid hy⟩
    · have hidl : id = E.h.length := by
        have := (List.getElem?_eq_some_iff.1 hy).1
        simp at this
        omega
      subst hidl
      simp at hy
      exact .inr ⟨rfl, hy.symm⟩
  have hσ : ∀ {id : Nat} {g : Nat}, id < E.h.length → upd E.σ E.h.length o id = some g → E.σ id = some g := fun hi h => by
    rwa [upd_other (by omega)] at h
  have hnewσ : ∀ {g : Nat}, upd E.σ E.h.length o E.h.length = some g → o = some g := fun h => by rwa [upd_same] at h
  refine ⟨L, ⟨fun id y hy => ?_, ?_, fun g gs hg => At.mono L _ _ (H.glob g gs hg), H.U, ?_, H.B0, hI _ _ H.I (hw.mono (Nat.le_trans H.B0 H.size))⟩, rfl, hw.mono H.size⟩
  · rcases hcase id y hy with ⟨hid, hy'⟩ | ⟨rfl, rfl⟩
    · have h := H.blk id y hy'
      cases y with
      | mem t' ds =>
        obtain ⟨g, d, fr', h1, h2, h3, h4, h5, h6⟩ := h
        have hg := (Array.getElem?_eq_some_iff.1 h3).1
        refine ⟨g, d, fr', by show upd E.σ E.h.length _ id = _; rw [upd_other (by omega)]; exact h1, h2, (hw.block g hg).trans h3, h4, fun j hj => (hw.frozen (p := ⟨g, j, none⟩) hg).trans (h5 j hj), fun j z hz => ?_⟩
        obtain ⟨v, k1, k2, k3⟩ := h6 j z hz
        exact ⟨v, k1, k2, Rel.mono L _ _ k3⟩
      | grow n sz e =>
        intro g hg
        have hg' := hσ hid hg
        exact ⟨(h g hg').1, Nat.lt_of_lt_of_le (h g hg').2 hw.size⟩
      | dead => trivial
      | iter s p =>
        obtain ⟨g, h1, h2, h3⟩ := h
        exact ⟨g, by show upd E.σ E.h.length _ id = _; rw [upd_other (by omega)]; exact h1, h2, (hw.block g (Array.getElem?_eq_some_iff.1 h3).1).trans h3⟩
    · intro g hg
      have := ho g (hnewσ hg)
      have hs := H.size
      exact ⟨by show E.B ≤ g; omega, this.2⟩
  · intro i j x y g hi hj hx hy hsi hsj
    rcases hcase i x hi with ⟨hil, hi'⟩ | ⟨rfl, rfl⟩ <;> rcases hcase j y hj with ⟨hjl, hj'⟩ | ⟨rfl, rfl⟩
    · exact H.inj i j x y g hi' hj' hx hy (hσ hil hsi) (hσ hjl hsj)
    · have := (H.lt hi' hx (hσ hil hsi)).2
      have := (ho g (hnewσ hsj)).1
      omega
    · have := (H.lt hj' hy (hσ hjl hsj)).2
      have := (ho g (hnewσ hsi)).1
      omega
    · rfl
  · show E.B ≤ w'.heap.size
    have := H.size
    have := hw.size
    omega

end
end Go.Ai

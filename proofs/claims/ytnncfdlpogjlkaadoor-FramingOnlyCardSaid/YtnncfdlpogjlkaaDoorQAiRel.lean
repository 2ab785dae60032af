/-
  The relation between abstract and concrete values, and that it is kept while the world grows.
-/
import Derived.Test.YtnncfdlpogjlkaaDoorQAiDefs
namespace Go.Ai
set_option linter.unusedVariables false
set_option linter.unusedSimpArgs false
set_option linter.unnecessarySimpa false
open Go.RowKit

theorem add_add' (a : Addr) (i j : Nat) : (a.add i).add j = a.add (i + j) := by
  unfold Addr.add
  by_cases hi : i = 0 <;> by_cases hj : j = 0 <;> simp [hi, hj, Nat.add_assoc]
theorem add_block (a : Addr) (i : Nat) : (a.add i).block = a.block := by unfold Addr.add; split <;> rfl
theorem add_off (a : Addr) (i : Nat) : (a.add i).off = a.off + i := by unfold Addr.add; split <;> simp_all

structure Env where
  B : Nat
  U : Nat → Nat → Prop
  w : World
  σ : Nat → Option Nat
  h : Hp

def Stable (E : Env) (b o : Nat) : Prop :=
  ¬E.U b o ∧ ∀ (id : Nat) (x : Blk), E.h[id]? = some x → E.σ id = some b → x = .dead ∨ ∃ n sz e, x = .grow n sz e ∧ o < n * sz

def TagOk (E : Env) (sz len : Nat) (v : Value) : Option Nat → Prop
  | none => True
  | some id => id < E.h.length ∧ ∀ n sz' e, E.h[id]? = some (.grow n sz' e) → len ≤ n ∧ (len = n → (0 < len → sz' = sz) ∧ (∃ xs, E.w.ownsRow E.B e sz' v n xs) ∧ v.ownBlock = E.σ id)

mutual
def Rel (E : Env) : AV → Value → Prop
  | .top, _ => True
  | .bool b, v => v = .bool b
  | .int k n, v => v = .int k n
  | .str s, v => v = .string ⟨s.toArray⟩
  | .nilp, v => v = .pointer none
  | .ptr b o, v => ∃ t cs g, E.h[b]? = some (.mem t cs) ∧ E.σ b = some g ∧ v = .pointer (some ⟨g, o, none⟩)
  | .ro cs, v => ∃ a, v = .pointer (some a) ∧ At E cs a
  | .sl sz es own, v => (∃ A cap, v = .slice A es.length cap ∧ es.length ≤ cap ∧ cap ≤ maxLen ∧ (∀ e ∈ es, e.length = sz) ∧ (es ≠ [] → ∃ a, A = some a ∧ Rows E es a)) ∧ TagOk E sz es.length v own
  | .osl b off len sz, v => ∃ t cs g cap, E.h[b]? = some (.mem t cs) ∧ E.σ b = some g ∧ v = .slice (some ⟨g, off, none⟩) len cap ∧ len ≤ cap ∧ cap ≤ maxLen ∧ off + len * sz ≤ cs.length
  | .fn f first cap, v => ∃ a b, v = .func f a b ∧ Rels E first a.toList ∧ Rels E cap b.toList
  | .nilf, v => v = .nilFunc
  | .iface t x, v => ∃ y, v = .iface t y ∧ Rel E x y
  | .nili, v => v = .nilIface
  | .agg cs, v => ∃ a, v = .agg a ∧ Rels1 E cs a.toList
  | .tup cs, v => ∃ a, v = .tuple a ∧ Rels E cs a.toList
  | .itr b, v => ∃ s p g, E.h[b]? = some (.iter s p) ∧ E.σ b = some g ∧ v = .pointer (some ⟨g, 0, none⟩)
  | .dfr _, _ => True
def Rels (E : Env) : List AV → List Value → Prop
  | [], vs => vs = []
  | c :: cs, vs => ∃ v r, vs = v :: r ∧ Rel E c v ∧ Rels E cs r
def Rels1 (E : Env) : List AV → List Value → Prop
  | [], vs => vs = []
  | c :: cs, vs => ∃ v r, vs = v :: r ∧ v.oneCell' = true ∧ Rel E c v ∧ Rels1 E cs r
def At (E : Env) : List AV → Addr → Prop
  | [], _ => True
  | c :: cs, a => (∃ v, E.w.cell? a = some v ∧ v.oneCell' = true ∧ Stable E a.block a.off ∧ Rel E c v) ∧ At E cs (a.add 1)
def Rows (E : Env) : List (List AV) → Addr → Prop
  | [], _ => True
  | e :: es, a => At E e a ∧ Rows E es (a.add e.length)
end

/-- How an environment may go over into another one of the same call. -/
structure Le (E E' : Env) : Prop where
  B : E'.B = E.B
  cells : ∀ a v, E.w.cell? a = some v → Stable E a.block a.off → E'.w.cell? a = some v ∧ Stable E' a.block a.off
  len : E.h.length ≤ E'.h.length
  mem : ∀ (id : Nat) t cs, E.h[id]? = some (.mem t cs) → ∃ cs', E'.h[id]? = some (.mem t cs') ∧ cs'.length = cs.length ∧ E'.σ id = E.σ id
  grow : ∀ (id : Nat) n sz e, id < E.h.length → E'.h[id]? = some (.grow n sz e) → ∃ n0, E.h[id]? = some (.grow n0 sz e) ∧ n0 ≤ n ∧
    (n0 = n → E'.σ id = E.σ id ∧ ∀ v xs, E.w.ownsRow E.B e sz v n xs → v.ownBlock = E.σ id → E'.w.ownsRow E.B e sz v n xs)
  iter : ∀ (id : Nat) s p, E.h[id]? = some (.iter s p) → ∃ p', E'.h[id]? = some (.iter s p') ∧ E'.σ id = E.σ id

theorem TagOk.mono {E E' : Env} (L : Le E E') {sz len : Nat} {v : Value} {own : Option Nat} (h : TagOk E sz len v own) : TagOk E' sz len v own := by
  cases own with
  | none => trivial
  | some id =>
    obtain ⟨h1, h2⟩ := h
    refine ⟨Nat.lt_of_lt_of_le h1 L.len, fun n sz' e hg => ?_⟩
    obtain ⟨n0, hg0, hle, hsame⟩ := L.grow id n sz' e h1 hg
    obtain ⟨k1, k2⟩ := h2 n0 sz' e hg0
    refine ⟨Nat.le_trans k1 hle, fun hn => ?_⟩
    have hn0 : n0 = n := by omega
    obtain ⟨hs, ho⟩ := hsame hn0
    obtain ⟨q1, ⟨xs, q2⟩, q3⟩ := k2 (by omega)
    subst hn0
    refine ⟨q1, ⟨xs, ?_⟩, q3.trans hs.symm⟩
    rw [L.B]
    exact ho v xs q2 q3

mutual
theorem Rel.mono {E E' : Env} (L : Le E E') : ∀ (x : AV) (v : Value), Rel E x v → Rel E' x v
  | .top, _, _ => trivial
  | .dfr _, _, _ => trivial
  | .bool _, _, h => h
  | .int _ _, _, h => h
  | .str _, _, h => h
  | .nilp, _, h => h
  | .ptr b o, v, h => by
    obtain ⟨t, cs, g, h1, h2, h3⟩ := h
    obtain ⟨cs', k1, _, k3⟩ := L.mem b t cs h1
    exact ⟨t, cs', g, k1, k3.trans h2, h3⟩
  | .ro cs, v, h => by
    obtain ⟨a, h1, h2⟩ := h
    exact ⟨a, h1, At.mono L cs a h2⟩
  | .sl sz es own, v, h => by
    obtain ⟨⟨A, cap, h1, h2, h3, h4, h5⟩, ht⟩ := h
    refine ⟨⟨A, cap, h1, h2, h3, h4, fun hne => ?_⟩, ht.mono L⟩
    obtain ⟨a, ha, hr⟩ := h5 hne
    exact ⟨a, ha, Rows.mono L es a hr⟩
  | .osl b off len sz, v, h => by
    obtain ⟨t, cs, g, cap, h1, h2, h3, h4, h5, h6⟩ := h
    obtain ⟨cs', k1, k2, k3⟩ := L.mem b t cs h1
    exact ⟨t, cs', g, cap, k1, k3.trans h2, h3, h4, h5, by rw [k2]; exact h6⟩
  | .fn f first cap, v, h => by
    obtain ⟨a, b, h1, h2, h3⟩ := h
    exact ⟨a, b, h1, Rels.mono L first _ h2, Rels.mono L cap _ h3⟩
  | .nilf, _, h => h
  | .iface t x, v, h => by
    obtain ⟨y, h1, h2⟩ := h
    exact ⟨y, h1, Rel.mono L x y h2⟩
  | .nili, _, h => h
  | .agg cs, v, h => by
    obtain ⟨a, h1, h2⟩ := h
    exact ⟨a, h1, Rels1.mono L cs _ h2⟩
  | .tup cs, v, h => by
    obtain ⟨a, h1, h2⟩ := h
    exact ⟨a, h1, Rels.mono L cs _ h2⟩
  | .itr b, v, h => by
    obtain ⟨s, p, g, h1, h2, h3⟩ := h
    obtain ⟨p', k1, k2⟩ := L.iter b s p h1
    exact ⟨s, p', g, k1, k2.trans h2, h3⟩
theorem Rels.mono {E E' : Env} (L : Le E E') : ∀ (xs : List AV) (vs : List Value), Rels E xs vs → Rels E' xs vs
  | [], _, h => h
  | c :: cs, vs, h => by
    obtain ⟨v, r, h1, h2, h3⟩ := h
    exact ⟨v, r, h1, Rel.mono L c v h2, Rels.mono L cs r h3⟩
theorem Rels1.mono {E E' : Env} (L : Le E E') : ∀ (xs : List AV) (vs : List Value), Rels1 E xs vs → Rels1 E' xs vs
  | [], _, h => h
  | c :: cs, vs, h => by
    obtain ⟨v, r, h1, h0, h2, h3⟩ := h
    exact ⟨v, r, h1, h0, Rel.mono L c v h2, Rels1.mono L cs r h3⟩
theorem At.mono {E E' : Env} (L : Le E E') : ∀ (xs : List AV) (a : Addr), At E xs a → At E' xs a
  | [], _, _ => trivial
  | c :: cs, a, h => by
    obtain ⟨⟨v, h1, h2, h3, h4⟩, h5⟩ := h
    obtain ⟨k1, k2⟩ := L.cells a v h1 h3
    exact ⟨⟨v, k1, h2, k2, Rel.mono L c v h4⟩, At.mono L cs _ h5⟩
theorem Rows.mono {E E' : Env} (L : Le E E') : ∀ (xs : List (List AV)) (a : Addr), Rows E xs a → Rows E' xs a
  | [], _, _ => trivial
  | e :: es, a, h => ⟨At.mono L e a h.1, Rows.mono L es _ h.2⟩
end

theorem Le.refl (E : Env) : Le E E :=
  ⟨rfl, fun _ _ h s => ⟨h, s⟩, Nat.le_refl _, fun _ _ cs h => ⟨cs, h, rfl, rfl⟩, fun _ n _ _ _ h => ⟨n, h, Nat.le_refl _, fun _ => ⟨rfl, fun _ _ h _ => h⟩⟩, fun _ _ p h => ⟨p, h, rfl⟩⟩

theorem Le.trans {E E' E'' : Env} (L : Le E E') (M : Le E' E'') : Le E E'' := by
  refine ⟨M.B.trans L.B, fun a v h s => ?_, Nat.le_trans L.len M.len, fun id t cs h => ?_, fun id n sz e hi h => ?_, fun id s p h => ?_⟩
  · obtain ⟨h1, s1⟩ := L.cells a v h s
    exact M.cells a v h1 s1
  · obtain ⟨cs1, h1, l1, s1⟩ := L.mem id t cs h
    obtain ⟨cs2, h2, l2, s2⟩ := M.mem id t cs1 h1
    exact ⟨cs2, h2, l2.trans l1, s2.trans s1⟩
  · obtain ⟨n1, h1, le1, k1⟩ := M.grow id n sz e (Nat.lt_of_lt_of_le hi L.len) h
    obtain ⟨n0, h0, le0, k0⟩ := L.grow id n1 sz e hi h1
    refine ⟨n0, h0, Nat.le_trans le0 le1, fun hn => ?_⟩
    have hn1 : n1 = n := by omega
    obtain ⟨s1, o1⟩ := k1 hn1
    obtain ⟨s0, o0⟩ := k0 (by omega)
    subst hn1
    refine ⟨s1.trans s0, fun v xs hw hb => ?_⟩
    have := o0 v xs hw hb
    rw [← L.B]
    exact o1 v xs (by rw [L.B]; exact this) (hb.trans s0.symm)
  · obtain ⟨p1, h1, s1⟩ := L.iter id s p h
    obtain ⟨p2, h2, s2⟩ := M.iter id s p1 h1
    exact ⟨p2, h2, s2.trans s1⟩

/-- A run of cells, read by its places. -/
theorem At.iff {E : Env} : ∀ {xs : List AV} {a : Addr}, At E xs a ↔ ∀ (j : Nat) c, xs[j]? = some c → ∃ v, E.w.cell? (a.add j) = some v ∧ v.oneCell' = true ∧ Stable E a.block (a.off + j) ∧ Rel E c v
  | [], a => by simp [At]
  | c :: cs, a => by
    rw [At, At.iff]
    constructor
    · rintro ⟨⟨v, h1, h2, h3, h4⟩, h5⟩ j x hj
      cases j with
      | zero =>
        simp only [List.getElem?_cons_zero, Option.some.injEq] at hj
        subst hj
        exact ⟨v, by simpa [Addr.add] using h1, h2, h3, h4⟩
      | succ j =>
        obtain ⟨v, k1, k2, k3, k4⟩ := h5 j x (by simpa using hj)
        rw [add_add'] at k1
        rw [add_block, add_off] at k3
        exact ⟨v, by rw [Nat.add_comm j 1]; exact k1, k2, by rw [show a.off + (j + 1) = a.off + 1 + j by omega]; exact k3, k4⟩
    · intro h
      refine ⟨?_, fun j x hj => ?_⟩
      · obtain ⟨v, k1, k2, k3, k4⟩ := h 0 c rfl
        exact ⟨v, by simpa [Addr.add] using k1, k2, k3, k4⟩
      · obtain ⟨v, k1, k2, k3, k4⟩ := h (j + 1) x (by simpa using hj)
        refine ⟨v, ?_, k2, ?_, k4⟩
        · rw [add_add', Nat.add_comm 1 j]; exact k1
        · rw [add_block, add_off, show a.off + 1 + j = a.off + (j + 1) by omega]; exact k3

theorem At.append {E : Env} {xs ys : List AV} {a : Addr} : At E (xs ++ ys) a ↔ At E xs a ∧ At E ys (a.add xs.length) := by
  induction xs generalizing a with
  | nil => simp [At, Addr.add]
  | cons c cs ih =>
    simp only [List.cons_append, At, ih, List.length_cons, and_assoc]
    rw [add_add', Nat.add_comm 1]

theorem Rows.iff {E : Env} : ∀ {es : List (List AV)} {a : Addr}, Rows E es a ↔ At E es.flatten a
  | [], a => by simp [Rows, At]
  | e :: es, a => by rw [Rows, Rows.iff, List.flatten_cons, At.append]

theorem Rels1.iff {E : Env} : ∀ {xs : List AV} {vs : List Value}, Rels1 E xs vs ↔ vs.length = xs.length ∧ ∀ (j : Nat) (c : AV) (v : Value), xs[j]? = some c → vs[j]? = some v → v.oneCell' = true ∧ Rel E c v
  | [], vs => by simp [Rels1]
  | c :: cs, vs => by
    rw [Rels1]
    constructor
    · rintro ⟨v, r, rfl, h1, h2, h3⟩
      rw [Rels1.iff] at h3
      refine ⟨by simp [h3.1], fun j x y hx hy => ?_⟩
      cases j with
      | zero =>
        simp only [List.getElem?_cons_zero, Option.some.injEq] at hx hy
        subst hx; subst hy
        exact ⟨h1, h2⟩
      | succ j => exact h3.2 j x y (by simpa using hx) (by simpa using hy)
    · rintro ⟨hl, h⟩
      cases vs with
      | nil => simp at hl
      | cons v r =>
        obtain ⟨h1, h2⟩ := h 0 c v rfl rfl
        refine ⟨v, r, rfl, h1, h2, ?_⟩
        rw [Rels1.iff]
        exact ⟨by simpa using hl, fun j x y hx hy => h (j + 1) x y (by simpa using hx) (by simpa using hy)⟩

theorem Rels.length {E : Env} : ∀ {xs : List AV} {vs : List Value}, Rels E xs vs → vs.length = xs.length
  | [], vs, h => by simp only [Rels] at h; simp [h]
  | c :: cs, vs, h => by
    obtain ⟨v, r, rfl, _, h3⟩ := h
    simp [h3.length]

theorem Rels.append {E : Env} {xs ys : List AV} {vs ws : List Value} (h : Rels E xs vs) (k : Rels E ys ws) : Rels E (xs ++ ys) (vs ++ ws) := by
  induction xs generalizing vs with
  | nil => simp only [Rels] at h; simpa [h] using k
  | cons c cs ih =>
    obtain ⟨v, r, rfl, h1, h2⟩ := h
    exact ⟨v, r ++ ws, rfl, h1, ih h2⟩

end Go.Ai

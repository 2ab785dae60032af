/-
  Calls: how values go into a callee's environment, and out of it.
-/
import Derived.Test.YtnncfdlpogjlkaaDoorQAiAny
namespace Go.Ai
set_option linter.unusedVariables false
set_option linter.unusedSimpArgs false
set_option linter.unnecessarySimpa false
open Go.RowKit

section
variable {G : Nat → Option (List AV)} {I : World → Prop} {B0 : Nat} {E : Env}

/-- What lies above the world's size has turned, and it has grown. -/
theorem step_below (hI : ∀ w w', I w → Below B0 w w' → I w') (H : Good G I B0 E) {w' : World} (hw : Below E.w.heap.size E.w w') : Step G I B0 E { E with w := w' } := by
  have L : Le E { E with w := w' } := by
    refine ⟨rfl, fun a v h s => ⟨(hw.cell (World.block_lt_of_cell? E.w a h)).trans h, s⟩, Nat.le_refl _, fun _ _ cs h => ⟨cs, h, rfl, rfl⟩, fun _ n _ _ _ h => ⟨n, h, Nat.le_refl _, fun _ => ⟨rfl, fun v xs h _ => ?_⟩⟩, fun _ _ p h => ⟨p, h, rfl⟩⟩
    refine ⟨h.1, ?_⟩
    rcases h.2 with h2 | ⟨g, cap, cur, h2, h3, h4, h5⟩
    · exact .inl h2
    · exact .inr ⟨g, cap, cur, h2, h3, (hw.block g (Array.getElem?_eq_some_iff.1 h4).1).trans h4, h5⟩
  refine ⟨L, ⟨fun id x hx => ?_, H.inj, fun g cs hg => At.mono L _ _ (H.glob g cs hg), H.U, Nat.le_trans H.size hw.size, H.B0, hI _ _ H.I (hw.mono (Nat.le_trans H.B0 H.size))⟩, rfl, hw.mono H.size⟩
  have h := H.blk id x hx
  cases x with
  | mem t cs =>
    obtain ⟨g, c, fr, h1, h2, h3, h4, h5, h6⟩ := h
    have hg := (Array.getElem?_eq_some_iff.1 h3).1
    refine ⟨g, c, fr, h1, h2, (hw.block g hg).trans h3, h4, fun j hj => (hw.frozen (p := ⟨g, j, none⟩) hg).trans (h5 j hj), fun j y hy => ?_⟩
    obtain ⟨v, k1, k2, k3⟩ := h6 j y hy
    exact ⟨v, k1, k2, Rel.mono L _ _ k3⟩
  | grow n sz e =>
    intro g hg
    exact ⟨(h g hg).1, Nat.lt_of_lt_of_le (h g hg).2 hw.size⟩
  | dead => trivial
  | iter s p =>
    obtain ⟨g, h1, h2, h3⟩ := h
    exact ⟨g, h1, h2, (hw.block g (Array.getElem?_eq_some_iff.1 h3).1).trans h3⟩

/-- Values without a way into the call's own memory. -/
def pureV : AV → Bool
  | .ptr .. | .osl .. | .itr .. => false
  | .ro cs => pureVs cs
  | .sl _ es own => own.isNone && pureVss es
  | .fn _ a c => pureVs a && pureVs c
  | .iface _ v => pureV v
  | .agg cs => pureVs cs
  | .tup cs => pureVs cs
  | .dfr cs => pureVs cs
  | _ => true
where
  pureVs : List AV → Bool
    | [] => true
    | v :: r => pureV v && pureVs r
  pureVss : List (List AV) → Bool
    | [] => true
    | v :: r => pureVs v && pureVss r

def keepId (n : Nat) : Option Nat → Option Nat
  | some id => bif Nat.blt id n then some id else none
  | none => none

theorem strip_sl (n : Nat) (h : Hp) (sz : Nat) (es : List (List AV)) (own : Option Nat) : strip n h (.sl sz es own) = .sl sz (stripss n h es) (keepId n own) := by
  cases own <;> rfl

mutual
theorem strip_pure (n : Nat) (h : Hp) : ∀ x, pureV x = true → strip n h x = x
  | .top, _ => rfl
  | .bool _, _ => rfl
  | .int _ _, _ => rfl
  | .str _, _ => rfl
  | .nilp, _ => rfl
  | .ptr _ _, hp => by simp [pureV] at hp
  | .ro cs, hp => by rw [strip, strips_pure n h cs (by simpa [pureV] using hp)]
  | .sl sz es own, hp => by
    simp only [pureV, Bool.and_eq_true] at hp
    rw [strip_sl, stripss_pure n h es hp.2]
    cases own with
    | none => rfl
    | some _ => simp at hp
  | .osl _ _ _ _, hp => by simp [pureV] at hp
  | .itr _, hp => by simp [pureV] at hp
  | .fn f a c, hp => by
    simp only [pureV, Bool.and_eq_true] at hp
    rw [strip, strips_pure n h a hp.1, strips_pure n h c hp.2]
  | .nilf, _ => rfl
  | .iface t v, hp => by rw [strip, strip_pure n h v (by simpa [pureV] using hp)]
  | .nili, _ => rfl
  | .agg cs, hp => by rw [strip, strips_pure n h cs (by simpa [pureV] using hp)]
  | .tup cs, hp => by rw [strip, strips_pure n h cs (by simpa [pureV] using hp)]
  | .dfr cs, hp => by rw [strip, strips_pure n h cs (by simpa [pureV] using hp)]
theorem strips_pure (n : Nat) (h : Hp) : ∀ xs, pureV.pureVs xs = true → strips n h xs = xs
  | [], _ => rfl
  | x :: xs, hp => by
    simp only [pureV.pureVs, Bool.and_eq_true] at hp
    rw [strips, strip_pure n h x hp.1, strips_pure n h xs hp.2]
theorem stripss_pure (n : Nat) (h : Hp) : ∀ xs, pureV.pureVss xs = true → stripss n h xs = xs
  | [], _ => rfl
  | x :: xs, hp => by
    simp only [pureV.pureVss, Bool.and_eq_true] at hp
    rw [stripss, strips_pure n h x hp.1, stripss_pure n h xs hp.2]
end

theorem strips_length (n : Nat) (h : Hp) : ∀ xs : List AV, (strips n h xs).length = xs.length
  | [] => rfl
  | x :: xs => by rw [strips, List.length_cons, List.length_cons, strips_length n h xs]
theorem stripss_length (n : Nat) (h : Hp) : ∀ xs : List (List AV), (stripss n h xs).length = xs.length
  | [] => rfl
  | x :: xs => by rw [stripss, List.length_cons, List.length_cons, stripss_length n h xs]
theorem strips_get (n : Nat) (h : Hp) : ∀ (xs : List AV) (j : Nat), (strips n h xs)[j]? = (xs[j]?).map (strip n h)
  | [], j => by simp [strips]
  | x :: xs, 0 => by simp [strips]
  | x :: xs, j + 1 => by simpa [strips] using strips_get n h xs j
theorem stripss_len_mem (n : Nat) (h : Hp) : ∀ (xs : List (List AV)) (sz : Nat), (∀ e ∈ xs, e.length = sz) → ∀ e ∈ stripss n h xs, e.length = sz
  | [], _, _, e, he => by simp [stripss] at he
  | x :: xs, sz, hl, e, he => by
    rw [stripss] at he
    rcases List.mem_cons.1 he with rfl | he
    · rw [strips_length]; exact hl x (by simp)
    · exact stripss_len_mem n h xs sz (fun e he => hl e (by simp [he])) e he
theorem stripss_ne (n : Nat) (h : Hp) {xs : List (List AV)} (hne : stripss n h xs ≠ []) : xs ≠ [] := by
  rintro rfl
  exact hne rfl

/-- Going over into another environment with only a part of the memory. -/
structure Cut (n : Nat) (h0 : Hp) (E E' : Env) : Prop where
  w : E'.w = E.w
  B : ∀ (id : Nat), id < n → E'.B = E.B
  st : ∀ b o v, E.w.cell? ⟨b, o, none⟩ = some v → Stable E b o → Stable E' b o
  mem : ∀ (id : Nat) t cs, id < n → E.h[id]? = some (.mem t cs) → ∃ cs', E'.h[id]? = some (.mem t cs') ∧ cs'.length = cs.length
  σ : ∀ (id : Nat), id < n → E'.σ id = E.σ id
  len : n ≤ E'.h.length
  grow : ∀ (id : Nat) m sz e, id < n → E'.h[id]? = some (.grow m sz e) → E.h[id]? = some (.grow m sz e)
  iter : ∀ (id : Nat) s p, id < n → E.h[id]? = some (.iter s p) → E'.h[id]? = some (.iter s p)
  out : ∀ (b : Nat) t cs, n ≤ b → h0[b]? = some (.mem t cs) → E.h[b]? = some (.mem t cs) ∧ ∀ g, E.σ b = some g → ∀ (j : Nat) x, cs[j]? = some x → ∃ v, E.w.cell? ⟨g, j, none⟩ = some v ∧ v.oneCell' = true ∧ Rel E x v ∧ Stable E' g j

theorem spot_of_cell {w : World} {a : Addr} {v : Value} (h : w.cell? a = some v) : a.spot = none := by
  unfold World.cell? at h
  split at h
  · cases hsp : a.spot with
    | none => rfl
    | some _ => simp [hsp] at h
  · cases h

mutual
theorem Rel.cut {n : Nat} {h0 : Hp} {E E' : Env} (K : Cut n h0 E E') : ∀ (x : AV) (v : Value), Rel E x v → Rel E' (strip n h0 x) v
  | .top, _, _ => trivial
  | .bool _, _, h => h
  | .int _ _, _, h => h
  | .str _, _, h => h
  | .nilp, _, h => h
  | .ptr b o, v, h => by
    rw [strip]
    cases hb : Nat.blt b n with
    | false => trivial
    | true =>
      have hlt : b < n := Nat.le_of_ble_eq_true hb
      obtain ⟨t, cs, g, h1, h2, h3⟩ := h
      obtain ⟨cs', k1, _⟩ := K.mem b t cs hlt h1
      exact ⟨t, cs', g, k1, (K.σ b hlt).trans h2, h3⟩
  | .ro cs, v, h => by
    obtain ⟨a, h1, h2⟩ := h
    exact ⟨a, h1, At.cut K cs a h2⟩
  | .sl sz es own, v, h => by
    obtain ⟨⟨A, cap, h1, h2, h3, h4, h5⟩, ht⟩ := h
    rw [strip_sl]
    refine ⟨⟨A, cap, by rw [stripss_length]; exact h1, by rw [stripss_length]; exact h2, h3, stripss_len_mem n h0 es sz h4, fun hne => ?_⟩, ?_⟩
    · obtain ⟨a, ha, hr⟩ := h5 (stripss_ne n h0 hne)
      exact ⟨a, ha, Rows.cut K es a hr⟩
    · cases own with
      | none => trivial
      | some id =>
        simp only [keepId]
        cases hb : Nat.blt id n with
        | false => trivial
        | true =>
          have hlt : id < n := Nat.le_of_ble_eq_true hb
          refine ⟨Nat.lt_of_lt_of_le hlt K.len, fun m sz' e hg => ?_⟩
          obtain ⟨k1, k2⟩ := ht.2 m sz' e (K.grow id m sz' e hlt hg)
          rw [stripss_length]
          refine ⟨k1, fun hn => ?_⟩
          obtain ⟨q1, q2, q3⟩ := k2 hn
          refine ⟨q1, ?_, q3.trans (K.σ id hlt).symm⟩
          rw [K.w, K.B id hlt]
          exact q2
  | .osl b off len sz, v, h => by
    rw [strip]
    cases hb : Nat.blt b n with
    | false => trivial
    | true =>
      have hlt : b < n := Nat.le_of_ble_eq_true hb
      obtain ⟨t, cs, g, cap, h1, h2, h3, h4, h5, h6⟩ := h
      obtain ⟨cs', k1, k2⟩ := K.mem b t cs hlt h1
      exact ⟨t, cs', g, cap, k1, (K.σ b hlt).trans h2, h3, h4, h5, by rw [k2]; exact h6⟩
  | .itr b, v, h => by
    rw [strip]
    cases hb : Nat.blt b n with
    | false => trivial
    | true =>
      have hlt : b < n := Nat.le_of_ble_eq_true hb
      obtain ⟨s, p, g, h1, h2, h3⟩ := h
      exact ⟨s, p, g, K.iter b s p hlt h1, (K.σ b hlt).trans h2, h3⟩
  | .fn f first cap, v, h => by
    obtain ⟨a, b, h1, h2, h3⟩ := h
    exact ⟨a, b, h1, Rels.cut K first _ h2, Rels.cut K cap _ h3⟩
  | .dfr _, _, _ => trivial
  | .nilf, _, h => h
  | .iface t x, v, h => by
    obtain ⟨y, h1, h2⟩ := h
    exact ⟨y, h1, Rel.cut K x y h2⟩
  | .nili, _, h => h
  | .agg cs, v, h => by
    obtain ⟨a, h1, h2⟩ := h
    exact ⟨a, h1, Rels1.cut K cs _ h2⟩
  | .tup cs, v, h => by
    obtain ⟨a, h1, h2⟩ := h
    exact ⟨a, h1, Rels.cut K cs _ h2⟩
theorem Rels.cut {n : Nat} {h0 : Hp} {E E' : Env} (K : Cut n h0 E E') : ∀ (xs : List AV) (vs : List Value), Rels E xs vs → Rels E' (strips n h0 xs) vs
  | [], _, h => h
  | c :: cs, vs, h => by
    obtain ⟨v, r, h1, h2, h3⟩ := h
    exact ⟨v, r, h1, Rel.cut K c v h2, Rels.cut K cs r h3⟩
theorem Rels1.cut {n : Nat} {h0 : Hp} {E E' : Env} (K : Cut n h0 E E') : ∀ (xs : List AV) (vs : List Value), Rels1 E xs vs → Rels1 E' (strips n h0 xs) vs
  | [], _, h => h
  | c :: cs, vs, h => by
    obtain ⟨v, r, h1, h0', h2, h3⟩ := h
    exact ⟨v, r, h1, h0', Rel.cut K c v h2, Rels1.cut K cs r h3⟩
theorem At.cut {n : Nat} {h0 : Hp} {E E' : Env} (K : Cut n h0 E E') : ∀ (xs : List AV) (a : Addr), At E xs a → At E' (strips n h0 xs) a
  | [], _, _ => trivial
  | c :: cs, a, h => by
    obtain ⟨⟨v, h1, h2, h3, h4⟩, h5⟩ := h
    refine ⟨⟨v, by rw [K.w]; exact h1, h2, ?_, Rel.cut K c v h4⟩, At.cut K cs _ h5⟩
    have hsp := spot_of_cell h1
    obtain ⟨ab, ao, asp⟩ := a
    simp only at hsp
    subst hsp
    exact K.st ab ao v h1 h3
theorem Rows.cut {n : Nat} {h0 : Hp} {E E' : Env} (K : Cut n h0 E E') : ∀ (xs : List (List AV)) (a : Addr), Rows E xs a → Rows E' (stripss n h0 xs) a
  | [], _, _ => trivial
  | e :: es, a, h => ⟨At.cut K e a h.1, by rw [strips_length]; exact Rows.cut K es _ h.2⟩
end

theorem rel_atom {E E' : Env} {x : AV} {v : Value} (hx : atomV x = true) (h : Rel E x v) : Rel E' x v := by
  cases x <;> first | exact h | simp [atomV] at hx

theorem Rel.cutO {n : Nat} {h0 : Hp} {E E' : Env} (K : Cut n h0 E E') {b off len sz : Nat} {v : Value} (hb : n ≤ b) (h : Rel E (.osl b off len sz) v) : Rel E' (outS h0 b off len sz) v := by
  unfold outS
  split
  · rename_i t cs hm
    cases hc : (Nat.beq sz 1 && ((cs.drop off).take len).all atomV) with
    | false => trivial
    | true =>
      rw [Bool.and_eq_true] at hc
      obtain ⟨hsz, hat⟩ := hc
      obtain rfl := Nat.eq_of_beq_eq_true hsz
      obtain ⟨hE, hcell⟩ := K.out b t cs hb hm
      obtain ⟨t', cs', g, cap, h1, h2, h3, h4, h5, h6⟩ := h
      rw [hE] at h1
      injection h1 with h1
      injection h1 with _ h1
      subst h1
      have hl : ((cs.drop off).take len).length = len := by simp; omega
      refine ⟨⟨some ⟨g, off, none⟩, cap, by rw [List.length_map, hl]; exact h3, by rw [List.length_map, hl]; exact h4, h5, fun e he => ?_, fun _ => ⟨_, rfl, ?_⟩⟩, trivial⟩
      · obtain ⟨c, _, rfl⟩ := List.mem_map.1 he
        rfl
      · have hf : (((cs.drop off).take len).map fun c => [c]).flatten = (cs.drop off).take len := by
          induction ((cs.drop off).take len) with
          | nil => rfl
          | cons x r ih => simp [ih]
        rw [Rows.iff, hf, At.iff]
        intro j x hx
        have hj : j < len := by
          have := (List.getElem?_eq_some_iff.1 hx).1
          omega
        have hx' : cs[off + j]? = some x := by
          rw [List.getElem?_take_of_lt hj, List.getElem?_drop] at hx
          exact hx
        obtain ⟨u, q1, q2, q3, q4⟩ := hcell g h2 (off + j) x hx'
        refine ⟨u, ?_, q2, q4, rel_atom (List.all_eq_true.1 hat x (List.mem_of_getElem? hx)) q3⟩
        rw [K.w]
        have : (⟨g, off, none⟩ : Addr).add j = ⟨g, off + j, none⟩ := by
          unfold Addr.add
          by_cases h0 : j = 0 <;> simp [h0]
        rw [this]
        exact q1
  · trivial

theorem Rel.cutR1 {n : Nat} {h0 : Hp} {E E' : Env} (K : Cut n h0 E E') (x : AV) (v : Value) (h : Rel E x v) : Rel E' (stripR1 n h0 x) v := by
  cases x with
  | osl b off len sz =>
    simp only [stripR1]
    cases hb : Nat.blt b n with
    | true =>
      have := Rel.cut K _ v h
      rwa [strip, hb] at this
    | false => exact Rel.cutO K (by
        rcases Nat.lt_or_ge b n with h1 | h1
        · have : Nat.blt b n = true := Nat.ble_eq_true_of_le h1
          rw [hb] at this; cases this
        · exact h1) h
  | _ => exact Rel.cut K _ v h

theorem Rels.cutR {n : Nat} {h0 : Hp} {E E' : Env} (K : Cut n h0 E E') : ∀ (xs : List AV) (vs : List Value), Rels E xs vs → Rels E' (xs.map (stripR1 n h0)) vs
  | [], _, h => h
  | c :: cs, vs, h => by
    obtain ⟨v, r, h1, h2, h3⟩ := h
    exact ⟨v, r, h1, Rel.cutR1 K c v h2, Rels.cutR K cs r h3⟩

theorem Rel.cutR {n : Nat} {h0 : Hp} {E E' : Env} (K : Cut n h0 E E') (x : AV) (v : Value) (h : Rel E x v) : Rel E' (stripR n h0 x) v := by
  cases x with
  | tup cs =>
    obtain ⟨a, h1, h2⟩ := h
    exact ⟨a, h1, Rels.cutR K cs _ h2⟩
  | _ => exact Rel.cutR1 K _ v h

/-- A callee's environment that sees nothing of the caller's memory. -/
def fresh (E : Env) : Env := { B := E.w.heap.size, U := fun b o => b < E.w.heap.size ∧ ¬Stable E b o, w := E.w, σ := fun _ => none, h := [] }

theorem cut_in : Cut 0 [] E (fresh E) :=
  ⟨rfl, fun _ h => absurd h (Nat.not_lt_zero _), fun b o v _ hs => ⟨fun hu => hu.2 hs, fun id x hx => by simp [fresh] at hx⟩, fun _ _ _ h => absurd h (Nat.not_lt_zero _), fun _ h => absurd h (Nat.not_lt_zero _), Nat.zero_le _,
    fun _ _ _ _ h => absurd h (Nat.not_lt_zero _), fun _ _ _ h => absurd h (Nat.not_lt_zero _), fun b t cs _ h => by simp at h⟩

theorem mem_cell {t : TypeId} {cs : List AV} {b : Nat} (H : Good G I B0 E) (hb : E.h[b]? = some (.mem t cs)) {g : Nat} (hg : E.σ b = some g) : E.B ≤ g ∧ ∀ (j : Nat) x, cs[j]? = some x → ∃ v, E.w.cell? ⟨g, j, none⟩ = some v ∧ v.oneCell' = true ∧ Rel E x v := by
  obtain ⟨g', c, fr, h1, h2, h3, h4, h5, h6⟩ := H.blk b _ hb
  rw [hg] at h1
  injection h1 with h1
  subst h1
  refine ⟨h2, fun j x hx => ?_⟩
  obtain ⟨v, k1, k2, k3⟩ := h6 j x hx
  refine ⟨v, ?_, k2, k3⟩
  simp only [World.cell?, h3]
  exact k1

theorem cut_out (H : Good G I B0 E) (h0 : Hp) {E' : Env} (hU : E'.U = (fresh E).U) (hh : h0 = [] ∨ (h0 = E'.h ∧ Good G I B0 E' ∧ E'.B = E.w.heap.size)) : Cut 0 h0 E' { E with w := E'.w } := by
  have high : ∀ b o, E.w.heap.size ≤ b → Stable { E with w := E'.w } b o := fun b o hb => by
    refine ⟨fun hu => ?_, fun id x hx hσ => ?_⟩
    · have := H.U b o hu
      have := H.size
      omega
    · by_cases hd : x = .dead
      · exact .inl hd
      · have hσ' : E.σ id = some b := hσ
        have := (H.lt hx hd hσ').2
        omega
  refine ⟨rfl, fun _ h => absurd h (Nat.not_lt_zero _), fun b o v _ hs => ?_, fun _ _ _ h => absurd h (Nat.not_lt_zero _), fun _ h => absurd h (Nat.not_lt_zero _), Nat.zero_le _,
    fun _ _ _ _ h => absurd h (Nat.not_lt_zero _), fun _ _ _ h => absurd h (Nat.not_lt_zero _), fun b t cs _ hb => ?_⟩
  rotate_left
  · rcases hh with rfl | ⟨rfl, H', hB⟩
    · simp at hb
    · refine ⟨hb, fun g hg j x hx => ?_⟩
      obtain ⟨k0, k1⟩ := mem_cell H' hb hg
      obtain ⟨v, q1, q2, q3⟩ := k1 j x hx
      exact ⟨v, q1, q2, q3, high g j (by omega)⟩
  have h1 := hs.1
  rw [hU] at h1
  by_cases hb : b < E.w.heap.size
  · have : Stable E b o := Classical.byContradiction fun hn => h1 ⟨hb, hn⟩
    exact this
  · exact high b o (by omega)

theorem fresh_good (H : Good G I B0 E) (hG : ∀ g cs, G g = some cs → pureV.pureVs cs = true) : Good G I B0 (fresh E) := by
  refine ⟨fun id x hx => by simp [fresh] at hx, fun i j x y g hi => by simp [fresh] at hi, fun g cs hg => ?_, fun b o hu => hu.1, Nat.le_refl _, Nat.le_trans H.B0 H.size, H.I⟩
  have := At.cut (cut_in (E := E)) cs _ (H.glob g cs hg)
  rwa [strips_pure 0 [] cs (hG g cs hg)] at this

theorem stripB_grow {n : Nat} {h : Hp} {x : Blk} {m sz : Nat} {e : TypeId} (hx : stripB n h x = .grow m sz e) : x = .grow m sz e := by
  cases x <;> simp_all [stripB]
theorem stripB_dead {n : Nat} {h : Hp} {x : Blk} : stripB n h x = .dead ↔ x = .dead := by
  cases x <;> simp [stripB]

/-- Only the memory that there was before is kept. -/
theorem step_keep (H : Good G I B0 E) {E' : Env} (S : Step G I B0 E E') (hG : ∀ g cs, G g = some cs → pureV.pureVs cs = true) :
    Cut E.h.length E'.h E' { E' with h := (E'.h.take E.h.length).map (stripB E.h.length E'.h) } ∧ Step G I B0 E { E' with h := (E'.h.take E.h.length).map (stripB E.h.length E'.h) } := by
  have hl := S.le.len
  have hget : ∀ (id : Nat) y, ((E'.h.take E.h.length).map (stripB E.h.length E'.h))[id]? = some y → ∃ x, id < E.h.length ∧ E'.h[id]? = some x ∧ y = stripB E.h.length E'.h x := by
    intro id y hy
    rw [List.getElem?_map] at hy
    have hid : id < E.h.length := by
      rcases Nat.lt_or_ge id E.h.length with h | h
      · exact h
      · rw [List.getElem?_eq_none (by simp; omega)] at hy
        cases hy
    rw [List.getElem?_take_of_lt hid] at hy
    cases hx : E'.h[id]? with
    | none => rw [hx] at hy; cases hy
    | some x =>
      rw [hx] at hy
      injection hy with hy
      exact ⟨x, hid, rfl, hy.symm⟩
  have hget' : ∀ (id : Nat) x, id < E.h.length → E'.h[id]? = some x → ((E'.h.take E.h.length).map (stripB E.h.length E'.h))[id]? = some (stripB E.h.length E'.h x) := by
    intro id x hid hx
    rw [List.getElem?_map, List.getElem?_take_of_lt hid, hx]
    rfl
  have hst : ∀ b o, Stable E' b o → Stable { E' with h := (E'.h.take E.h.length).map (stripB E.h.length E'.h) } b o := by
    intro b o hs
    refine ⟨hs.1, fun id y hy hσ => ?_⟩
    obtain ⟨x, _, hx, rfl⟩ := hget id y hy
    rcases hs.2 id x hx hσ with rfl | ⟨n, sz, e, rfl, ho⟩
    · exact .inl rfl
    · exact .inr ⟨n, sz, e, rfl, ho⟩
  have K : Cut E.h.length E'.h E' { E' with h := (E'.h.take E.h.length).map (stripB E.h.length E'.h) } := by
    refine ⟨rfl, fun _ _ => rfl, fun b o v _ => hst b o, fun id t cs hid hm => ⟨_, hget' id _ hid hm, strips_length _ _ _⟩, fun _ _ => rfl, ?_, fun id m sz e hid hg => ?_, fun id s p hid hm => hget' id _ hid hm, fun b t cs hb hm => ⟨hm, fun g hg j x hx => ?_⟩⟩
    · simp; omega
    · obtain ⟨x, _, hx, hy⟩ := hget id _ hg
      rw [hx, stripB_grow hy.symm]
    · obtain ⟨k0, k1⟩ := mem_cell S.good hm hg
      obtain ⟨v, q1, q2, q3⟩ := k1 j x hx
      refine ⟨v, q1, q2, q3, fun hu => ?_, fun id y hy hσ => ?_⟩
      · have := S.good.U _ _ hu
        omega
      · obtain ⟨z, hid, hz, rfl⟩ := hget id y hy
        by_cases hd : z = .dead
        · exact .inl (by rw [hd]; rfl)
        · have := S.good.inj id b z _ g hz hm hd (by simp) hσ hg
          omega
  have H' := S.good
  refine ⟨K, ⟨⟨S.le.B, fun a v h s => ?_, by simp; omega, fun id t cs h => ?_, fun id n sz e hi h => ?_, fun id s p h => ?_⟩, ⟨fun id y hy => ?_, fun i j x y g hi hj hx hy hsi hsj => ?_, fun g cs hg => ?_, H'.U, H'.size, H'.B0, H'.I⟩, S.U, S.below⟩⟩
  · obtain ⟨k1, k2⟩ := S.le.cells a v h s
    exact ⟨k1, hst _ _ k2⟩
  · have hid := (List.getElem?_eq_some_iff.1 h).1
    obtain ⟨cs', k1, k2, k3⟩ := S.le.mem id t cs h
    exact ⟨_, hget' id _ hid k1, (strips_length _ _ _).trans k2, k3⟩
  · obtain ⟨x, _, hx, hy⟩ := hget id _ h
    rw [stripB_grow hy.symm] at hx
    exact S.le.grow id n sz e hi hx
  · have hid := (List.getElem?_eq_some_iff.1 h).1
    obtain ⟨p', k1, k2⟩ := S.le.iter id s p h
    exact ⟨p', hget' id _ hid k1, k2⟩
  · obtain ⟨x, hid, hx, rfl⟩ := hget id y hy
    have h := H'.blk id x hx
    cases x with
    | mem t cs =>
      obtain ⟨g, c, fr, h1, h2, h3, h4, h5, h6⟩ := h
      refine ⟨g, c, fr, h1, h2, h3, by rw [strips_length]; exact h4, fun j hj => h5 j (by rwa [strips_length] at hj), fun j z hz => ?_⟩
      rw [strips_get] at hz
      cases hcj : cs[j]? with
      | none => rw [hcj] at hz; cases hz
      | some x =>
        rw [hcj] at hz
        injection hz with hz
        obtain ⟨v, k1, k2, k3⟩ := h6 j x hcj
        exact ⟨v, k1, k2, hz ▸ Rel.cut K x v k3⟩
    | grow n sz e => exact h
    | dead => trivial
    | iter s p => exact h
  · obtain ⟨x0, _, hx0, rfl⟩ := hget i x hi
    obtain ⟨y0, _, hy0, rfl⟩ := hget j y hj
    exact H'.inj i j x0 y0 g hx0 hy0 (fun e => hx (stripB_dead.2 e)) (fun e => hy (stripB_dead.2 e)) hsi hsj
  · have := At.cut K cs _ (H'.glob g cs hg)
    rwa [strips_pure _ _ cs (hG g cs hg)] at this

end
end Go.Ai

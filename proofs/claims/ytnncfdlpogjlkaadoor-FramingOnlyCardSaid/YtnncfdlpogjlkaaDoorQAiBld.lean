/-
  strings.Builder's String, in the call's own memory.
-/
import Derived.Test.YtnncfdlpogjlkaaDoorQAiTop
import Derived.Shelf.Strings.Builder1
namespace Go.Ai
set_option linter.unusedVariables false
set_option linter.unusedSimpArgs false
set_option linter.unnecessarySimpa false
open Go.RowKit Go.Shelf

section
variable {G : Nat → Option (List AV)} {I : World → Prop} {B0 : Nat} {E : Env}

/-- A lineage is given up; only its block may have turned. -/
theorem step_kill (hI : ∀ w w', I w → Below B0 w w' → I w') (H : Good G I B0 E) {w' : World} {L n sz : Nat} {e : TypeId} (hL : E.h[L]? = some (.grow n sz e))
    (hos : w'.os = E.w.os) (htp : w'.tape = E.w.tape) (hout : w'.output = E.w.output) (hsize : E.w.heap.size ≤ w'.heap.size) (hcell : ∀ a v, E.w.cell? a = some v → w'.cell? a = some v)
    (hblk : ∀ k, k < E.w.heap.size → E.σ L ≠ some k → w'.heap[k]? = E.w.heap[k]?) : Step G I B0 E { E with w := w', h := E.h.set L .dead } := by
  have hLl : L < E.h.length := (List.getElem?_eq_some_iff.1 hL).1
  have hB : ∀ k, E.σ L = some k → E.B ≤ k := fun k hk => (H.lt hL (by simp) hk).1
  have hbel : Below E.B E.w w' := ⟨hos, htp, hout, hsize, fun k hk => hblk k (Nat.lt_of_lt_of_le hk H.size) fun h => by have := hB k h; omega⟩
  have hne : ∀ (id : Nat) x g', id ≠ L → E.h[id]? = some x → x ≠ .dead → E.σ id = some g' → E.σ L ≠ some g' := fun id x g' hid hx hd hs h => hid (H.inj id L x _ g' hx hL hd (by simp) hs h)
  have Lq : Le E { E with w := w', h := E.h.set L .dead } := by
    refine ⟨rfl, fun a v h s => ⟨hcell a v h, s.1, fun id x hx hs => ?_⟩, by simp, fun id t cs h => ?_, fun id m sz' e' hi h => ?_, fun id s p h => ?_⟩
    · rcases getElem?_set_cases hx with ⟨rfl, rfl, _⟩ | ⟨_, hx'⟩
      · exact .inl rfl
      · exact s.2 id x hx' hs
    · have hid : id ≠ L := by rintro rfl; rw [hL] at h; cases h
      exact ⟨cs, by rw [List.getElem?_set_ne (fun e => hid e.symm)]; exact h, rfl, rfl⟩
    · rcases getElem?_set_cases h with ⟨rfl, h1, _⟩ | ⟨hid, h1⟩
      · cases h1
      · refine ⟨m, h1, Nat.le_refl _, fun _ => ⟨rfl, fun v xs hv hob => ⟨hv.1, ?_⟩⟩⟩
        rcases hv.2 with h2 | ⟨g, cap, cur, h2, h3, h4, h5⟩
        · exact .inl h2
        · have hσ : E.σ id = some g := by rw [← hob, h2]; rfl
          exact .inr ⟨g, cap, cur, h2, h3, (hblk g (Array.getElem?_eq_some_iff.1 h4).1 (hne id _ g hid h1 (by simp) hσ)).trans h4, h5⟩
    · have hid : id ≠ L := by rintro rfl; rw [hL] at h; cases h
      exact ⟨p, by rw [List.getElem?_set_ne (fun e => hid e.symm)]; exact h, rfl⟩
  refine ⟨Lq, ⟨fun id y hy => ?_, fun i j x y g' hi hj hx hy hsi hsj => ?_, fun k gs hk => At.mono Lq _ _ (H.glob k gs hk), H.U, Nat.le_trans H.size hsize, H.B0, hI _ _ H.I (hbel.mono H.B0)⟩, rfl, hbel⟩
  · rcases getElem?_set_cases hy with ⟨rfl, rfl, _⟩ | ⟨hid, hy'⟩
    · trivial
    · have h := H.blk id y hy'
      cases y with
      | mem t es =>
        obtain ⟨g', c', fr', h1, h2, h3, h4, h5, h6⟩ := h
        have hb : w'.heap[g']? = E.w.heap[g']? := hblk g' (Array.getElem?_eq_some_iff.1 h3).1 (hne id _ g' hid hy' (by simp) h1)
        refine ⟨g', c', fr', h1, h2, hb.trans h3, h4, fun j hj => (World.frozen?_of_block (a := ⟨g', j, none⟩) hb).trans (h5 j hj), fun j z hz => ?_⟩
        obtain ⟨v, k1, k2, k3⟩ := h6 j z hz
        exact ⟨v, k1, k2, Rel.mono Lq _ _ k3⟩
      | grow n sz e =>
        intro g' hg'
        exact ⟨(h g' hg').1, Nat.lt_of_lt_of_le (h g' hg').2 hsize⟩
      | dead => trivial
      | iter s p =>
        obtain ⟨g', h1, h2, h3⟩ := h
        exact ⟨g', h1, h2, (hblk g' (Array.getElem?_eq_some_iff.1 h3).1 (hne id _ g' hid hy' (by simp) h1)).trans h3⟩
  · rcases getElem?_set_cases hi with ⟨rfl, rfl, _⟩ | ⟨hii, hi'⟩
    · exact absurd rfl hx
    · rcases getElem?_set_cases hj with ⟨rfl, rfl, _⟩ | ⟨hjj, hj'⟩
      · exact absurd rfl hy
      · exact H.inj i j x y g' hi' hj' hx hy hsi hsj
end

section
open Go.Proofs
variable {P : Program} {ρ : Ren}

set_option maxHeartbeats 2000000 in
set_option maxRecDepth 100000 in
theorem bstr_row (L : Lays.n169 P ρ) (X : Builder.Extra P ρ) (b g cap : Nat) (cur : Array Value) (l : List UInt8) (w : World) (h0 : l ≠ []) (hcap : l.length ≤ cap) (hm : cap ≤ maxLen)
    (hbk : w.cell? ⟨b, 1, none⟩ = some (.slice (some ⟨g, 0, none⟩) l.length cap)) (hg : w.heap[g]? = some (.cells cur (ρ.t 5) (0, 0))) (hcs : l.length ≤ cur.size)
    (hcell : ∀ j x, l[j]? = some x → w.cell? ((⟨g, 0, none⟩ : Addr).add j) = some (.int .u8 x.toNat)) :
    Calls P (ρ.f 169) #[.pointer (some ⟨b, 0, none⟩)] w fun e w' => e = .returned (.string ⟨l.toArray⟩) ∧ w' = w.drew.freeze ⟨g, 0, none⟩ l.length := by
  have hl0 : l.length ≠ 0 := by simpa using h0
  have c1 : w.drew.cell? ⟨b, 1, none⟩ = some (.slice (some ⟨g, 0, none⟩) l.length cap) := hbk
  have hSD : (Builtin.unsafeSliceData_ #[(ρ.t 37)] (ρ.t 127) #[.slice (some ⟨g, 0, none⟩) l.length cap]).run P w.drew = .ok (.pointer (some ⟨g, 0, none⟩)) w.drew :=
    Lib.run_unsafeSliceData_row _ _ _ _ _ _ (by omega)
  have hUS : (Builtin.unsafeString_ #[(ρ.t 127), (ρ.t 3)] (ρ.t 9) #[.pointer (some ⟨g, 0, none⟩), .int .i64 l.length]).run P w.drew = .ok (.string ⟨l.toArray⟩) (w.drew.freeze ⟨g, 0, none⟩ l.length) :=
    Lib.run_unsafeString_row w.drew (ρ.t 127) (ρ.t 3) (ρ.t 9) (ρ.t 5) L.t127 X.cellsByte g cur.size (by have hg' : w.drew.heap[g]? = some (.cells cur (ρ.t 5) (0, 0)) := hg; simp [World.shape?, hg']) l h0 hcs (by unfold maxLen at hm; omega) hcell
  clear hm hcap hl0 hcell hbk hcs
  have mixed := L.mixed
  have t72 := L.t72; have a72 := L.a72; have z72 := L.z72; have v72 := L.v72; have u72 := run_underlying L.t72
  have t70 := L.t70; have a70 := L.a70; have z70 := L.z70; have v70 := L.v70; have u70 := run_underlying L.t70
  have t37 := L.t37; have a37 := L.a37; have z37 := L.z37; have v37 := L.v37; have u37 := run_underlying L.t37
  have t127 := L.t127; have a127 := L.a127; have z127 := L.z127; have v127 := L.v127; have u127 := run_underlying L.t127
  have t3 := L.t3; have a3 := L.a3; have z3 := L.z3; have v3 := L.v3; have u3 := run_underlying L.t3
  have t9 := L.t9; have a9 := L.a9; have z9 := L.z9; have v9 := L.v9; have u9 := run_underlying L.t9
  have t5 := X.t5; have a5 := X.a5; have z5 := X.z5; have v5 := X.v5; have u5 := run_underlying X.t5
  go_enter L.f169, Body.n169_ntmps ρ
  go_wp2
  go_region_o
  all_goals (go_wp2; go_ret; exact ⟨rfl, rfl⟩)

theorem bstr_none (L : Lays.n169 P ρ) (X : Builder.Extra P ρ) (W : World) (q : Option Addr) : (Builtin.unsafeString_ #[(ρ.t 127), (ρ.t 3)] (ρ.t 9) #[.pointer q, .int .i64 0]).run P W = .ok (.string .empty) W :=
  Lib.run_unsafeString_none W _ _ _ q

set_option maxHeartbeats 2000000 in
set_option maxRecDepth 100000 in
theorem bstr_nil (L : Lays.n169 P ρ) (X : Builder.Extra P ρ) (b : Nat) (w : World) (hbk : w.cell? ⟨b, 1, none⟩ = some (.slice none 0 0)) :
    Calls P (ρ.f 169) #[.pointer (some ⟨b, 0, none⟩)] w fun e w' => e = .returned (.string ⟨#[]⟩) ∧ w' = w.drew := by
  have hUS := bstr_none L X
  have c1 : w.drew.cell? ⟨b, 1, none⟩ = some (.slice none 0 0) := hbk
  have hSD : (Builtin.unsafeSliceData_ #[(ρ.t 37)] (ρ.t 127) #[.slice none 0 0]).run P w.drew = .ok (.pointer none) w.drew := rfl
  have mixed := L.mixed
  have t72 := L.t72; have a72 := L.a72; have z72 := L.z72; have v72 := L.v72; have u72 := run_underlying L.t72
  have t70 := L.t70; have a70 := L.a70; have z70 := L.z70; have v70 := L.v70; have u70 := run_underlying L.t70
  have t37 := L.t37; have a37 := L.a37; have z37 := L.z37; have v37 := L.v37; have u37 := run_underlying L.t37
  have t127 := L.t127; have a127 := L.a127; have z127 := L.z127; have v127 := L.v127; have u127 := run_underlying L.t127
  have t3 := L.t3; have a3 := L.a3; have z3 := L.z3; have v3 := L.v3; have u3 := run_underlying L.t3
  have t9 := L.t9; have a9 := L.a9; have z9 := L.z9; have v9 := L.v9; have u9 := run_underlying L.t9
  have t5 := X.t5; have a5 := X.a5; have z5 := X.z5; have v5 := X.v5; have u5 := run_underlying X.t5
  go_enter L.f169, Body.n169_ntmps ρ
  go_wp2
  go_region_o
  all_goals (go_wp2; go_ret; exact ⟨rfl, rfl⟩)

set_option maxHeartbeats 2000000 in
set_option maxRecDepth 100000 in
theorem bstr_room (L : Lays.n169 P ρ) (X : Builder.Extra P ρ) (b g cap : Nat) (w : World) (hc0 : cap ≠ 0) (hbk : w.cell? ⟨b, 1, none⟩ = some (.slice (some ⟨g, 0, none⟩) 0 cap)) :
    Calls P (ρ.f 169) #[.pointer (some ⟨b, 0, none⟩)] w fun e w' => e = .returned (.string ⟨#[]⟩) ∧ w' = w.drew := by
  have hUS := bstr_none L X
  have c1 : w.drew.cell? ⟨b, 1, none⟩ = some (.slice (some ⟨g, 0, none⟩) 0 cap) := hbk
  have hSD : (Builtin.unsafeSliceData_ #[(ρ.t 37)] (ρ.t 127) #[.slice (some ⟨g, 0, none⟩) 0 cap]).run P w.drew = .ok (.pointer (some ⟨g, 0, none⟩)) w.drew :=
    Lib.run_unsafeSliceData_row _ _ _ _ _ _ hc0
  clear hc0
  have mixed := L.mixed
  have t72 := L.t72; have a72 := L.a72; have z72 := L.z72; have v72 := L.v72; have u72 := run_underlying L.t72
  have t70 := L.t70; have a70 := L.a70; have z70 := L.z70; have v70 := L.v70; have u70 := run_underlying L.t70
  have t37 := L.t37; have a37 := L.a37; have z37 := L.z37; have v37 := L.v37; have u37 := run_underlying L.t37
  have t127 := L.t127; have a127 := L.a127; have z127 := L.z127; have v127 := L.v127; have u127 := run_underlying L.t127
  have t3 := L.t3; have a3 := L.a3; have z3 := L.z3; have v3 := L.v3; have u3 := run_underlying L.t3
  have t9 := L.t9; have a9 := L.a9; have z9 := L.z9; have v9 := L.v9; have u9 := run_underlying L.t9
  have t5 := X.t5; have a5 := X.a5; have z5 := X.z5; have v5 := X.v5; have u5 := run_underlying X.t5
  go_enter L.f169, Body.n169_ntmps ρ
  go_wp2
  go_region_o
  all_goals (go_wp2; go_ret; exact ⟨rfl, rfl⟩)

set_option maxHeartbeats 2000000 in
set_option maxRecDepth 100000 in
theorem bstr_noroom (L : Lays.n169 P ρ) (X : Builder.Extra P ρ) (b g : Nat) (cur : Array Value) (w : World) (hb : b < w.heap.size) (hbk : w.cell? ⟨b, 1, none⟩ = some (.slice (some ⟨g, 0, none⟩) 0 0))
    (hg : w.heap[g]? = some (.cells cur (ρ.t 5) (0, 0))) :
    Calls P (ρ.f 169) #[.pointer (some ⟨b, 0, none⟩)] w fun e w' => e = .returned (.string ⟨#[]⟩) ∧ Below w.heap.size w w' := by
  have hUS := bstr_none L X
  have c1 : w.drew.cell? ⟨b, 1, none⟩ = some (.slice (some ⟨g, 0, none⟩) 0 0) := hbk
  have hSD : (Builtin.unsafeSliceData_ #[(ρ.t 37)] (ρ.t 127) #[.slice (some ⟨g, 0, none⟩) 0 0]).run P w.drew = .ok (.pointer (some ⟨w.drew.heap.size, 0, none⟩)) (w.drew.alloc (.view ⟨g, 0, none⟩ (ρ.t 5))) :=
    Lib.run_unsafeSliceData_zero w.drew _ _ (ρ.t 5) L.t127 ⟨g, 0, none⟩ 0 ((ρ.t 5), cur.size) (by have hg' : w.drew.heap[g]? = some (.cells cur (ρ.t 5) (0, 0)) := hg; simp [World.shape?, hg'])
  have c2 : (w.drew.alloc (.view ⟨g, 0, none⟩ (ρ.t 5))).cell? ⟨b, 1, none⟩ = some (.slice (some ⟨g, 0, none⟩) 0 0) := by
    have : (w.drew.alloc (.view ⟨g, 0, none⟩ (ρ.t 5))).heap[b]? = w.drew.heap[b]? := Lib.alloc_old w.drew _ b hb
    simpa [World.cell?, this] using c1
  have c3 : (w.alloc (.view ⟨g, 0, none⟩ (ρ.t 5))).drew.cell? ⟨b, 1, none⟩ = some (.slice (some ⟨g, 0, none⟩) 0 0) := c2
  have c0 : w.cell? ⟨b, 1, none⟩ = some (.slice (some ⟨g, 0, none⟩) 0 0) := c1
  have mixed := L.mixed
  have t72 := L.t72; have a72 := L.a72; have z72 := L.z72; have v72 := L.v72; have u72 := run_underlying L.t72
  have t70 := L.t70; have a70 := L.a70; have z70 := L.z70; have v70 := L.v70; have u70 := run_underlying L.t70
  have t37 := L.t37; have a37 := L.a37; have z37 := L.z37; have v37 := L.v37; have u37 := run_underlying L.t37
  have t127 := L.t127; have a127 := L.a127; have z127 := L.z127; have v127 := L.v127; have u127 := run_underlying L.t127
  have t3 := L.t3; have a3 := L.a3; have z3 := L.z3; have v3 := L.v3; have u3 := run_underlying L.t3
  have t9 := L.t9; have a9 := L.a9; have z9 := L.z9; have v9 := L.v9; have u9 := run_underlying L.t9
  have t5 := X.t5; have a5 := X.a5; have z5 := X.z5; have v5 := X.v5; have u5 := run_underlying X.t5
  go_enter L.f169, Body.n169_ntmps ρ
  go_wp2
  go_region_o
  all_goals (go_wp2; go_ret; exact ⟨rfl, (Below.drew (Below.refl _ w)).alloc (Nat.le_refl _) _⟩)

end

theorem freeze_other (w : World) (p : Addr) (n : Nat) {k : Nat} (hk : k ≠ p.block) : (w.freeze p n).heap[k]? = w.heap[k]? := by
  unfold World.freeze
  split
  · rfl
  · simp [Array.getElem?_modify, Ne.symm hk]

theorem freeze_cell (w : World) (p : Addr) (n : Nat) (a : Addr) : (w.freeze p n).cell? a = w.cell? a := by
  unfold World.freeze
  split
  · rfl
  · unfold World.cell?
    simp only [Array.getElem?_modify]
    by_cases h : p.block = a.block
    · rw [if_pos h]
      cases w.heap[a.block]? with
      | none => rfl
      | some o => cases o <;> rfl
    · rw [if_neg h]

/-- String, over the abstract memory. -/
def pString (e : TypeId) : List AV → Hp → Option (AV × Hp)
  | [.ptr b 0], h => match h[b]? with
    | some (.mem _ [_, .sl 1 es (some L)]) =>
      match bytesA es, tagOk h es.length 1 e (some L) with
      | some l, true => some (.str l, h.set L .dead)
      | _, _ => none
    | _ => none
  | _, _ => none

section
open Go.Proofs
variable {P : Program} {ρ : Ren} {G : Nat → Option (List AV)} {I : World → Prop} {B0 : Nat}

theorem pString_ok (hI : ∀ w w', I w → Below B0 w w' → I w') (Ls : Lays.n169 P ρ) (X : Builder.Extra P ρ) {vs : List AV} {h : Hp} {v : AV} {h' : Hp} (hg : pString (ρ.t 5) vs h = some (v, h')) {E : Env} {args : List Value} (hE : E.h = h)
    (H : Good G I B0 E) (hr : Rels E vs args) : Calls P (ρ.f 169) args.toArray E.w (CallPost G I B0 E v h') := by
  subst hE
  unfold pString at hg
  split at hg
  case h_2 => cases hg
  rename_i b
  split at hg
  case h_2 => cases hg
  rename_i t0 a0 es L hb
  split at hg
  case h_2 => cases hg
  rename_i l hby htag
  simp only [Option.some.injEq, Prod.mk.injEq] at hg
  obtain ⟨rfl, rfl⟩ := hg
  have hes := bytesA_eq hby
  obtain ⟨_, _, rfl, ⟨_, cs, g, _, hσ, rfl⟩, rfl⟩ := hr
  -- the lineage
  simp only [tagOk] at htag
  split at htag
  case h_2 => cases htag
  rename_i m sz2 e2 hL
  simp only [Bool.and_eq_true] at htag
  obtain ⟨⟨q1, q2⟩, q3⟩ := htag
  have q1 := Nat.eq_of_beq_eq_true q1
  have q2 := Nat.eq_of_beq_eq_true q2
  have q3 := Nat.eq_of_beq_eq_true q3
  subst q1; subst q2; subst q3
  -- the builder's block
  obtain ⟨g', c, fr, h1, h2, h3, h4, h5, h6⟩ := H.blk b _ hb
  rw [hσ] at h1
  injection h1 with h1
  subst h1
  obtain ⟨v1, k1, _, k3⟩ := h6 1 _ rfl
  have hcell : E.w.cell? ⟨g, 1, none⟩ = some v1 := by simp [World.cell?, h3, k1]
  obtain ⟨⟨A, cap, r1, r2, r3, r4, r5⟩, _, r7⟩ := k3
  obtain ⟨_, r8⟩ := r7 _ _ _ hL
  obtain ⟨_, ⟨xs, hown⟩, hob⟩ := r8 rfl
  have hlen : es.length = l.length := by rw [hes]; simp
  have hgl : g < E.w.heap.size := (Array.getElem?_eq_some_iff.1 h3).1
  have drew : ∀ B, Below B E.w E.w.drew := fun B => (Below.refl B E.w).drew
  have fin : ∀ w', Step G I B0 E { E with w := w', h := E.h.set L .dead } → CallPost G I B0 E (.str l) (E.h.set L .dead) (.returned (.string ⟨l.toArray⟩)) w' := fun w' S =>
    ⟨_, { E with w := w', h := E.h.set L .dead }, rfl, rfl, S, rfl, rfl⟩
  have same : Step G I B0 E { E with w := E.w.drew, h := E.h.set L .dead } :=
    step_kill hI H hL rfl rfl rfl (Nat.le_refl _) (fun a v hv => hv) (fun k _ _ => rfl)
  rcases hown.2 with ⟨hv, hn⟩ | ⟨g2, cap2, cur, hv, hbg, hgg, hnc, hcm, hcs, htake⟩
  · -- nil
    have hl0 : l = [] := List.eq_nil_of_length_eq_zero (by omega)
    subst hl0
    rw [hv] at hcell
    refine (bstr_nil Ls X g E.w hcell).mono fun e w' hp => ?_
    obtain ⟨rfl, rfl⟩ := hp
    exact fin _ same
  · rw [hv, hlen] at hcell
    rw [hv] at hob
    by_cases hl0 : l = []
    · subst hl0
      by_cases hc0 : cap2 = 0
      · subst hc0
        refine (bstr_noroom Ls X g g2 cur E.w hgl hcell hgg).mono fun e w' hp => ?_
        obtain ⟨rfl, hbel⟩ := hp
        exact fin _ (step_kill hI H hL hbel.os hbel.tape hbel.output hbel.size (fun a v hv => (hbel.cell (World.block_lt_of_cell? _ _ hv)).trans hv) (fun k hk _ => hbel.block k hk))
      · refine (bstr_room Ls X g g2 cap2 E.w hc0 hcell).mono fun e w' hp => ?_
        obtain ⟨rfl, rfl⟩ := hp
        exact fin _ same
    · have hne : es ≠ [] := by rintro rfl; exact hl0 (List.eq_nil_of_length_eq_zero (by simpa using hlen.symm))
      obtain ⟨ad, hA, hrow⟩ := r5 hne
      rw [hv] at r1
      injection r1 with r1 _ _
      rw [hA] at r1
      injection r1 with r1
      subst r1
      have hread : ∀ j x, l[j]? = some x → E.w.cell? ((⟨g2, 0, none⟩ : Addr).add j) = some (.int .u8 x.toNat) := by
        intro j x hj
        rw [Rows.iff] at hrow
        have hfl : es.flatten = l.map fun b => AV.int .u8 (b.toNat : Int) := by
          rw [hes]
          clear hj hes hby hlen hcell hl0 fin hL htake hown hv hne hrow
          induction l with
          | nil => rfl
          | cons b l ih => simp [ih]
        rw [hfl] at hrow
        obtain ⟨u, p1, _, _, p4⟩ := At.iff.1 hrow j (.int .u8 (x.toNat : Int)) (by simp [hj])
        simp only [Rel] at p4
        rw [p1, p4]
      refine (bstr_row Ls X g g2 cap2 cur l E.w hl0 (by omega) hcm hcell hgg (by rw [hcs]; omega) hread).mono fun e w' hp => ?_
      obtain ⟨rfl, rfl⟩ := hp
      have hσL : E.σ L = some g2 := hob.symm
      refine fin _ (step_kill hI H hL ?_ ?_ ?_ ?_ (fun a v hv => ?_) (fun k hk hne => ?_))
      · unfold World.freeze; split <;> rfl
      · unfold World.freeze; split <;> rfl
      · unfold World.freeze; split <;> rfl
      · unfold World.freeze; split <;> simp
      · exact (freeze_cell _ _ _ _).trans hv
      · exact freeze_other _ _ _ (fun e => hne (by rw [hσL, e]))
end
end Go.Ai

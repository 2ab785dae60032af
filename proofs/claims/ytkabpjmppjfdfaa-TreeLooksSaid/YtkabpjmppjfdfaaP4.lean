/-
  What a row reads at the types of this seat is a tree, a text or a number, in plain terms.
-/
import Derived.Test.YtkabpjmppjfdfaaCfg
import Derived.Test.YtkabpjmppjfdfaaTrD
import Derived.Test.YtkabpjmppjfdfaaAiLaw
namespace Go.Proofs.Ytkabpjmppjfdfaa
open Go.Ai Go
set_option linter.unusedVariables false

def plainS : List TypeId := [3, 9, 22, 23, 25, 41]
theorem plainS_ok : closedT Try.prog plainS plainS = true := by kernel_rfl

theorem wt_int {n : Nat} {xs : List AV} (h : wt Try.prog n 3 xs) : ∃ z, (Lit.int .i64 z).wf = true ∧ xs = [.int .i64 z] := by
  cases n with
  | zero => exact h.elim
  | succ n => simpa only [wt, Try.underlying3] using h
theorem wt_str {n : Nat} {xs : List AV} (h : wt Try.prog n 9 xs) : ∃ s : List UInt8, s.length ≤ maxLen ∧ xs = [.str s] := by
  cases n with
  | zero => exact h.elim
  | succ n => simpa only [wt, Try.underlying9] using h

theorem wt_att {n : Nat} {xs : List AV} (h : wt Try.prog n 41 xs) : ∃ a : Att, a.fit ∧ xs = encA a := by
  cases n with
  | zero => exact h.elim
  | succ n =>
    simp only [wt, Try.underlying41] at h
    obtain ⟨yss, h, rfl⟩ := h
    match yss, h with
    | [y0, y1, y2], ⟨h0, h1, h2, _⟩ =>
      obtain ⟨s0, q0, rfl⟩ := wt_str h0
      obtain ⟨s1, q1, rfl⟩ := wt_str h1
      obtain ⟨z, _, rfl⟩ := wt_int h2
      exact ⟨⟨s0, s1, z⟩, ⟨q0, q1⟩, rfl⟩

theorem wt_atts {n : Nat} {xs : List AV} (h : wt Try.prog n 22 xs) : ∃ l : List Att, l.length ≤ lim ∧ (∀ a ∈ l, a.fit) ∧ xs = [.sl 3 (l.map encA) none] := by
  cases n with
  | zero => exact h.elim
  | succ n =>
    simp only [wt, Try.underlying22] at h
    obtain ⟨es, hl, rfl, hm⟩ := h
    have key : ∀ es : List (List AV), (∀ x ∈ es, wt Try.prog n 41 x) → ∃ l : List Att, es.length = l.length ∧ (∀ a ∈ l, a.fit) ∧ es = l.map encA := by
      intro es
      induction es with
      | nil => exact fun _ => ⟨[], rfl, by simp, rfl⟩
      | cons e es ih =>
        intro hm
        obtain ⟨a, h1, rfl⟩ := wt_att (hm e (by simp))
        obtain ⟨l, h2, h3, rfl⟩ := ih fun x hx => hm x (by simp [hx])
        exact ⟨a :: l, by simp, by simpa using ⟨h1, h3⟩, rfl⟩
    obtain ⟨l, h1, h2, rfl⟩ := key es hm
    exact ⟨l, by rw [← h1]; exact hl, h2, rfl⟩

theorem wt_parts {n : Nat} {xs : List AV} (h : wt Try.prog (n + 1) 25 xs) : ∃ y0 y1 y2 y3 y4, wt Try.prog n 3 y0 ∧ wt Try.prog n 3 y1 ∧ wt Try.prog n 9 y2 ∧ wt Try.prog n 22 y3 ∧ wt Try.prog n 23 y4 ∧ xs = y0 ++ (y1 ++ (y2 ++ (y3 ++ y4))) := by
  rw [wt, Try.underlying25] at h
  obtain ⟨yss, h, rfl⟩ := h
  match yss, h with
  | [y0, y1, y2, y3, y4], ⟨h0, h1, h2, h3, h4, _⟩ => exact ⟨y0, y1, y2, y3, y4, h0, h1, h2, h3, h4, by simp⟩

theorem wt_node : ∀ (n : Nat) {xs : List AV}, wt Try.prog n 25 xs → ∃ nd : Nd, nd.fit ∧ xs = encN nd := by
  intro n
  induction n using Nat.strongRecOn with
  | ind n ih =>
    intro xs h
    cases n with
    | zero => exact h.elim
    | succ n =>
      obtain ⟨y0, y1, y2, y3, y4, h0, h1, h2, h3, h4, rfl⟩ := wt_parts h
      obtain ⟨k, _, rfl⟩ := wt_int h0
      obtain ⟨p, _, rfl⟩ := wt_int h1
      obtain ⟨t, q2, rfl⟩ := wt_str h2
      obtain ⟨al, q3, q3', rfl⟩ := wt_atts h3
      cases n with
      | zero => exact h4.elim
      | succ n =>
        rw [wt, Try.underlying23] at h4
        obtain ⟨es, hl, rfl, hm⟩ := h4
        have key : ∀ es : List (List AV), (∀ x ∈ es, wt Try.prog n 25 x) → ∃ l : List Nd, es.length = l.length ∧ fits l ∧ es = encNs l := by
          intro es
          induction es with
          | nil => exact fun _ => ⟨[], rfl, trivial, rfl⟩
          | cons e es ih' =>
            intro hm
            obtain ⟨a, h1, rfl⟩ := ih n (by omega) (hm e (by simp))
            obtain ⟨l, h2, h3, rfl⟩ := ih' fun x hx => hm x (by simp [hx])
            exact ⟨a :: l, by simpa using h2, ⟨h1, h3⟩, rfl⟩
        obtain ⟨l, h1, h2, rfl⟩ := key es hm
        exact ⟨.mk k p t al l, ⟨q2, q3, q3', by rw [← h1]; exact hl, h2⟩, rfl⟩

theorem arg_node {n : Nat} {v : AV} (h : argOf Try.prog n 25 v) : ∃ nd : Nd, nd.fit ∧ v = .agg (encN nd) := by
  obtain ⟨xs, rfl, h⟩ := h
  obtain ⟨nd, h1, rfl⟩ := wt_node _ h
  exact ⟨nd, h1, rfl⟩
theorem arg_str {n : Nat} {v : AV} (h : argOf Try.prog n 9 v) : ∃ s : List UInt8, s.length ≤ maxLen ∧ v = .str s := by
  obtain ⟨s, h1, h2⟩ := wt_str (show wt Try.prog n 9 [v] from h)
  injection h2 with h2 _
  exact ⟨s, h1, h2⟩
theorem arg_int {n : Nat} {v : AV} (h : argOf Try.prog n 3 v) : ∃ z : Int, (Lit.int .i64 z).wf = true ∧ v = .int .i64 z := by
  obtain ⟨s, h1, h2⟩ := wt_int (show wt Try.prog n 3 [v] from h)
  injection h2 with h2 _
  exact ⟨s, h1, h2⟩
end Go.Proofs.Ytkabpjmppjfdfaa

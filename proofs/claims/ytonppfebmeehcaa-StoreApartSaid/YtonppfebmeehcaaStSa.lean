/- A store: nodes killed one by one; the stay map of Sweep. Plain. -/
import Derived.Test.YtonppfebmeehcaaStL
namespace Go.Proofs.Ytonppfebmeehcaa
open Go.RowKit
set_option linter.unusedVariables false
set_option linter.unusedSimpArgs false

theorem le_sum {l : List Nat} {x : Nat} (h : x ∈ l) : x ≤ l.sum := by
  induction l with
  | nil => simp at h
  | cons y l ih =>
    rw [List.sum_cons]
    rcases List.mem_cons.1 h with e | e
    · omega
    · have := ih e; omega
theorem alive_pos {s : SS} {p : Nat} {h : Array Value} (hn : s.node p = some h) (hok : s.ok) : 0 < s.alive := by
  unfold SS.node at hn
  rw [Option.bind_eq_some_iff] at hn
  obtain ⟨x, hx, _⟩ := hn
  have hm := (look_mem hx).1
  have hp := (hok.key x hm).2.1
  unfold SS.alive
  have : liveOf x.ns ≤ (s.cks.map fun x => liveOf x.ns).sum := le_sum (List.mem_map.2 ⟨x, hm, rfl⟩)
  omega
/-- These nodes, that lived, live no more. -/
structure KillsRel (s s' : SS) (gl : List Nat) : Prop where
  log : s'.log = s.log
  n : s'.n = s.n
  pins : s'.pins = s.pins
  alive : s'.alive + gl.length = s.alive
  node : ∀ q, s'.node q = if q ∈ gl then none else s.node q
theorem KillsRel.nil (s : SS) : KillsRel s s [] := ⟨rfl, rfl, rfl, rfl, fun q => by simp⟩
theorem KillsRel.step {s s1 s2 : SS} {gl : List Nat} {p : Nat} (h : KillsRel s s1 gl) (hk : PutRel s1 s2 p none (s1.alive - 1)) (ha : 0 < s1.alive) : KillsRel s s2 (gl ++ [p]) :=
  ⟨hk.log.trans h.log, hk.n.trans h.n, hk.pins.trans h.pins, by rw [hk.alive, List.length_append, List.length_singleton]; have := h.alive; omega, fun q => by
    rw [hk.node]
    by_cases e : q = p
    · subst e; simp
    · rw [if_neg e, h.node]
      simp [e]⟩
def KillsInv (w0 : World) (b : Nat) (s : SS) (gl : List Nat) (wr : World) : Prop :=
  ∃ s', StIs wr b s' ∧ KillsRel s s' gl ∧ Mv (s.foot b) (s'.foot b) w0 wr
theorem KillsInv.nil {w0 : World} {b : Nat} {s : SS} (h : StIs w0 b s) : KillsInv w0 b s [] w0 := ⟨s, h, KillsRel.nil s, Chg.refl _ _, fun k hk => .inl hk⟩
theorem Mv.trans {F G H : List Nat} {a b c : World} (h : Mv F G a b) (k : Mv G H b c) : Mv F H a c :=
  ⟨h.1.trans k.1 h.2, fun x hx => (k.2 x hx).elim (h.2 x) (fun q => .inr (by have := h.1.size; omega))⟩
theorem Mv.refl (F : List Nat) (w : World) : Mv F F w w := ⟨Chg.refl _ _, fun k hk => .inl hk⟩
theorem Mv.chg0 {F G : List Nat} {a b c : World} (h : Mv F G a b) (k : Chg [] b c) : Mv F G a c := ⟨h.1.nil_trans k, h.2⟩
theorem KillsInv.step {w0 wr w' : World} {b : Nat} {s : SS} {gl : List Nat} {p : Nat} {s1 : SS} {e : Ending} (h1 : KillsRel s s1 gl) (h2 : StIs wr b s1) (h3 : Mv (s.foot b) (s1.foot b) w0 wr) {h : Array Value} (hn : s1.node p = some h) (hk : KillPost wr b s1 p e w') : KillsInv w0 b s (gl ++ [p]) w' := by
  obtain ⟨_, s2, h4, h5, h6⟩ := hk
  exact ⟨s2, h4, h1.step h5 (alive_pos hn h2.2.2.2.2.2), h3.trans h6⟩
/-- Is p to go: it is not to stay, and has no pin? -/
def goes (s : SS) (keep : List Nat) (p : Nat) : Bool := decide (keep.count p = 0) && decide (s.pin p = 0)
/-- What a sweep comes to. -/
def SweepP (w : World) (b : Nat) (s : SS) (keep : List Nat) (e : Ending) (w' : World) : Prop :=
  ∃ s' gl, e = .returned (.int .u64 (gl.length : Nat)) ∧ StIs w' b s' ∧ KillsRel s s' gl ∧ Mv (s.foot b) (s'.foot b) w w' ∧ gl.Nodup ∧ ∀ q, q ∈ gl ↔ (s.node q).isSome = true ∧ goes s keep q = true
/-- The map of what is to stay. -/
def StayIs (l : List Nat) (w : World) (mb : Nat) : Prop := ∃ m, MapIs encU w mb m ∧ ∀ p, (mget m p).getD (.int .i64 0) = .int .i64 (l.count p : Nat)
theorem StayIs.chg {l : List Nat} {w w' : World} {mb : Nat} {F : List Nat} (h : StayIs l w mb) (hc : Chg F w w') (hF : mb ∉ F) : StayIs l w' mb := by
  obtain ⟨m, h1, h2⟩ := h; exact ⟨m, h1.chg hc hF, h2⟩
theorem StayIs.look {l : List Nat} {w : World} {mb : Nat} (h : StayIs l w mb) (p : Nat) : (Instr.lookup 78 (.map (some mb)) (.int .u64 p) false).run Try.prog w = .ok (.int .i64 (l.count p : Nat)) w := by
  obtain ⟨m, h1, h2⟩ := h
  have := h1.look encU_law u_mapp z_int p false
  unfold encU at this
  rw [this]
  simp only [Bool.false_eq_true, if_false]
  rw [h2 p]
theorem StayIs.upd {l : List Nat} {w : World} {mb : Nat} (h : StayIs l w mb) (p : Nat) : ∃ o, (Instr.mapUpdate 78 (.map (some mb)) (.int .u64 p) (.int .i64 ((l.count p : Nat) + 1 : Int))).run Try.prog w = .ok () (setMap w mb o) ∧ StayIs (l ++ [p]) (setMap w mb o) mb := by
  obtain ⟨m, h1, h2⟩ := h
  obtain ⟨o, h3, h4⟩ := h1.upd encU_law u_mapp p (.int .i64 ((l.count p : Nat) + 1 : Int))
  refine ⟨o, h3, _, h4, fun q => ?_⟩
  rw [mget_put]
  by_cases e : q = p
  · subst e; rw [if_pos rfl, Option.getD_some, List.count_append]; simp
  · rw [if_neg e, h2, List.count_append]
    have : [p].count q = 0 := by simp [List.count_cons]; exact fun e2 => e e2.symm
    rw [this, Nat.add_zero]
theorem StayIs.new (w : World) : StayIs [] (w.alloc (.map #[] 0)) w.heap.size := ⟨[], MapIs.new _ w, fun p => by simp [mget]⟩
end Go.Proofs.Ytonppfebmeehcaa

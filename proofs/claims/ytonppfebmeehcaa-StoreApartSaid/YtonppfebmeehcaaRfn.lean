/- A range over a function: what an iterator and its rounds promise each other, told by blocks; the statement's law. Nothing of a program. -/
import Derived.Test.YtonppfebmeehcaaBase
import Derived.RangeFuncLeaves
import Derived.RangeFuncSeq
import Derived.Lib.Hide
namespace Go.Proofs.Ytonppfebmeehcaa
open Go.RowKit
set_option linter.unusedVariables false
set_option linter.unusedSimpArgs false

section
variable {α : Type}
/-- What is told of the blocks D stays while others, from s on, change. -/
def Stays (s : Nat) (J : List α → List Nat → World → Prop) : Prop :=
  ∀ pre D W W' F, J pre D W → Chg F W W' → (∀ k ∈ F, k ∉ D ∧ s ≤ k) → J pre D W'
/-- The blocks D' behind a step from W to W' that had D: those of D, and new ones. -/
def Dok (D : List Nat) (W : World) (D' : List Nat) (W' : World) : Prop := ∀ k ∈ D', k < W'.heap.size ∧ (k ∈ D ∨ W.heap.size ≤ k)
/-- How a round ends. -/
def RoundP (J Jx : List α → List Nat → World → Prop) (xs : List α) (D : List Nat) (W : World) (e : Ending) (W' : World) : Prop :=
  ∃ D', Dok D W D' W' ∧ Chg D W W' ∧ ((e = .returned (.bool true) ∧ J xs D' W') ∨ (e = .returned (.bool false) ∧ Jx xs D' W'))
/-- How an iterator ends. -/
def SeqP (S Sp : List α → Prop) (J Jx : List α → List Nat → World → Prop) (e : Ending) (W' : World) : Prop :=
  (∃ v, e = .returned v) ∧ ((∃ xs D', S xs ∧ J xs D' W') ∨ (∃ pre D', Sp pre ∧ Jx pre D' W'))
/-- The contract of an iterator: in every world that has nothing turned since w. -/
def Seq (P : Program) (g : Nat) (lb : Array Value) (encs : α → Array Value) (S Sp : List α → Prop) (foot : List Nat) (w : World) : Prop :=
  ∀ (l : Nat) (J Jx : List α → List Nat → World → Prop) (W : World) (D : List Nat), Chg [] w W → Stays W.heap.size J → Stays W.heap.size Jx →
    (∀ pre x W1 D1, J pre D1 W1 → (∀ k ∈ D1, k < W1.heap.size) → Sp (pre ++ [x]) → YieldAt Fence.wide 0 P l (encs x) W1 (RoundP J Jx (pre ++ [x]) D1 W1)) →
    J [] D W → (∀ k ∈ D, k < W.heap.size ∧ k ∉ foot) →
    CallsIn Fence.wide 0 P g (#[.func (.yield l) #[] #[]] ++ lb) W (SeqP S Sp J Jx)
theorem Seq.later {P : Program} {g : Nat} {lb : Array Value} {encs : α → Array Value} {S Sp : List α → Prop} {foot : List Nat} {w w' : World} (h : Seq P g lb encs S Sp foot w) (hc : Chg [] w w') : Seq P g lb encs S Sp foot w' :=
  fun l J Jx W D hW => h l J Jx W D (hc.nil_trans hW)
/-- How the body of a round may be left. -/
def BodyP (I : List α → List Nat → World → Prop) (Ix : Code → List α → List Nat → World → Prop) (xs : List α) (D : List Nat) (W : World) : Exit → Act → World → Prop
  | .normal, _, W' => ∃ D', Dok D W D' W' ∧ Chg D W W' ∧ I xs D' W'
  | .ret, _, W' => ∃ D', Dok D W D' W' ∧ Chg D W W' ∧ Ix .ret xs D' W'
  | .exit id, _, W' => ∃ D', Dok D W D' W' ∧ Chg D W W' ∧ Ix (.exit id) xs D' W'
  | .goto t, _, W' => ∃ D', Dok D W D' W' ∧ Chg D W W' ∧ Ix (.goto t) xs D' W'
  | .panic _, _, _ => False
  | .outgrown, _, _ => False

theorem chg_put (W : World) (l : Nat) (o : Obj) : Chg [l] W (W.putObj l o) :=
  ⟨rfl, rfl, rfl, by simp, fun k _ hk => World.putObj_heap_other (fun e => hk (by simp [e]))⟩

variable {P : Program}
theorem wpIn_range {g : Operand} {ps : Array Tmp} {assign body : Code} {Q : Exit → Act → World → Prop} {a : Act} {w : World}
    {gf : Nat} {lb : Array Value} (hg : a.eval g = .func (.func gf) #[] lb) (eg : ∀ args w, (callFunc gf args).run P w = .ok (.enter gf args) w)
    {encs : α → Array Value} {S Sp : List α → Prop} {foot : List Nat} {w0 : World} (hseq : Seq P gf lb encs S Sp foot w0) (hb0 : Chg [] w0 w) (hps : ∀ x, (encs x).size = ps.size)
    (I : List α → List Nat → World → Prop) (Ix : Code → List α → List Nat → World → Prop) (D0 : List Nat) (hD0 : ∀ k ∈ D0, k < w.heap.size ∧ k ∉ foot) (hft : ∀ k ∈ foot, k < w.heap.size)
    (hI : Stays w.heap.size I) (hIx : ∀ c, Stays w.heap.size (Ix c)) (h0 : I [] D0 w)
    (Ax : α → Act → List α → List Nat → World → Prop) (hAx : ∀ x a', Stays w.heap.size (Ax x a'))
    (hassign : ∀ (l : Nat) (pre : List α) (x : α) (W : World) (D1 : List Nat) (K : Act → World → Prop), I pre D1 W → (∀ k ∈ D1, k < W.heap.size) → Sp (pre ++ [x]) →
      (∀ a' W' D2, Dok D1 W D2 W' → Chg D1 W W' → Ax x a' pre D2 W' → K a' W') →
      assign.wpIn (Fence.wide.inRound l) 0 P (Exit.then K (fun _ _ _ => False)) { tmps := (ps.zip (encs x)).foldl (fun t (p, v) => t.setIfInBounds p v) a.tmps, defers := [] } W)
    (hbody : ∀ (l : Nat) (pre : List α) (x : α) (a' : Act) (W : World) (D1 : List Nat), Ax x a' pre D1 W → (∀ k ∈ D1, k < W.heap.size) → Sp (pre ++ [x]) → body.wpIn (Fence.wide.inRound l) 0 P (BodyP I Ix (pre ++ [x]) D1 W) a' W)
    (hdone : ∀ (D : Nat) (xs : List α) (D1 : List Nat) (W : World), w.heap.size ≤ D → D ∉ D1 → S xs → I xs D1 W → W.heap[D]? = some (.deferred (some [])) → Q .normal { a with defers := { target := .collected D, args := #[] } :: a.defers } W)
    (hstop : ∀ (D : Nat) (c : Code) (pre : List α) (D1 : List Nat) (W : World), w.heap.size ≤ D → D ∉ D1 → Sp pre → Ix c pre D1 W → W.heap[D]? = some (.deferred (some [])) → c.wpIn Fence.wide 0 P Q { a with defers := { target := .collected D, args := #[] } :: a.defers } W) :
    (Code.rangeFunc g ps assign body).wpIn Fence.wide 0 P Q a w := by
  refine wpIn_rangeFunc ?_
  intro fn hfn
  have hro : Fence.wide.round = none := rfl
  rw [hro]
  obtain ⟨rec, hrec⟩ : ∃ rec : LoopState → Option Code → Loop, rec = fun st pe => { state := st, pending := pe, fn, tmps := a.tmps, params := ps, assign, body, defers := w.heap.size } := ⟨_, rfl⟩
  obtain ⟨W1, hW1⟩ : ∃ W1, (w.alloc (.deferred (some []))).alloc (.loop (rec .ready none)) = W1 := ⟨_, rfl⟩
  have hL1 : W1.heap[w.heap.size + 1]? = some (.loop (rec .ready none)) := by
    rw [← hW1]; have := blk_new (w.alloc (.deferred (some []))) (.loop (rec .ready none)); rwa [World.size_alloc] at this
  have hK1 : W1.heap[w.heap.size]? = some (.deferred (some [])) := by
    rw [← hW1]; exact blk_alloc (blk_new w _) _
  have hc1 : Chg [] w W1 := by rw [← hW1]; exact ((Chg.refl _ _).alloc _).alloc _
  have hs1 : W1.heap.size = w.heap.size + 2 := by rw [← hW1]; simp
  have hI1 : I [] D0 W1 := hI _ _ _ _ [] h0 hc1 (by simp)
  refine ⟨w.heap.size + 1, [{ target := .collected w.heap.size, args := #[] }], W1, { target := .fn (.func gf) lb, args := #[.func (.yield (w.heap.size + 1)) #[] #[]] }, W1, gf,
    #[.func (.yield (w.heap.size + 1)) #[] #[]] ++ lb, W1, ?_, ?_, ?_, ?_, (fun h => (by cases h)), ?_⟩
  · rw [← hW1, hrec]; exact run_enterLoop_outer _ _ _ _ _
  · simp only [resolve, hg]
    simp [go_sem]
  · intro f' hf'; exact trivial
  · simp [invoke, go_sem, eg]
  · refine (hseq (w.heap.size + 1)
      (fun pre D W => ∃ D1, D = (w.heap.size + 1) :: w.heap.size :: D1 ∧ (w.heap.size + 1) ∉ D1 ∧ w.heap.size ∉ D1 ∧ I pre D1 W ∧ W.heap[w.heap.size + 1]? = some (.loop (rec .ready none)) ∧ W.heap[w.heap.size]? = some (.deferred (some [])))
      (fun pre D W => ∃ c D1, D = (w.heap.size + 1) :: w.heap.size :: D1 ∧ (w.heap.size + 1) ∉ D1 ∧ w.heap.size ∉ D1 ∧ Ix c pre D1 W ∧ W.heap[w.heap.size + 1]? = some (.loop (rec .done (some c))) ∧ W.heap[w.heap.size]? = some (.deferred (some [])))
      W1 ((w.heap.size + 1) :: w.heap.size :: D0) (hb0.nil_trans hc1) ?_ ?_ ?_ ⟨D0, rfl, fun h => by have := (hD0 _ h).1; omega, fun h => by have := (hD0 _ h).1; omega, hI1, hL1, hK1⟩ ?_).mono ?_
    · rintro pre D W W' F ⟨D1, rfl, n1, n2, hi, hl, hk⟩ hc hF
      exact ⟨D1, rfl, n1, n2, hI _ _ _ _ F hi hc (fun k hk => ⟨fun h => (hF k hk).1 (by simp [h]), by have := (hF k hk).2; omega⟩),
        hc.at hl (fun h => (hF _ h).1 (by simp)), hc.at hk (fun h => (hF _ h).1 (by simp))⟩
    · rintro pre D W W' F ⟨c, D1, rfl, n1, n2, hi, hl, hk⟩ hc hF
      exact ⟨c, D1, rfl, n1, n2, hIx c _ _ _ _ F hi hc (fun k hk => ⟨fun h => (hF k hk).1 (by simp [h]), by have := (hF k hk).2; omega⟩),
        hc.at hl (fun h => (hF _ h).1 (by simp)), hc.at hk (fun h => (hF _ h).1 (by simp))⟩
    · rintro pre x W0 D ⟨D0', rfl, n1', n2', hi, hl0, hk0⟩ hlt0 hsp
      have hll0 : w.heap.size + 1 < W0.heap.size := blk_lt hl0
      have hy := run_yield (P := P) (args := encs x) hl0 (by rw [hrec]; exact hps x)
      rw [hrec] at hy
      refine ⟨fn, _, assign, body, hy, roundIn_of_wpIn hfn (hassign _ pre x W0 D0' _ hi (fun k hk' => hlt0 k (by simp [hk'])) hsp (fun a' W D1 hd0 hc0 hax => ?_))⟩
      have hl : W.heap[w.heap.size + 1]? = some (.loop (rec .ready none)) := hc0.at hl0 n1'
      have hk : W.heap[w.heap.size]? = some (.deferred (some [])) := hc0.at hk0 n2'
      have n1 : (w.heap.size + 1) ∉ D1 := fun h => (hd0 _ h).2.elim n1' (fun q => by omega)
      have n2 : w.heap.size ∉ D1 := fun h => (hd0 _ h).2.elim n2' (fun q => by omega)
      refine ⟨_, run_beginRound hl (by rw [hrec]), ?_⟩
      have hll : w.heap.size + 1 < W.heap.size := blk_lt hl
      have hl2 : (W.putObj (w.heap.size + 1) (.loop { rec .ready none with state := .busy })).heap[w.heap.size + 1]? = some (.loop { rec .ready none with state := .busy }) := World.putObj_heap_same hll
      have hk2 : (W.putObj (w.heap.size + 1) (.loop { rec .ready none with state := .busy })).heap[w.heap.size]? = some (.deferred (some [])) := (World.putObj_heap_other (by omega)).trans hk
      have hc2 := chg_put W (w.heap.size + 1) (.loop { rec .ready none with state := .busy })
      have hsz2 : (W.putObj (w.heap.size + 1) (.loop { rec .ready none with state := .busy })).heap.size = W.heap.size := by simp
      generalize W.putObj (w.heap.size + 1) (.loop { rec .ready none with state := .busy }) = W2 at *
      refine wpIn_mono (hbody _ pre x a' _ D1 (hAx _ _ _ _ _ _ _ hax hc2 (by simp; exact n1)) (fun k hk' => by rw [hsz2]; exact (hd0 k hk').1) hsp) ?_
      have fin : ∀ (jump : Option Code) (W3 : World) (D3 : List Nat), Dok D1 W2 D3 W3 → Chg D1 W2 W3 →
          (Instr.endRound (w.heap.size + 1) jump).run P W3 = .ok (.bool jump.isNone) (W3.putObj (w.heap.size + 1) (.loop (rec (if jump.isNone then .ready else .done) jump))) ∧
          (W3.putObj (w.heap.size + 1) (.loop (rec (if jump.isNone then .ready else .done) jump))).heap[w.heap.size + 1]? = some (.loop (rec (if jump.isNone then .ready else .done) jump)) ∧
          (W3.putObj (w.heap.size + 1) (.loop (rec (if jump.isNone then .ready else .done) jump))).heap[w.heap.size]? = some (.deferred (some [])) ∧
          (w.heap.size + 1) ∉ D3 ∧ w.heap.size ∉ D3 ∧
          Dok ((w.heap.size + 1) :: w.heap.size :: D0') W0 ((w.heap.size + 1) :: w.heap.size :: D3) (W3.putObj (w.heap.size + 1) (.loop (rec (if jump.isNone then .ready else .done) jump))) ∧
          Chg ((w.heap.size + 1) :: w.heap.size :: D0') W0 (W3.putObj (w.heap.size + 1) (.loop (rec (if jump.isNone then .ready else .done) jump))) ∧
          Chg [w.heap.size + 1] W3 (W3.putObj (w.heap.size + 1) (.loop (rec (if jump.isNone then .ready else .done) jump))) := fun jump W3 D3 hd hc3 => by
        have hl3 := hc3.at hl2 n1
        have := run_endRound (P := P) jump hl3
        have hn : (w.heap.size + 1) ∉ D3 ∧ w.heap.size ∉ D3 := ⟨fun h => (hd _ h).2.elim n1 (fun q => by omega), fun h => (hd _ h).2.elim n2 (fun q => by omega)⟩
        rw [hrec] at this ⊢
        refine ⟨this, World.putObj_heap_same (blk_lt hl3), (World.putObj_heap_other (by omega)).trans (hc3.at hk2 n2), hn.1, hn.2, ?_, ?_, chg_put _ _ _⟩
        · intro k hk'
          have hs3 := hc3.size
          have hs0 := hc0.size
          rcases List.mem_cons.1 hk' with q | hk'
          · subst q; exact ⟨by simp; omega, .inl (by simp)⟩
          · rcases List.mem_cons.1 hk' with q | hk'
            · subst q; exact ⟨by simp; omega, .inl (by simp)⟩
            · have := hd k hk'
              exact ⟨by simp; omega, this.2.elim (fun q => (hd0 k q).2.elim (fun q => .inl (by simp [q])) (fun q => .inr (by omega))) (fun q => .inr (by omega))⟩
        · have q0 : Chg ((w.heap.size + 1) :: w.heap.size :: D0') W0 W := hc0.mono (fun k hk _ => by simp [hk])
          have q1 := q0.trans hc2 (fun k hk => .inl (by simp at hk; simp [hk]))
          have q2 := q1.trans hc3 (fun k hk => (hd0 k hk).2.elim (fun q => .inl (by simp [q])) .inr)
          exact q2.trans (chg_put W3 (w.heap.size + 1) _) (fun k hk => .inl (by simp at hk; simp [hk]))
      rintro e a3 W3 hp
      cases e with
      | normal =>
        obtain ⟨D3, hd3, hc3, hi3⟩ := hp
        obtain ⟨hr, hl4, hk4, m1, m2, hd4, hc4, hc5⟩ := fin none W3 D3 hd3 hc3
        exact ⟨_, _, hr, _, hd4, hc4, .inl ⟨rfl, D3, rfl, m1, m2, hI _ _ _ _ _ hi3 hc5 (by simp; exact m1), hl4, hk4⟩⟩
      | ret =>
        obtain ⟨D3, hd3, hc3, hi3⟩ := hp
        obtain ⟨hr, hl4, hk4, m1, m2, hd4, hc4, hc5⟩ := fin (some .ret) W3 D3 hd3 hc3
        exact ⟨_, _, hr, _, hd4, hc4, .inr ⟨rfl, .ret, D3, rfl, m1, m2, hIx _ _ _ _ _ _ hi3 hc5 (by simp; exact m1), hl4, hk4⟩⟩
      | exit id =>
        obtain ⟨D3, hd3, hc3, hi3⟩ := hp
        obtain ⟨hr, hl4, hk4, m1, m2, hd4, hc4, hc5⟩ := fin (some (.exit id)) W3 D3 hd3 hc3
        exact ⟨_, _, hr, _, hd4, hc4, .inr ⟨rfl, .exit id, D3, rfl, m1, m2, hIx _ _ _ _ _ _ hi3 hc5 (by simp; exact m1), hl4, hk4⟩⟩
      | goto t =>
        obtain ⟨D3, hd3, hc3, hi3⟩ := hp
        obtain ⟨hr, hl4, hk4, m1, m2, hd4, hc4, hc5⟩ := fin (some (.goto t)) W3 D3 hd3 hc3
        exact ⟨_, _, hr, _, hd4, hc4, .inr ⟨rfl, .goto t, D3, rfl, m1, m2, hIx _ _ _ _ _ _ hi3 hc5 (by simp; exact m1), hl4, hk4⟩⟩
      | panic ch => exact hp.elim
      | outgrown => exact hp.elim
    · intro k hk
      rcases List.mem_cons.1 hk with q | hk
      · subst q; exact ⟨by omega, fun h => by have := hft _ h; omega⟩
      · rcases List.mem_cons.1 hk with q | hk
        · subst q; exact ⟨by omega, fun h => by have := hft _ h; omega⟩
        · have := hD0 k hk
          exact ⟨by omega, this.2⟩
    · rintro e W2 ⟨⟨v, rfl⟩, (⟨xs, D, hS, D1, rfl, n1, n2, hi, hl, hk⟩ | ⟨pre, D, hSp, c, D1, rfl, n1, n2, hi, hl, hk⟩)⟩
      · exact ⟨none, _, by have := run_endLoop (P := P) hl (by rw [hrec]; simp); rw [hrec] at this; exact this, hdone _ xs D1 _ (Nat.le_refl _) n2 hS (hI _ _ _ _ _ hi (chg_put _ _ _) (by simp; exact n1)) ((World.putObj_heap_other (by omega)).trans hk)⟩
      · exact ⟨some c, _, by have := run_endLoop (P := P) hl (by rw [hrec]; simp); rw [hrec] at this; exact this, hstop _ c pre D1 _ (Nat.le_refl _) n2 hSp (hIx c _ _ _ _ _ hi (chg_put _ _ _) (by simp; exact n1)) ((World.putObj_heap_other (by omega)).trans hk)⟩
end
end Go.Proofs.Ytonppfebmeehcaa

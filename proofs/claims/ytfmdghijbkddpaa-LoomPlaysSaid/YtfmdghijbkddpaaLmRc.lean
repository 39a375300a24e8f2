/- The document's loom: what a move makes: the memory. -/
import Derived.Test.YtfmdghijbkddpaaLmRa
import Derived.Test.YtfmdghijbkddpaaLmEa
namespace Go.Proofs.Ytfmdghijbkddpaa
open Go.RowKit
set_option linter.unusedVariables false
set_option linter.unusedSimpArgs false

theorem RefIs.upd {w w' : World} {b : Nat} {s s' : LS} {q : RV} (h : RefIs w b s q) (hC : Chg [b] w w')
    (hb : w'.heap[b]? = some (.cells #[.int .i64 s'.jobs, .int .i64 s'.room, .int .i64 s'.next, .bool s'.shut, q.lv.cv, .bool s'.shut, q.lv.wv, .bool (decide (s'.out ≠ 0)), q.lv.av, .int .i64 s'.out, .bool s'.canc, .int .i64 s'.made, .int .i64 s'.top] 64 (0, 0)))
    (hch : s'.ch = s.ch) (hws : s'.ws = s.ws) (hans : s'.ans = s.ans) (hok : s'.ok) : RefIs w' b s' q := by
  have hn := h.2.2.2.2.1
  have hnb : ∀ k ∈ q.lv.cv.ownBlock.toList ++ q.lv.wv.ownBlock.toList ++ q.lv.av.ownBlock.toList, k ≠ b := by
    intro k hk e
    subst e
    simp only [LV.foot, List.cons_append, List.nodup_cons] at hn
    exact hn.1 hk
  refine ⟨hb, ?_, ?_, ?_, hn, hok, by rw [hws]; exact h.2.2.2.2.2.2⟩
  · rw [hch]
    exact h.2.1.chg hC (fun g hg => by have := hnb g (by simp [hg]); simpa using this)
  · exact h.2.2.1.chg hC (fun g hg => by have := hnb g (by simp [hg]); simpa using this)
  · rw [hans]
    exact h.2.2.2.1.chg hC (fun g hg => by have := hnb g (by simp [hg]); simpa using this)

/-- A worker's cell set anew. -/
theorem RefIs.setR {w : World} {b : Nat} {s : LS} {q : RV} (h : RefIs w b s q) {g o cap : Nat} (hv : q.lv.wv = .slice (some ⟨g, o, none⟩) s.ws.length cap) (i : Nat) (hi : i < s.ws.length) (x : Nat × Nat) (y : Int × Bool) (hx : x.1 ≤ 2 ∧ x.2 ≤ 65536) (hxy : WkOk x y) (j : Nat) (u : Value)
    (hu : (rCells q.rs).set j u = rCells (q.rs.set i y)) (hj : j < s.ws.length * 2) :
    RefIs (w.setCell ⟨g, o + j, none⟩ u) b (s.setW i x) { q with rs := q.rs.set i y } := by
  have hr := h.2.2.1
  have hlen := h.2.2.2.2.2.2.len
  rw [hlen, hv] at hr
  have hn := h.2.2.2.2.1
  have hC : Chg [g] w (w.setCell ⟨g, o + j, none⟩ u) := (Chg.refl [g] w).setCell (p := ⟨g, _, none⟩) (by simp) _
  have hg : q.lv.wv.ownBlock = some g := by rw [hv]; rfl
  obtain ⟨n1, n2, n3, n4, n5⟩ := foot_ne hn
  refine ⟨hC.at h.1 (by simp; intro e; subst e; exact n2 (by simp [hg])), ?_, ?_, ?_, hn, ?_, h.2.2.2.2.2.2.set i x y hxy⟩
  · exact h.2.1.chg hC (fun k hk => by simp; intro e; subst e; exact (n4 k hk).1 (by simp [hg]))
  · have := hr.put j hj u
    rw [hu] at this
    show RowIs _ _ 2 q.lv.wv (q.rs.set i y).length _
    rw [hv, List.length_set, hlen]
    exact this
  · exact h.2.2.2.1.chg hC (fun k hk => by simp; intro e; subst e; exact n5 k hg (by simp [hk]))
  · have hk := h.2.2.2.2.2.1
    exact ⟨hk.jobs, hk.room, hk.next, by simp only [LS.setW, List.length_set]; exact hk.ws, by
      intro z hz
      rcases List.mem_or_eq_of_mem_set hz with e | e
      · exact hk.st z e
      · rw [e]; exact hx, hk.ch, hk.ans, hk.out, hk.top, hk.made⟩

theorem RefIs.newCh {w W0 w6 : World} {b : Nat} {s : LS} {q : RV} (h : RefIs w b s q) (h0 : Chg [] w W0) (F : List Nat) (hF : ∀ x ∈ F, x ∈ q.lv.cv.ownBlock.toList ∨ w.heap.size ≤ x) (h6 : Chg F W0 w6) (v2 : Value) (ch' : List Nat) (hrow : RowIs w6 3 1 v2 ch'.length (iCells ch')) (hat : v2.ownBlock = q.lv.cv.ownBlock ∨ ∀ k, v2.ownBlock = some k → w.heap.size ≤ k)
    (hok : ({ s with ch := ch' } : LS).ok) : RefIs (w6.setCell ⟨b, 4, none⟩ v2) b { s with ch := ch' } { q with lv := { q.lv with cv := v2 } } ∧ Chg (q.lv.foot b) w (w6.setCell ⟨b, 4, none⟩ v2) ∧ ∀ k ∈ ({ q.lv with cv := v2 } : LV).foot b, k ∈ q.lv.foot b ∨ w.heap.size ≤ k := by
  have hs := h0.size
  obtain ⟨n1, n2, n3, n4, n5⟩ := foot_ne h.2.2.2.2.1
  have hlt := h.lt
  have hb := blk_lt h.1
  have hC : Chg [b] w6 (w6.setCell ⟨b, 4, none⟩ v2) := (Chg.refl [b] w6).setCell (p := ⟨b, 4, none⟩) (by simp) v2
  have hFn : ∀ x, x ∉ q.lv.cv.ownBlock.toList → x < w.heap.size → x ∉ F := by
    intro x h1 h2 h3
    rcases hF x h3 with e | e
    · exact h1 e
    · omega
  have hbF : b ∉ F := hFn b n1 hb
  have hv2 : ∀ k, v2.ownBlock = some k → k ≠ b ∧ k ∉ q.lv.wv.ownBlock.toList ∧ k ∉ q.lv.av.ownBlock.toList := by
    intro k hk
    rcases hat with e | e
    · rw [e] at hk
      exact ⟨fun x => n1 (by simp [hk, x]), n4 k hk⟩
    · have := e k hk
      refine ⟨by omega, fun x => ?_, fun x => ?_⟩
      · have := hlt k (by simp [LV.foot] at x ⊢; simp [x]); omega
      · have := hlt k (by simp [LV.foot] at x ⊢; simp [x]); omega
  have h1 := h6.at (h0.at h.1 (by simp)) hbF
  have hww : ∀ k, q.lv.wv.ownBlock = some k → k ∉ F := fun k hk => hFn k (fun hx => (n4 k (by simpa using hx)).1 (by simp [hk])) (hlt k (by simp [LV.foot, hk]))
  have haa : ∀ k, q.lv.av.ownBlock = some k → k ∉ F := fun k hk => hFn k (fun hx => (n4 k (by simpa using hx)).2 (by simp [hk])) (hlt k (by simp [LV.foot, hk]))
  refine ⟨⟨?_, hrow.chg hC (fun k hk => by simpa using (hv2 k hk).1), ?_, ?_, ?_, hok, h.2.2.2.2.2.2⟩, ?_, ?_⟩
  · exact blk_set h1 4 v2
  · exact ((h.2.2.1.chg0 h0).chg h6 hww).chg hC (fun k hk hx => n2 (by simp at hx; simp [hk, hx]))
  · exact ((h.2.2.2.1.chg0 h0).chg h6 haa).chg hC (fun k hk hx => n3 (by simp at hx; simp [hk, hx]))
  · have hn := h.2.2.2.2.1
    simp only [LV.foot, List.cons_append, List.nodup_cons, List.nodup_append, List.mem_append, not_or] at hn ⊢
    obtain ⟨⟨⟨a1, a2⟩, a3⟩, ⟨a4, a5, a6⟩, a7, a8⟩ := hn
    refine ⟨⟨⟨fun x => (hv2 b (by simpa using x)).1 rfl, a2⟩, a3⟩, ⟨?_, a5, ?_⟩, a7, ?_⟩
    · cases v2.ownBlock <;> simp
    · intro k hk l hl e
      subst e
      exact (hv2 k (by simpa using hk)).2.1 hl
    · rintro k (hk | hk) l hl e
      · subst e
        exact (hv2 k (by simpa using hk)).2.2 hl
      · exact a8 k (.inr hk) l hl e
  · refine (Chg.trans (h0.of_nil (F := q.lv.foot b)) h6 ?_).setCell (p := ⟨b, 4, none⟩) (by simp [LV.foot]) v2
    intro k hk
    rcases hF k hk with e | e
    · left
      simp only [LV.foot, List.mem_append, List.mem_cons]
      exact .inl (.inl (.inr e))
    · exact .inr e
  · intro k hk
    simp only [LV.foot, List.mem_append, List.mem_cons] at hk ⊢
    rcases hk with ((hk | hk) | hk) | hk
    · exact .inl (.inl (.inl (.inl hk)))
    · rcases hat with e | e
      · rw [e] at hk; exact .inl (.inl (.inl (.inr hk)))
      · exact .inr (e k (by simpa using hk))
    · exact .inl (.inl (.inr hk))
    · exact .inl (.inr hk)
theorem RefIs.newAns {w W0 w6 : World} {b : Nat} {s : LS} {q : RV} (h : RefIs w b s q) (h0 : Chg [] w W0) (h6 : Chg q.lv.av.ownBlock.toList W0 w6) (v2 : Value) (ch' : List Nat) (hrow : RowIs w6 3 1 v2 ch'.length (iCells ch')) (hat : v2.ownBlock = q.lv.av.ownBlock ∨ v2.ownBlock = some W0.heap.size)
    (hok : ({ s with ans := ch' } : LS).ok) : RefIs (w6.setCell ⟨b, 8, none⟩ v2) b { s with ans := ch' } { q with lv := { q.lv with av := v2 } } ∧ Chg (q.lv.foot b) w (w6.setCell ⟨b, 8, none⟩ v2) ∧ ∀ k ∈ ({ q.lv with av := v2 } : LV).foot b, k ∈ q.lv.foot b ∨ w.heap.size ≤ k := by
  have hs := h0.size
  obtain ⟨n1, n2, n3, n4, n5⟩ := foot_ne h.2.2.2.2.1
  have hlt := h.lt
  have hb := blk_lt h.1
  have hC : Chg [b] w6 (w6.setCell ⟨b, 8, none⟩ v2) := (Chg.refl [b] w6).setCell (p := ⟨b, 8, none⟩) (by simp) v2
  have hv2 : ∀ k, v2.ownBlock = some k → k ≠ b ∧ k ∉ q.lv.wv.ownBlock.toList ∧ k ∉ q.lv.cv.ownBlock.toList := by
    intro k hk
    rcases hat with e | e
    · rw [e] at hk
      exact ⟨fun x => n3 (by simp [hk, x]), fun x => n5 k (by simpa using x) (by simp [hk]), fun x => (n4 k (by simpa using x)).2 (by simp [hk])⟩
    · rw [e] at hk
      obtain rfl : W0.heap.size = k := by simpa using hk
      refine ⟨by omega, fun x => ?_, fun x => ?_⟩
      · have := hlt _ (by simp [LV.foot] at x ⊢; simp [x] : W0.heap.size ∈ q.lv.foot b); omega
      · have := hlt _ (by simp [LV.foot] at x ⊢; simp [x] : W0.heap.size ∈ q.lv.foot b); omega
  have h1 := h6.at (h0.at h.1 (by simp)) n3
  refine ⟨⟨?_, ?_, ?_, hrow.chg hC (fun k hk => by simpa using (hv2 k hk).1), ?_, hok, h.2.2.2.2.2.2⟩, ?_, ?_⟩
  · exact blk_set h1 8 v2
  · exact ((h.2.1.chg0 h0).chg h6 (fun k hk hx => (n4 k hk).2 hx)).chg hC (fun k hk hx => n1 (by simp at hx; simp [hk, hx]))
  · exact ((h.2.2.1.chg0 h0).chg h6 (fun k hk hx => n5 k hk hx)).chg hC (fun k hk hx => n2 (by simp at hx; simp [hk, hx]))
  · have hn := h.2.2.2.2.1
    simp only [LV.foot, List.cons_append, List.nodup_cons, List.nodup_append, List.mem_append, not_or] at hn ⊢
    obtain ⟨⟨⟨a1, a2⟩, a3⟩, ⟨a4, a5, a6⟩, a7, a8⟩ := hn
    refine ⟨⟨⟨a1, a2⟩, fun x => (hv2 b (by simpa using x)).1 rfl⟩, ⟨a4, a5, a6⟩, ?_, ?_⟩
    · cases v2.ownBlock <;> simp
    · rintro k (hk | hk) l hl e
      · subst e
        exact (hv2 k (by simpa using hl)).2.2 hk
      · subst e
        exact (hv2 k (by simpa using hl)).2.1 hk
  · refine (Chg.trans (h0.of_nil (F := q.lv.foot b)) h6 ?_).setCell (p := ⟨b, 8, none⟩) (by simp [LV.foot]) v2
    intro k hk
    left
    simp only [LV.foot, List.mem_append, List.mem_cons]
    exact .inr hk
  · intro k hk
    simp only [LV.foot, List.mem_append, List.mem_cons] at hk ⊢
    rcases hk with ((hk | hk) | hk) | hk
    · exact .inl (.inl (.inl (.inl hk)))
    · exact .inl (.inl (.inl (.inr hk)))
    · exact .inl (.inl (.inr hk))
    · rcases hat with e | e
      · rw [e] at hk; exact .inl (.inr hk)
      · rw [e] at hk; simp at hk; right; omega

def RMakeP (w : World) (b : Nat) (q : RV) (s' : LS) (w' : World) : Prop := ∃ q', RefIs w' b s' q' ∧ Chg (q.lv.foot b) w w' ∧ ∀ k ∈ q'.lv.foot b, k ∈ q.lv.foot b ∨ w.heap.size ≤ k
theorem RMakeP.next {w w1 w2 : World} {b : Nat} {q q1 : RV} {s2 : LS} (h1 : Chg (q.lv.foot b) w w1) (hf : ∀ k ∈ q1.lv.foot b, k ∈ q.lv.foot b ∨ w.heap.size ≤ k) (h : RMakeP w1 b q1 s2 w2) : RMakeP w b q s2 w2 := by
  obtain ⟨q', k1, k2, k3⟩ := h
  refine ⟨q', k1, h1.trans k2 hf, fun k hk => ?_⟩
  rcases k3 k hk with e | e
  · exact hf k e
  · have := h1.size
    right; omega

/-- A move but for the greatest gauge, which is looked at behind it. -/
def LS.mk0 (s : LS) (m : Mv) : LS := if m.kind = 2 then (if s.room = 0 then { s with made := s.made + 1, next := s.next + 1 } else { s with made := s.made + 1, ch := s.ch.drop 1 } : LS).setW m.who.toNat (1, m.job.toNat) else s.make m
theorem mk0_make (s : LS) (m : Mv) (hi : s.inv) (hc : s.Can m) : s.make m = { s.mk0 m with top := max (s.mk0 m).top (s.mk0 m).gauge } ∧ (s.mk0 m).top ≤ 64 ∧ (s.mk0 m).gauge ≤ 64 := by
  have hI := (inv_make s m hi hc).1
  by_cases hk : m.kind = 2
  · have e : s.mk0 m = (if s.room = 0 then { s with made := s.made + 1, next := s.next + 1 } else { s with made := s.made + 1, ch := s.ch.drop 1 } : LS).setW m.who.toNat (1, m.job.toNat) := by
      unfold LS.mk0
      rw [if_pos hk]
    have em : s.make m = { s.mk0 m with top := max (s.mk0 m).top (s.mk0 m).gauge } := by
      rw [e]
      unfold LS.make
      by_cases hr : s.room = 0
      · simp only [hk, hr]
        simp
      · simp only [hk, hr]
        simp
    refine ⟨em, ?_, ?_⟩
    · have h1 := hI.top.1
      have h2 := hI.ws
      have h3 : (s.mk0 m).top ≤ (s.make m).top := by rw [em]; exact Nat.le_max_left _ _
      omega
    · have h1 := hI.top.1
      have h2 := hI.ws
      have h3 : (s.mk0 m).gauge ≤ (s.make m).top := by rw [em]; exact Nat.le_max_right _ _
      omega
  · have e : s.mk0 m = s.make m := by
      unfold LS.mk0
      rw [if_neg hk]
    rw [e]
    have h1 := hI.top
    have h2 := hI.ws
    refine ⟨?_, by omega, by omega⟩
    have : max (s.make m).top (s.make m).gauge = (s.make m).top := Nat.max_eq_left h1.2.2
    rw [this]
end Go.Proofs.Ytfmdghijbkddpaa

/- The loom: a move made. -/
import Derived.Test.YtfmdghijbkddpaaLmD
import Derived.Test.YtfmdghijbkddpaaLmQ
namespace Go.Proofs.Ytfmdghijbkddpaa
open Go.RowKit
set_option linter.unusedVariables false
set_option linter.unusedSimpArgs false

theorem app_int {w : World} {v : Value} {l : List Nat} (h : RowIs w 3 1 v l.length (iCells l)) (hl : l.length ≤ 100000) (j : Nat) (g : Nat) (hg : w.heap[g]? = some (.cells #[.int .i64 j] 3 (0, 0))) :
    ∃ v' w', (apX #[34, 34] 34 #[v, .slice (some ⟨g, 0, none⟩) 1 1]).run Try.prog w = .ok v' w' ∧ RowIs w' 3 1 v' (l ++ [j]).length (iCells (l ++ [j])) ∧ Chg v.ownBlock.toList w w' ∧
      (v'.ownBlock = v.ownBlock ∨ v'.ownBlock = some w.heap.size) ∧ (∃ a cap, v' = .slice a (l.length + 1) cap) := by
  obtain ⟨i, hi, hz, hs, hb⟩ := infoOf i_int
  obtain ⟨v', w', q1, q2, q3, q4⟩ := h.app (P := Try.prog) 34 34 i _ 8 u_ints hi hz hs hb rfl (by omega) ⟨g, 0, none⟩ 1 1 [.int .i64 j] rfl
    (by
      intro k u hu
      rw [Addr.add_mid, Nat.zero_add, cell_of_row _ _ _ _ _ _ hg]
      simpa using hu)
    (by intro u hu; simp at hu; subst hu; rfl) (by unfold maxLen; omega) (by omega)
  obtain ⟨a, cap, hv, _⟩ := q2.slice
  refine ⟨v', w', q1, ?_, q3, q4, ⟨a, cap, hv⟩⟩
  rw [List.length_append, show iCells (l ++ [j]) = iCells l ++ [.int .i64 j] from by simp [iCells]]
  exact q2

theorem foot_ne {q : LV} {b : Nat} (hn : (q.foot b).Nodup) : b ∉ q.cv.ownBlock.toList ∧ b ∉ q.wv.ownBlock.toList ∧ b ∉ q.av.ownBlock.toList ∧ (∀ k, q.cv.ownBlock = some k → k ∉ q.wv.ownBlock.toList ∧ k ∉ q.av.ownBlock.toList) ∧ (∀ k, q.wv.ownBlock = some k → k ∉ q.av.ownBlock.toList) := by
  simp only [LV.foot, List.cons_append, List.nodup_cons, List.nodup_append, List.mem_append, not_or] at hn
  obtain ⟨⟨⟨h1, h2⟩, h3⟩, ⟨h4, h5, h6⟩, h7, h8⟩ := hn
  refine ⟨h1, h2, h3, ?_, ?_⟩
  · intro k hk
    refine ⟨fun h => h6 k (by simp [hk]) k h rfl, fun h => h8 k (.inl (by simp [hk])) k h rfl⟩
  · intro k hk h
    exact h8 k (.inr (by simp [hk])) k h rfl

theorem LmIs.newCh {w W0 w6 : World} {b : Nat} {s : LS} {q : LV} (h : LmIs w b s q) (h0 : Chg [] w W0) (h6 : Chg q.cv.ownBlock.toList W0 w6) (v2 : Value) (ch' : List Nat) (hrow : RowIs w6 3 1 v2 ch'.length (iCells ch')) (hat : v2.ownBlock = q.cv.ownBlock ∨ v2.ownBlock = some W0.heap.size)
    (hok : ({ s with ch := ch' } : LS).ok) : LmIs (w6.setCell ⟨b, 3, none⟩ v2) b { s with ch := ch' } { q with cv := v2 } ∧ Chg (q.foot b) w (w6.setCell ⟨b, 3, none⟩ v2) ∧ ∀ k ∈ ({ q with cv := v2 } : LV).foot b, k ∈ q.foot b ∨ w.heap.size ≤ k := by
  have hs := h0.size
  obtain ⟨n1, n2, n3, n4, n5⟩ := foot_ne h.2.2.2.2.1
  have hlt := h.lt
  have hb := blk_lt h.1
  have hC : Chg [b] w6 (w6.setCell ⟨b, 3, none⟩ v2) := (Chg.refl [b] w6).setCell (p := ⟨b, 3, none⟩) (by simp) v2
  have hv2 : ∀ k, v2.ownBlock = some k → k ≠ b ∧ k ∉ q.wv.ownBlock.toList ∧ k ∉ q.av.ownBlock.toList := by
    intro k hk
    rcases hat with e | e
    · rw [e] at hk
      exact ⟨fun x => n1 (by simp [hk, x]), n4 k hk⟩
    · rw [e] at hk
      obtain rfl : W0.heap.size = k := by simpa using hk
      refine ⟨by omega, fun x => ?_, fun x => ?_⟩
      · have := hlt _ (by simp [LV.foot] at x ⊢; simp [x] : W0.heap.size ∈ q.foot b); omega
      · have := hlt _ (by simp [LV.foot] at x ⊢; simp [x] : W0.heap.size ∈ q.foot b); omega
  have h1 : w6.heap[b]? = some (.cells #[.int .i64 s.jobs, .int .i64 s.room, .int .i64 s.next, q.cv, .bool s.shut, q.wv, q.av, .int .i64 s.out, .bool s.canc, .int .i64 s.top, .int .i64 s.made] 51 (0, 0)) := h6.at (h0.at h.1 (by simp)) n1
  refine ⟨⟨?_, hrow.chg hC (fun k hk => by simpa using (hv2 k hk).1), ?_, ?_, ?_, hok⟩, ?_, ?_⟩
  · exact blk_set h1 3 v2
  · exact ((h.2.2.1.chg0 h0).chg h6 (fun k hk hx => (n4 k (by simpa using hx)).1 (by simp [hk]))).chg hC (fun k hk hx => n2 (by simp at hx; simp [hk, hx]))
  · exact ((h.2.2.2.1.chg0 h0).chg h6 (fun k hk hx => (n4 k (by simpa using hx)).2 (by simp [hk]))).chg hC (fun k hk hx => n3 (by simp at hx; simp [hk, hx]))
  · have hn := h.2.2.2.2.1
    simp only [LV.foot, List.cons_append, List.nodup_cons, List.nodup_append, List.mem_append, not_or] at hn ⊢
    obtain ⟨⟨⟨a1, a2⟩, a3⟩, ⟨a4, a5, a6⟩, a7, a8⟩ := hn
    refine ⟨⟨⟨fun x => (hv2 b (by simpa using x)).1 rfl, a2⟩, a3⟩, ⟨?_, a5, ?_⟩, a7, ?_⟩
    · cases v2.ownBlock <;> simp
    · intro k hk l hl e
      subst e
      exact (hv2 k (by simpa using hk)).2.1 hl
    · rintro k (hk | hk) l hl e
      · subst e
        exact (hv2 k (by simpa using hk)).2.2 hl
      · exact a8 k (.inr hk) l hl e
  · refine (Chg.trans (h0.of_nil (F := q.foot b)) h6 ?_).setCell (p := ⟨b, 3, none⟩) (by simp [LV.foot]) v2
    intro k hk
    left
    simp only [LV.foot, List.mem_append, List.mem_cons]
    exact .inl (.inl (.inr hk))
  · intro k hk
    simp only [LV.foot, List.mem_append, List.mem_cons] at hk ⊢
    rcases hk with ((hk | hk) | hk) | hk
    · exact .inl (.inl (.inl (.inl hk)))
    · rcases hat with e | e
      · rw [e] at hk; exact .inl (.inl (.inl (.inr hk)))
      · rw [e] at hk; simp at hk; right; omega
    · exact .inl (.inl (.inr hk))
    · exact .inl (.inr hk)
theorem LmIs.newAns {w W0 w6 : World} {b : Nat} {s : LS} {q : LV} (h : LmIs w b s q) (h0 : Chg [] w W0) (h6 : Chg q.av.ownBlock.toList W0 w6) (v2 : Value) (ch' : List Nat) (hrow : RowIs w6 3 1 v2 ch'.length (iCells ch')) (hat : v2.ownBlock = q.av.ownBlock ∨ v2.ownBlock = some W0.heap.size)
    (hok : ({ s with ans := ch' } : LS).ok) : LmIs (w6.setCell ⟨b, 6, none⟩ v2) b { s with ans := ch' } { q with av := v2 } ∧ Chg (q.foot b) w (w6.setCell ⟨b, 6, none⟩ v2) ∧ ∀ k ∈ ({ q with av := v2 } : LV).foot b, k ∈ q.foot b ∨ w.heap.size ≤ k := by
  have hs := h0.size
  obtain ⟨n1, n2, n3, n4, n5⟩ := foot_ne h.2.2.2.2.1
  have hlt := h.lt
  have hb := blk_lt h.1
  have hC : Chg [b] w6 (w6.setCell ⟨b, 6, none⟩ v2) := (Chg.refl [b] w6).setCell (p := ⟨b, 6, none⟩) (by simp) v2
  have hv2 : ∀ k, v2.ownBlock = some k → k ≠ b ∧ k ∉ q.wv.ownBlock.toList ∧ k ∉ q.cv.ownBlock.toList := by
    intro k hk
    rcases hat with e | e
    · rw [e] at hk
      exact ⟨fun x => n3 (by simp [hk, x]), fun x => n5 k (by simpa using x) (by simp [hk]), fun x => (n4 k (by simpa using x)).2 (by simp [hk])⟩
    · rw [e] at hk
      obtain rfl : W0.heap.size = k := by simpa using hk
      refine ⟨by omega, fun x => ?_, fun x => ?_⟩
      · have := hlt _ (by simp [LV.foot] at x ⊢; simp [x] : W0.heap.size ∈ q.foot b); omega
      · have := hlt _ (by simp [LV.foot] at x ⊢; simp [x] : W0.heap.size ∈ q.foot b); omega
  have h1 : w6.heap[b]? = some (.cells #[.int .i64 s.jobs, .int .i64 s.room, .int .i64 s.next, q.cv, .bool s.shut, q.wv, q.av, .int .i64 s.out, .bool s.canc, .int .i64 s.top, .int .i64 s.made] 51 (0, 0)) := h6.at (h0.at h.1 (by simp)) n3
  refine ⟨⟨?_, ?_, ?_, hrow.chg hC (fun k hk => by simpa using (hv2 k hk).1), ?_, hok⟩, ?_, ?_⟩
  · exact blk_set h1 6 v2
  · exact ((h.2.1.chg0 h0).chg h6 (fun k hk hx => (n4 k hk).2 hx)).chg hC (fun k hk hx => n1 (by simp at hx; simp [hk, hx]))
  · exact ((h.2.2.1.chg0 h0).chg h6 (fun k hk hx => n5 k hk hx)).chg hC (fun k hk hx => n2 (by simp at hx; simp [hk, hx]))
  · have hn := h.2.2.2.2.1
    simp only [LV.foot, List.cons_append, List.nodup_cons, List.nodup_append, List.mem_append, not_or] at hn ⊢
    obtain ⟨⟨⟨a1, a2⟩, a3⟩, ⟨a4, a5, a6⟩, a7, a8⟩ := hn
    refine ⟨⟨⟨a1, a2⟩, fun x => (hv2 b (by simpa using x)).1 rfl⟩, ⟨a4, a5, a6⟩, ?_, ?_⟩
    · cases v2.ownBlock <;> simp
    · rintro k (hk | hk) l hl e
      · subst e
        exact (hv2 k (by simpa using hl)).2.2 hk
      · subst e
        exact (hv2 k (by simpa using hl)).2.1 hk
  · refine (Chg.trans (h0.of_nil (F := q.foot b)) h6 ?_).setCell (p := ⟨b, 6, none⟩) (by simp [LV.foot]) v2
    intro k hk
    left
    simp only [LV.foot, List.mem_append, List.mem_cons]
    exact .inr hk
  · intro k hk
    simp only [LV.foot, List.mem_append, List.mem_cons] at hk ⊢
    rcases hk with ((hk | hk) | hk) | hk
    · exact .inl (.inl (.inl (.inl hk)))
    · exact .inl (.inl (.inl (.inr hk)))
    · exact .inl (.inl (.inr hk))
    · rcases hat with e | e
      · rw [e] at hk; exact .inl (.inr hk)
      · rw [e] at hk; simp at hk; right; omega
end Go.Proofs.Ytfmdghijbkddpaa

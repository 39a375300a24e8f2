/- The loom: quit, looked. -/
import Derived.Test.YtfmdghijbkddpaaLmC
namespace Go.Proofs.Ytfmdghijbkddpaa
open Go.RowKit
set_option linter.unusedVariables false
set_option linter.unusedSimpArgs false

theorem RowIs.put {w : World} {e : TypeId} {size n g o cap : Nat} {xs : List Value} (h : RowIs w e size (.slice (some ⟨g, o, none⟩) n cap) n xs) (j : Nat) (hj : j < n * size) (u : Value) :
    RowIs (w.setCell ⟨g, o + j, none⟩ u) e size (.slice (some ⟨g, o, none⟩) n cap) n (xs.set j u) := by
  obtain ⟨hl, ⟨h1, _⟩ | ⟨g', o', cap', cur, h1, hb, hc, hm, hs, ht⟩⟩ := h
  · cases h1
  · simp at h1
    obtain ⟨⟨rfl, rfl⟩, rfl⟩ := h1
    refine ⟨by simp [hl], .inr ⟨g, o, cap, cur.setIfInBounds (o + j) u, rfl, blk_set hb _ _, hc, hm, by simpa using hs, ?_⟩⟩
    rw [Array.toList_setIfInBounds, List.drop_set, if_neg (by omega), List.take_set, ht]
    congr 1
    omega
theorem RowIs.frozen {w : World} {e : TypeId} {size n g o cap : Nat} {xs : List Value} (h : RowIs w e size (.slice (some ⟨g, o, none⟩) n cap) n xs) (i : Nat) : w.frozen? ⟨g, i, none⟩ = false := by
  obtain ⟨hl, ⟨h1, _⟩ | ⟨g', o', cap', cur, h1, hb, hc, hm, hs, ht⟩⟩ := h
  · cases h1
  · simp at h1
    obtain ⟨⟨rfl, rfl⟩, rfl⟩ := h1
    exact blk_frozen hb i

theorem wCells_set (l : List (Nat × Nat)) : ∀ (i : Nat) (x : Nat × Nat), ((wCells l).set (i * 2) (.int .i64 x.1)).set (i * 2 + 1) (.int .i64 x.2) = wCells (l.set i x) := by
  induction l with
  | nil => intro i x; simp [wCells]
  | cons y l ih =>
    intro i x
    have e : ∀ (z : Nat × Nat) (m : List (Nat × Nat)), wCells (z :: m) = .int .i64 z.1 :: .int .i64 z.2 :: wCells m := fun _ _ => rfl
    cases i with
    | zero => simp [e]
    | succ i =>
      rw [e, show (i + 1) * 2 = i * 2 + 1 + 1 from by omega]
      simp only [List.set_cons_succ]
      rw [ih i x]
      rfl

/-- A worker set anew. -/
theorem LmIs.setW {w : World} {b : Nat} {s : LS} {q : LV} (h : LmIs w b s q) {g o cap : Nat} (hv : q.wv = .slice (some ⟨g, o, none⟩) s.ws.length cap) (i : Nat) (hi : i < s.ws.length) (x : Nat × Nat) (hx : x.1 ≤ 2 ∧ x.2 ≤ 65536) :
    LmIs ((w.setCell ⟨g, o + i * 2, none⟩ (.int .i64 x.1)).setCell ⟨g, o + i * 2 + 1, none⟩ (.int .i64 x.2)) b (s.setW i x) q := by
  have hr := h.2.2.1
  rw [hv] at hr
  have hn := h.2.2.2.2.1
  have hC : Chg [g] w ((w.setCell ⟨g, o + i * 2, none⟩ (.int .i64 x.1)).setCell ⟨g, o + i * 2 + 1, none⟩ (.int .i64 x.2)) := ((Chg.refl [g] w).setCell (p := ⟨g, _, none⟩) (by simp) _).setCell (p := ⟨g, _, none⟩) (by simp) _
  have hg : q.wv.ownBlock = some g := by rw [hv]; rfl
  have h1 : b ≠ g := by
    intro e
    subst e
    simp only [LV.foot, List.cons_append, List.nodup_cons] at hn
    exact hn.1 (by simp [hg])
  have h2 : ∀ k, q.cv.ownBlock = some k → k ≠ g := by
    intro k hk e
    subst e
    simp only [LV.foot, hk, hg, Option.toList_some, List.cons_append, List.nil_append, List.nodup_cons] at hn
    exact hn.2.1 (by simp)
  have h3 : ∀ k, q.av.ownBlock = some k → k ≠ g := by
    intro k hk e
    subst e
    simp only [LV.foot, hk, hg, Option.toList_some, List.cons_append, List.nodup_cons] at hn
    have := (List.nodup_append.1 hn.2).2.2 k (by simp) k (by simp)
    exact this rfl
  refine ⟨hC.at h.1 (by simpa using h1), h.2.1.chg hC (fun k hk => by simpa using h2 k hk), ?_, h.2.2.2.1.chg hC (fun k hk => by simpa using h3 k hk), hn, ?_⟩
  · show RowIs _ _ _ q.wv (s.ws.set i x).length (wCells (s.ws.set i x))
    rw [← wCells_set, List.length_set, hv]
    have a := hr.put (i * 2) (by omega) (.int .i64 x.1)
    have c := a.put (i * 2 + 1) (by omega) (.int .i64 x.2)
    rw [← Nat.add_assoc] at c
    exact c
  · have hk := h.2.2.2.2.2
    exact ⟨hk.jobs, hk.room, hk.next, by show (s.ws.set i x).length ≤ 64; rw [List.length_set]; exact hk.ws, by
      intro y hy
      rcases List.mem_or_eq_of_mem_set hy with e | e
      · exact hk.st y e
      · exact e ▸ hx, hk.ch, hk.ans, hk.out, hk.top, hk.made⟩

theorem looked_calls (w : World) (b : Nat) (s : LS) (q : LV) (h : LmIs w b s q) : Calls Try.prog 33 #[.pointer (some ⟨b, 0, none⟩)] w fun e w' => e = .returned (.tuple #[]) ∧ LmIs w' b s.looked q ∧ Chg [b] w w' := by
  obtain ⟨c0, c1, c2, c3, c4, c5, c6, c7, c8, c9, c10⟩ := h.cells
  have hb := World.block_lt_of_cell? _ _ c0
  have hf := blk_frozen h.1 7
  obtain ⟨ca, ccap, hcv, _⟩ := h.2.2.2.1.slice
  rw [hcv] at c6
  have HCV := Lib.hid hcv
  clear hcv
  have hk := h.2.2.2.2.2
  by_cases e1 : s.out = 0
  · have E1 := Lib.hid e1
    rw [e1] at c7
    by_cases e2 : s.ans.length = s.jobs
    · have hL : s.looked = { s with out := 1 } := by unfold LS.looked; rw [if_pos ⟨e1, e2⟩]
      have HL := Lib.hid hL
      have d1 : ((s.ans.length : Int) == s.jobs) = true := by simp [e2]
      have d2 : decide (s.ans.length = s.jobs) = true := by simp [e2]
      clear e1 e2 hL
      go_enter Try.func33, Try.ntmps33
      go_upto_region 0 with (fail)
      go_quiet (fail)
      go_wp2
      go_end0
      rw [HL.out]
      have h' : LmIs (w.drewN nq) b s q := h.chg0 ((Chg.refl _ _).drewN _)
      exact ⟨rfl, h'.set 7 _ (by omega) (by omega) rfl rfl rfl rfl ⟨hk.jobs, hk.room, hk.next, hk.ws, hk.st, hk.ch, hk.ans, by simp, hk.top, hk.made⟩, ((Chg.refl [b] w).drewN _).setCell (by simp) _⟩
    · have hL : s.looked = s := by unfold LS.looked; rw [if_neg (fun x => e2 x.2)]
      have HL := Lib.hid hL
      have d1 : ((s.ans.length : Int) == s.jobs) = false := by simp; omega
      have d2 : decide (s.ans.length = s.jobs) = false := by simp [e2]
      clear e1 hL
      go_enter Try.func33, Try.ntmps33
      go_upto_region 0 with (fail)
      go_quiet (fail)
      go_wp2
      go_end0
      rw [HL.out]
      exact ⟨rfl, h.chg0 ((Chg.refl _ _).drewN _), (Chg.refl _ _).drewN _⟩
  · have hL : s.looked = s := by unfold LS.looked; rw [if_neg (fun x => e1 x.1)]
    have HL := Lib.hid hL
    have d1 : ((s.out : Int) == 0) = false := by simp; omega
    clear hL
    go_enter Try.func33, Try.ntmps33
    go_upto_region 0 with (fail)
    go_quiet (fail)
    go_wp2
    go_end0
    rw [HL.out]
    exact ⟨rfl, h.chg0 ((Chg.refl _ _).drewN _), (Chg.refl _ _).drewN _⟩

def LS.whoOk (s : LS) (k : Int) : Prop := k = -2 ∨ k = -1 ∨ (0 ≤ k ∧ k < s.ws.length)
theorem quit_calls (w : World) (b : Nat) (s : LS) (q : LV) (k : Int) (h : LmIs w b s q) (hw : s.whoOk k) : Calls Try.prog 50 #[.pointer (some ⟨b, 0, none⟩), .int .i64 k] w fun e w' => e = .returned (.tuple #[]) ∧ LmIs w' b (s.quit k) q ∧ Chg (q.foot b) w w' := by
  obtain ⟨c0, c1, c2, c3, c4, c5, c6, c7, c8, c9, c10⟩ := h.cells
  have hb := World.block_lt_of_cell? _ _ c0
  have hf4 := blk_frozen h.1 4
  have hf7 := blk_frozen h.1 7
  have hk := h.2.2.2.2.2
  rcases hw with rfl | rfl | ⟨k0, k1⟩
  · go_enter Try.func50, Try.ntmps50
    go_wp2
    go_end0
    exact ⟨rfl, h.set 4 _ (by omega) (by omega) rfl rfl rfl rfl ⟨hk.jobs, hk.room, hk.next, hk.ws, hk.st, hk.ch, hk.ans, hk.out, hk.top, hk.made⟩, (Chg.refl _ w).setCell (by simp [LV.foot]) _⟩
  · go_enter Try.func50, Try.ntmps50
    go_wp2
    go_end0
    exact ⟨rfl, h.set 7 _ (by omega) (by omega) rfl rfl rfl rfl ⟨hk.jobs, hk.room, hk.next, hk.ws, hk.st, hk.ch, hk.ans, by show 2 ≤ 2; omega, hk.top, hk.made⟩, (Chg.refl _ w).setCell (by simp [LV.foot]) _⟩
  · obtain ⟨k, rfl⟩ : ∃ j : Nat, k = j := ⟨k.toNat, by omega⟩
    have k2 : k < s.ws.length := by omega
    obtain ⟨g, o, cap, hv, hw0, hw1⟩ := h.worker k2
    have hq : s.quit k = s.setW k (2, 0) := by unfold LS.quit; rw [if_neg (by omega), if_neg (by omega)]; rfl
    have hr := h.2.2.1
    rw [hv] at hr c5
    have hF0 := hr.frozen (o + k * 2)
    have hF1 := hr.frozen (o + k * 2 + 1)
    have HQ := Lib.hid hq
    have HV := Lib.hid hv
    have hwl := hk.ws
    clear hq hv
    have d1 : ((k : Int) == -2) = false := by simp
    have d2 : ((k : Int) == -1) = false := by simp
    go_enter Try.func50, Try.ntmps50
    go_wp2
    go_end0
    rw [HQ.out]
    refine ⟨rfl, h.setW HV.out k k2 (2, 0) (by simp), ?_⟩
    have hg : g ∈ q.foot b := by simp [LV.foot, HV.out, Value.ownBlock]
    exact ((Chg.refl _ w).setCell (p := ⟨g, _, none⟩) (.inl hg) _).setCell (p := ⟨g, _, none⟩) (.inl hg) _
end Go.Proofs.Ytfmdghijbkddpaa

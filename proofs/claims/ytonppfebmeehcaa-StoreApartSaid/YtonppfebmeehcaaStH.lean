/- The store: pins. -/
import Derived.Test.YtonppfebmeehcaaStG
namespace Go.Proofs.Ytonppfebmeehcaa
open Go.RowKit
set_option linter.unusedVariables false
set_option linter.unusedSimpArgs false

def pput (l : List (Nat × Nat)) (p c : Nat) : List (Nat × Nat) := if (l.find? fun x => decide (x.1 = p)).isSome then l.map (fun x => if x.1 = p then (p, c) else x) else l ++ [(p, c)]
def pdel (l : List (Nat × Nat)) (p : Nat) : List (Nat × Nat) := l.filter fun x => decide (x.1 ≠ p)
def pv (l : List (Nat × Nat)) : List (Nat × Value) := l.map fun x => (x.1, Value.int .i64 x.2)
theorem mget_pv (l : List (Nat × Nat)) (p : Nat) : mget (pv l) p = (l.find? fun x => decide (x.1 = p)).map fun x => Value.int .i64 x.2 := mget_map l (·.1) _ p
theorem pv_put (l : List (Nat × Nat)) (p c : Nat) : mput (pv l) p (.int .i64 c) = pv (pput l p c) := by
  unfold mput pput
  rw [mget_pv, Option.isSome_map]
  split
  · unfold pv
    rw [List.map_map, List.map_map]
    exact List.map_congr_left (fun x _ => by simp only [Function.comp]; split <;> rfl)
  · simp [pv]
theorem pv_del (l : List (Nat × Nat)) (p : Nat) : mdel (pv l) p = pv (pdel l p) := by
  unfold mdel pdel pv
  rw [List.filter_map]
  rfl
theorem pfind_put (l : List (Nat × Nat)) (p c q : Nat) : ((pput l p c).find? fun x => decide (x.1 = q)).map (fun x => Value.int .i64 x.2) = if q = p then some (.int .i64 c) else (l.find? fun x => decide (x.1 = q)).map fun x => Value.int .i64 x.2 := by
  rw [← mget_pv, ← pv_put, mget_put, mget_pv]
theorem pfind_del (l : List (Nat × Nat)) (p q : Nat) : ((pdel l p).find? fun x => decide (x.1 = q)).map (fun x => Value.int .i64 x.2) = if q = p then none else (l.find? fun x => decide (x.1 = q)).map fun x => Value.int .i64 x.2 := by
  rw [← mget_pv, ← pv_del, mget_del, mget_pv]
theorem optmap {a b : Option (Nat × Nat)} (h : a.map (fun x => Value.int .i64 (x.2 : Int)) = b.map fun x => Value.int .i64 (x.2 : Int)) : (a.map (·.2)).getD 0 = (b.map (·.2)).getD 0 := by
  cases a <;> cases b <;> simp at h ⊢
  omega
theorem pin_put (s : SS) (p c q : Nat) : ({ s with pins := pput s.pins p c } : SS).pin q = if q = p then c else s.pin q := by
  have h := pfind_put s.pins p c q
  unfold SS.pin
  by_cases e : q = p
  · rw [if_pos e] at h ⊢
    have := optmap (b := some (p, c)) h
    simpa using this
  · rw [if_neg e] at h ⊢
    exact optmap h
theorem pin_del (s : SS) (p q : Nat) : ({ s with pins := pdel s.pins p } : SS).pin q = if q = p then 0 else s.pin q := by
  have h := pfind_del s.pins p q
  unfold SS.pin
  by_cases e : q = p
  · rw [if_pos e] at h ⊢
    have := optmap (b := none) h
    simpa using this
  · rw [if_neg e] at h ⊢
    exact optmap h
theorem pin_pos {s : SS} (hok : s.ok) (p : Nat) : 0 < s.pin p → ∃ c, (p, c) ∈ s.pins := by
  unfold SS.pin
  cases h : s.pins.find? fun x => decide (x.1 = p) with
  | none => simp
  | some x =>
    intro _
    have h1 := List.find?_some h
    simp at h1
    exact ⟨x.2, by rw [← h1]; exact List.mem_of_find?_eq_some h⟩

theorem StIs.withPins {w w' : World} {b : Nat} {s : SS} (hst : StIs w b s) (l : List (Nat × Nat)) (hc : Chg [s.pm] w w') (hm : MapIs encU w' s.pm (pv l)) (hl : ∀ x ∈ l, 0 < x.2 ∧ x.2 < 4294967296) : StIs w' b { s with pins := l } := by
  obtain ⟨h1, h2, h3, h4, h5, h6⟩ := hst
  refine ⟨hc.at h1 (by simpa using h5.head.2.1), h2.chg hc (by simpa using h5.head.2.2), hm, ?_, ⟨h5.head, h5.each, h5.two⟩, ⟨h6.log, h6.n, h6.key, hl, h6.top, h6.al⟩⟩
  intro x hx
  have := h5.each x hx
  exact (h4 x hx).chg hc (by simpa using this.2.2.2.1) (by simpa using this.2.2.2.2.2.2)

/-- What a call leaves that changes the store to s'. -/
def StP (w : World) (b : Nat) (s' : SS) (F : List Nat) (v : Value) (e : Ending) (w' : World) : Prop := e = .returned v ∧ StIs w' b s' ∧ Chg F w w'

theorem mem_pput {l : List (Nat × Nat)} {p c : Nat} {x : Nat × Nat} (h : x ∈ pput l p c) : x = (p, c) ∨ x ∈ l := by
  unfold pput at h
  split at h
  · obtain ⟨y, hy, rfl⟩ := List.mem_map.1 h
    split
    · exact .inl rfl
    · exact .inr hy
  · rcases List.mem_append.1 h with h | h
    · exact .inr h
    · left; simpa using h

theorem pin_bad (b p : Nat) (s : SS) (w : World) (hst : StIs w b s) (hp : p < 18446744073709551616) (hE : s.getE p ≠ 0) :
    Calls Try.prog 24 #[.pointer (some ⟨b, 0, none⟩), .int .u64 p] w (Res w [] (.int .i64 (s.getE p))) := by
  have hb := hst.blt
  have hg := IsHash.getH hst p
  have hs1 := hg.1
  have hs2 := hg.one
  have hget := get_calls b p s w hst hp
  have he : (s.getE p == 0) = false := by simpa using hE
  generalize s.getH p = H at *
  generalize s.getE p = E at *
  clear hg hE
  go_enter Try.func24, Try.ntmps24
  go_wp2_with (go_at_call 28; refine hget.mono ?_; rintro e w1 ⟨rfl, hc⟩)
  go_ret
  exact ⟨rfl, hc.alloc _⟩
theorem pin_ok (b p : Nat) (s : SS) (w : World) (hst : StIs w b s) (hp : p < 18446744073709551616) (hE : s.getE p = 0) (hc : s.pin p < 4294967295) :
    Calls Try.prog 24 #[.pointer (some ⟨b, 0, none⟩), .int .u64 p] w (StP w b { s with pins := pput s.pins p (s.pin p + 1) } [s.pm] (.int .i64 0)) := by
  have hb := hst.blt
  have hg := IsHash.getH hst p
  have hs1 := hg.1
  have hs2 := hg.one
  have hget := get_calls b p s w hst hp
  have he := hE
  generalize s.getH p = H at *
  generalize s.getE p = E at *
  subst he
  clear hg
  have hs' : ∀ w1, Chg [] w w1 → w1.cell? ⟨b, 4, none⟩ = some (.map (some s.pm)) ∧ (Instr.lookup 78 (.map (some s.pm)) (.int .u64 p) false).run Try.prog w1 = .ok (.int .i64 (s.pin p)) w1 ∧
      ∃ o, (Instr.mapUpdate 78 (.map (some s.pm)) (.int .u64 p) (.int .i64 (s.pin p + 1))).run Try.prog w1 = .ok () (setMap w1 s.pm o) ∧ MapIs encU (setMap w1 s.pm o) s.pm (pv (pput s.pins p (s.pin p + 1))) := by
    intro w1 h1
    have h := hst.chg0 h1
    refine ⟨h.cell4, lookp h p, ?_⟩
    obtain ⟨o, h2, h3⟩ := h.2.2.1.upd encU_law u_mapp p (.int .i64 ((s.pin p + 1 : Nat) : Int))
    refine ⟨o, ?_, ?_⟩
    · have : (.int .i64 ((s.pin p + 1 : Nat) : Int) : Value) = .int .i64 ((s.pin p : Int) + 1) := by simp
      rw [this] at h2
      exact h2
    · rw [← pv_put]; exact h3
  go_enter Try.func24, Try.ntmps24
  go_wp2_with (go_at_call 28; refine hget.mono ?_; rintro e w1 ⟨rfl, hc1⟩; have hc2 := hc1.alloc (.cells H 30); obtain ⟨h4, hlk, o, hup, hm⟩ := hs' _ hc2)
  go_ret
  refine ⟨rfl, hst.withPins _ ?_ hm ?_, ?_⟩
  · exact (hc2.of_nil).trans (setMap_chg _ _ _) (by simp)
  · intro x hx
    rcases mem_pput hx with rfl | hx
    · simp; omega
    · exact hst.2.2.2.2.2.pin x hx
  · exact (hc2.of_nil).trans (setMap_chg _ _ _) (by simp)
end Go.Proofs.Ytonppfebmeehcaa

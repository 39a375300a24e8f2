/- Rows of hashes: lists appended to a row of the call's own; 'row' of the trees' statements walked. -/
import Derived.Test.YtnodjlgihhinpaaDoorLwD
namespace Go.Proofs.YtnodjlgihhinpaaDoor
open Go.RowKit
set_option linter.unusedVariables false
set_option linter.unusedSimpArgs false

@[go_sem] theorem bs_Hash0 (w : World) : (bsX 22 0 #[]).run Tryd.prog w = .ok (.slice (some ⟨w.heap.size, 0, none⟩) 0 0) (w.alloc (.cells #[] 37)) := by
  obtain ⟨i, hi, hz, hsz, _⟩ := infoOf i_Hash
  have hso : ∀ w, (sizeOf 37).run Tryd.prog w = .ok 32 w := by intro w; simp [sizeOf, typeInfo, hi, hsz]
  unfold bsX Instr.buildSlice
  simp only [Sem.run_bind, run_underlying u_hashes, Result.andThen_ok, hso, Sem.run_ite, Nat.zero_mul, Sem.run_pure]
  simp only [show ¬ (0 > 2 ^ 24) from by decide, if_false, if_true, Result.andThen_ok]
  have e : (Array.map (fun x => (#[] : Array Value)[x % (#[] : Array Value).size]!) (Array.range 0)) = #[] := by simp
  rw [e]
  rfl
theorem HOwn.empty (w : World) (B : Nat) (hB : B ≤ w.heap.size) : HOwn (w.alloc (.cells #[] 37)) B (.slice (some ⟨w.heap.size, 0, none⟩) 0 0) [] :=
  ⟨own_new w B 37 32 0 #[] hB rfl (by decide), by simp⟩
theorem HsIs.rd {w : World} {a : Option Addr} {m cap : Nat} {l : List (Array Value)} (h : HsIs w (.slice a m cap) l) : m = l.length ∧ Rd w 32 a m (l.flatMap (·.toList)) := by
  obtain ⟨hI, a', cap', hv, hr⟩ := h
  injection hv with h1 h2 h3
  subst h1 h2
  refine ⟨rfl, flat_length hI, fun hm => ?_⟩
  rcases hr with hr | ⟨b, o, ha, hb, hr⟩
  · subst hr; simp at hm
  · refine ⟨b, o, ha, fun j u hu => ?_⟩
    have hjl : j < l.length * 32 := by
      have := (List.getElem?_eq_some_iff.1 hu).1
      rwa [flat_length hI] at this
    have hd : j / 32 < l.length := by omega
    have e := flat_at hI (j / 32) hd (j % 32) (by omega)
    rw [show j / 32 * 32 + j % 32 = j from by omega, hu] at e
    have hx := (hI _ (List.getElem_mem hd)).1
    have hc := (rng?_cell (hr (j / 32) hd)).2 (j % 32) (by rw [hx]; omega)
    rw [show o + j / 32 * 32 + j % 32 = o + j from by omega] at hc
    rw [hc]
    rw [e]
    rw [Array.getElem?_eq_getElem (by rw [hx]; omega)]
theorem HOwn.append {w : World} {B : Nat} {v : Value} {hs l : List (Array Value)} {a : Option Addr} {m cap : Nat} (h : HOwn w B v hs) (hl : HsIs w (.slice a m cap) l) (hlen : hs.length + l.length ≤ 4294967296) (hB : B ≤ w.heap.size) (ty : TypeId) :
    ∃ v' w', (Builtin.append_ #[22, 22] ty #[v, .slice a m cap]).run Tryd.prog w = .ok v' w' ∧ HOwn w' B v' (hs ++ l) ∧ Chg (ob v) w w' ∧ (∀ k ∈ ob v', k ∈ ob v ∨ w.heap.size ≤ k) := by
  obtain ⟨i, hi, hz, hsz, hby⟩ := infoOf i_Hash
  obtain ⟨rfl, hrd⟩ := hl.rd
  obtain ⟨v', w', hr, h2, h3, h4⟩ := run_append_any (P := Tryd.prog) w B 22 ty 37 i _ 32 32 u_hashes hi hz hsz hby zeroHash_size (by decide) v hs.length _ h.1 a l.length cap _ hrd
    (fun u hu => by
      obtain ⟨x, hx, hux⟩ := List.mem_flatMap.1 hu
      obtain ⟨n, rfl, _⟩ := (hl.1 x hx).2 u hux
      rfl) (by unfold maxLen; omega) (by omega) hB
  refine ⟨v', w', hr, ⟨?_, fun y hy => ?_⟩, h3, h4⟩
  · rw [List.length_append, List.flatMap_append]
    exact h2
  · rcases List.mem_append.1 hy with q | q
    · exact h.2 y q
    · exact hl.1 y q
/-- A row with one hash more, seen without it. -/
theorem HOwn.form {w : World} {B : Nat} {v : Value} {l : List (Array Value)} {x : Array Value} (h : HOwn w B v (l ++ [x])) :
    ∃ g cap, v = .slice (some ⟨g, 0, none⟩) (l.length + 1) cap ∧ l.length + 1 ≤ cap ∧ cap ≤ maxLen ∧ B ≤ g ∧ HOwn w B (.slice (some ⟨g, 0, none⟩) l.length cap) l := by
  have hl := flat_length h.2
  rcases h.1.2 with ⟨rfl, h0⟩ | ⟨g, cap, cur, rfl, hb, hh, hnc, hm, hcs, ht⟩
  · simp at h0
  · rw [List.length_append, List.length_singleton] at hnc ht ⊢
    refine ⟨g, cap, rfl, hnc, hm, hb, ⟨?_, .inr ⟨g, cap, cur, rfl, hb, hh, by omega, hm, hcs, ?_⟩⟩, fun y hy => h.2 y (by simp [hy])⟩
    · exact flat_length (fun y hy => h.2 y (by simp [hy]))
    · have e := congrArg (List.take (l.length * 32)) ht
      rw [List.take_take, Nat.min_eq_left (by omega), List.flatMap_append] at e
      rw [e, List.take_left' (flat_length (fun y hy => h.2 y (by simp [hy])))]
def RowP (w : World) (l : List (Array Value)) (e : Ending) (w' : World) : Prop :=
  ∃ g cap, e = .returned (.slice (some ⟨g, 0, none⟩) l.length cap) ∧ l.length + 1 ≤ cap ∧ w.heap.size ≤ g ∧ HOwn w' w.heap.size (.slice (some ⟨g, 0, none⟩) (l.length + 1) cap) (l ++ [hash1 171]) ∧ HOwn w' w.heap.size (.slice (some ⟨g, 0, none⟩) l.length cap) l ∧ Chg [] w w'
set_option maxRecDepth 100000 in
theorem row_calls (w : World) (lv : Value) (l : List (Array Value)) (hv : HsIs w lv l) (hlen : l.length ≤ 1000000) : Calls Tryd.prog 6 #[lv] w (RowP w l) := by
  obtain ⟨a, cap, rfl⟩ : ∃ a cap, lv = .slice a l.length cap := by obtain ⟨_, a, cap, h, _⟩ := hv; exact ⟨a, cap, h⟩
  have h0 := HOwn.empty w w.heap.size (Nat.le_refl _)
  have c0 : Chg [] w (w.alloc (.cells #[] 37)) := (Chg.refl _ _).alloc _
  obtain ⟨v1, w1, hr1, h1, c1, b1⟩ := h0.append (hv.chg0 c0) (by simp; omega) (by simp) 22
  rw [List.nil_append] at h1
  have c01 : Chg [] w w1 := c0.trans c1 (fun k hk => .inr (by rw [ob_some] at hk; simp at hk; omega))
  have h71 : IsHash (hash1 171) := hash1_is (by omega) (by omega)
  obtain ⟨v2, w2, hr2, h2, c2, b2⟩ := h1.push (hash1 171) h71 (by omega) c01.size 22
  have hol := own_lt h1.1
  have c02 : Chg [] w w2 := c01.trans c2 (fun k hk => .inr (hol k hk).1)
  obtain ⟨g, cap2, rfl, hcap, hmx, hg, h3⟩ := h2.form
  have hfin : RowP w l (.returned (.slice (some ⟨g, 0, none⟩) l.length cap2)) w2 := ⟨g, cap2, rfl, hcap, hg, h2, h3, c02⟩
  have HF := Lib.hid hfin
  have s71 := h71.1
  unfold maxLen at hmx
  clear h0 c0 h1 c1 b1 c01 h2 c2 b2 hol c02 h3 hfin hv hg h71
  go_enter Tryd.func6, Tryd.ntmps6
  go_wp2_with (first
    | (at_builtin; refine Lib.wpList_append_run _ rfl _ _ _ _ rfl _ _ rfl rfl _ _ hr1 ?_)
    | (at_builtin; refine Lib.wpList_append_run _ rfl _ _ _ _ rfl _ _ rfl rfl _ _ hr2 ?_))
  go_ret
  exact HF.out
end Go.Proofs.YtnodjlgihhinpaaDoor

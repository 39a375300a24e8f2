/- A tree: Old, Size. -/
import Derived.Test.YtogkfjljdmbogaaDoorTrE
namespace Go.Proofs.YtogkfjljdmbogaaDoor
open Go.RowKit
set_option linter.unusedVariables false
set_option linter.unusedSimpArgs false

def OldP (w : World) (t : TS) (n : Nat) (e : Ending) (w' : World) : Prop :=
  ((∀ p ∈ peaksN n, t.s.getE p = 0) ∧ Res w [] (.tuple #[.agg (bagR t.wd n ((peaksN n).map t.s.getH)), .int .i64 (bagE n ((peaksN n).map t.s.getH))]) e w') ∨
  (∃ (i : Nat) (h : i < (peaksN n).length), (∀ j (hj : j < i), t.s.getE (peaksN n)[j] = 0) ∧ t.s.getE (peaksN n)[i] ≠ 0 ∧ Res w [] (.tuple #[.agg zeroHash, .int .i64 (t.s.getE (peaksN n)[i])]) e w')
set_option maxRecDepth 100000 in
theorem tOld_far (w : World) (b : Nat) (t : TS) (n : Nat) (ht : TrIs w b t) (hn : t.size < n) (h2 : n < 18446744073709551616) (hs : t.size ≤ 4611686018427387904) : Calls Tryd.prog 21 #[.pointer (some ⟨b, 0, none⟩), .int .u64 n] w (Res w [] (.tuple #[.agg zeroHash, .int .i64 30])) := by
  have c2 := blk_cell ht.mem 2 rfl
  have hb := blk_lt ht.mem
  have hd : decide ((t.size : Int) < (n : Int)) = true := decide_eq_true (by omega)
  go_enter Tryd.func21, Tryd.ntmps21
  go_wp2
  refine bodyPost_ret (res_Hash2 rfl _ _ rfl (rng?_alloc_at _ _ _ _ _ rfl zeroHash_size)) rfl ⟨rfl, (Chg.refl _ _).alloc _⟩
set_option maxRecDepth 100000 in
set_option maxHeartbeats 4000000 in
theorem tOld_calls (w : World) (b : Nat) (t : TS) (n : Nat) (ht : TrIs w b t) (hn : n ≤ t.size) (hs : t.size ≤ 4611686018427387904) (hk : HIs w) : Calls Tryd.prog 21 #[.pointer (some ⟨b, 0, none⟩), .int .u64 n] w (OldP w t n) := by
  have c1 := blk_cell ht.mem 1 rfl
  have c2 := blk_cell ht.mem 2 rfl
  have hb := blk_lt ht.mem
  have hc0 : Chg [] w (w.alloc (.cells zeroHash 26)) := (Chg.refl _ _).alloc _
  have hpk := tpeaks_calls (w.alloc (.cells zeroHash 26)) b t n (ht.chg0 hc0) (by omega)
  have hd : decide ((t.size : Int) < (n : Int)) = false := decide_eq_false (by omega)
  have hm0 := may_alloc_at w w.heap.size 32 zeroHash 26 rfl zeroHash_size
  have hbg := fun (W : World) (v : Value) (hs : List (Array Value)) (hW : Chg [] w W) (hv : HsIs W v hs) (hl : hs.length ≤ 1099511627776) => bag_any W t.wd n v hs hv (by omega) hl (hk.chg0 hW)
  have hRi : IsHash (bagR t.wd n ((peaksN n).map t.s.getH)) := bagR_is _ _ (fun x hx => by
    obtain ⟨p, _, rfl⟩ := List.mem_map.1 hx
    exact IsHash.getH ht.st p)
  have hll : ((peaksN n).map t.s.getH).length ≤ 1099511627776 := by rw [List.length_map]; exact Nat.le_trans (pkL_len _ 63) (by decide)
  have d1 := fun (W : World) (hc : Chg [] w W) => (hc.cell (p := ⟨b, 1, none⟩) hb (by simp)).trans c1
  have HD := Lib.hid d1
  have HBG := Lib.hid hbg
  clear d1 hbg ht
  by_cases hall : ∀ p ∈ peaksN n, t.s.getE p = 0
  · have hfin : ∀ (e : Ending) (w' : World), TPeaksP (w.alloc (.cells zeroHash 26)) t.s (peaksN n) e w' → ∃ v, e = .returned (.tuple #[v, .int .i64 0]) ∧ HsIs w' v ((peaksN n).map t.s.getH) ∧ Chg [] (w.alloc (.cells zeroHash 26)) w' := by
      intro e w' h
      rcases h with ⟨v, h1, rfl, h2, h3⟩ | ⟨i, hi, h1, h2, rfl, h3⟩
      · exact ⟨v, rfl, h2.hs, h3⟩
      · exact absurd (hall _ (List.getElem_mem hi)) h2
    have HF := Lib.hid hfin
    have HA := Lib.hid hall
    have hgoal : ∀ (e : Ending) (w' : World), Res w [] (.tuple #[.agg (bagR t.wd n ((peaksN n).map t.s.getH)), .int .i64 (bagE n ((peaksN n).map t.s.getH))]) e w' → OldP w t n e w' := fun e w' h => .inl ⟨HA.out, h⟩
    refine Calls.mono ?_ hgoal
    clear hfin hall hgoal
    generalize (peaksN n).map t.s.getH = hs at *
    generalize hR : bagR t.wd n hs = R at *
    generalize hE : bagE n hs = E at *
    have HRE : Shut (bagR t.wd n hs = R ∧ bagE n hs = E) := ⟨hR, hE⟩
    clear hR hE
    have hR1 := hRi.1
    have hR2 := hRi.one
    go_enter Tryd.func21, Tryd.ntmps21
    go_wp2_with (go_at_call 39; refine hpk.mono ?_; intro e w1 hp1; obtain ⟨v, he, h1, h2⟩ := HF.out e w1 hp1; subst he; have hC1 := hc0.nil_trans h2; have e1 := HD.out _ hC1; have hb1 := Nat.lt_of_lt_of_le hb hC1.size)
    go_at_call 10
    refine (HBG.out _ v hs hC1 h1 hll).mono ?_
    rintro e w3 ⟨rfl, hc3⟩
    rw [HRE.out.1, HRE.out.2]
    have hm3 := may_chg (h2.nil_trans hc3) hm0 (by omega) (by simp)
    go_wp2
    refine bodyPost_ret (res_Hash2 rfl _ _ rfl (rng?_setRng_same _ _ _ _ _ hm3 hR1)) rfl ⟨rfl, ?_⟩
    exact (hC1.nil_trans hc3).setRng (.inr (Nat.le_refl _)) _ _
  · have hfin : ∀ (e : Ending) (w' : World), TPeaksP (w.alloc (.cells zeroHash 26)) t.s (peaksN n) e w' → ∃ E : Int, E ≠ 0 ∧ e = .returned (.tuple #[.slice none 0 0, .int .i64 E]) ∧ Chg [] (w.alloc (.cells zeroHash 26)) w' ∧ (∀ w'', Res w [] (.tuple #[.agg zeroHash, .int .i64 E]) (.returned (.tuple #[.agg zeroHash, .int .i64 E])) w'' → OldP w t n (.returned (.tuple #[.agg zeroHash, .int .i64 E])) w'') := by
      intro e w' h
      rcases h with ⟨v, h1, rfl, h2, h3⟩ | ⟨i, hi, h1, h2, rfl, h3⟩
      · exact absurd h1 hall
      · exact ⟨_, h2, rfl, h3, fun w'' hw => .inr ⟨i, hi, h1, h2, hw⟩⟩
    have HF := Lib.hid hfin
    clear hfin hall hRi hll
    go_enter Tryd.func21, Tryd.ntmps21
    go_wp2_with (fail)
    go_at_call 39
    refine hpk.mono ?_
    intro e w1 hp1
    obtain ⟨E, hE, he, h2, h4⟩ := HF.out e w1 hp1
    subst he
    have hE2 : (E != 0) = true := by rw [bne_iff_ne]; exact hE
    have hm1 := may_chg h2 hm0 (by omega) (by simp)
    have H4 := Lib.hid h4
    clear hp1 h4
    go_wp2
    refine bodyPost_ret (res_Hash2 rfl _ _ rfl (rng?_setRng_same _ _ _ _ _ hm1 zeroHash_size)) rfl ?_
    exact H4.out _ ⟨rfl, (hc0.nil_trans h2).setRng (.inr (Nat.le_refl _)) _ _⟩
theorem tSize_calls (w : World) (b : Nat) (t : TS) (ht : TrIs w b t) : Calls Tryd.prog 25 #[.pointer (some ⟨b, 0, none⟩)] w (Res w [] (.int .u64 t.size)) := by
  have c2 := blk_cell ht.mem 2 rfl
  have hb := blk_lt ht.mem
  go_enter Tryd.func25, Tryd.ntmps25
  go_wp2
  go_ret
  exact ⟨rfl, Chg.refl _ _⟩
end Go.Proofs.YtogkfjljdmbogaaDoor

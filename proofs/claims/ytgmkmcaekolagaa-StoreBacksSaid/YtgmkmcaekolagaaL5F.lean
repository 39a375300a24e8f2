/- StoreBacks: its walk. -/
import Derived.Test.YtgmkmcaekolagaaL5E
namespace Go.Proofs.Ytgmkmcaekolagaa
open Go.RowKit

def deadBy (hs : List (Array Value)) (D : List Nat) (q : Nat) : Option (Array Value) := if q ∈ D then none else hs[q]?

def backBy (hs : List (Array Value)) (D : List Nat) (k : Nat) (q : Nat) : Option (Array Value) := if q ∈ D ∧ q ∉ D.take k then none else hs[q]?
theorem backBy_step (hs : List (Array Value)) {D : List Nat} {k p : Nat} (q : Nat) (h : D[k]? = some p) : (if q = p then hs[p]? else backBy hs D k q) = backBy hs D (k + 1) q := by
  unfold backBy
  have hk : k < D.length := (List.getElem?_eq_some_iff.1 h).1
  have e : D.take (k + 1) = D.take k ++ [p] := by
    rw [List.take_succ_eq_append_getElem hk]
    rw [List.getElem?_eq_getElem hk] at h
    simp at h
    rw [h]
  rw [e]
  by_cases hq : q = p
  · subst hq
    rw [if_pos rfl, if_neg (by simp)]
  · rw [if_neg hq]
    have : (q ∈ D ∧ q ∉ D.take k) ↔ (q ∈ D ∧ q ∉ D.take k ++ [p]) := by simp [hq]
    simp only [this]

set_option maxRecDepth 100000 in
set_option maxHeartbeats 1000000 in
theorem backs_main (log : Nat) (v u : Value) (hs : List (Array Value)) (ds : List Int) (w : World) (hl : log ≤ 16) (hlen : hs.length ≤ 200) (hdl : ds.length ≤ 200) (hv : HsIs w v hs) (hu : NsIs .u64 w u ds) :
    Calls Try.prog 3 #[.int .i64 log, v, u] w (Res w [] (.bool true)) := by
  have hfill := fill_calls log v hs w hl hlen hv
  have hfill2 := fun (w1 : World) (hc : Chg [] w w1) => fill_calls log v hs w1 hl hlen (hv.chg hc (by simp))
  obtain ⟨hI, a, cap, rfl, hr⟩ := hv
  obtain ⟨hW, a2, cap2, rfl, hr2⟩ := hu
  have d1 : decide ((log : Int) < 0) = false := by simp
  have d2 : decide ((16 : Int) < log) = false := by simp; omega
  have d3 : decide ((200 : Int) < hs.length) = false := by simp; omega
  have d4 : decide ((200 : Int) < ds.length) = false := by simp; omega
  have h1s : IsHash (hash1 1) := hash1_is (by omega) (by omega)
  have hb1 := bd_Hash1 1
  generalize hash1 1 = H1 at *
  go_enter Try.func3, Try.ntmps3
  go_wp2_with fail
  refine hfill.mono ?_
  rintro e w1 ⟨b, rfl, s, hst, hfl, hc, hf⟩
  go_wp2_with fail
  refine (hfill2 w1 hc).mono ?_
  rintro e w2 ⟨c, rfl, t, hst', hfl', hc', hf'⟩
  have h0 : Two w b c log hs.length (deadBy hs (((ds.take 0).map Int.toNat))) (fun q => hs[q]?) w2 := by
    refine ⟨s, t, hst.chg0 hc', hst', ⟨hfl.log, hfl.n, hfl.pins, ?_⟩, ⟨hfl'.log, hfl'.n, hfl'.pins, ?_⟩, ?_, hf, ?_, hc.nil_trans hc'⟩
    · intro q
      rw [hfl.node]
      unfold deadBy
      simp
    · intro q
      rw [hfl'.node]
      simp
    · intro x hx e
      have := hst.lt x hx
      have := hf' x e
      omega
    · intro x hx
      have := hf' x hx
      have := hc.size
      omega
  clear hst hfl hc hf hst' hfl' hc' hf' hfill hfill2
  have hds : ∀ k (hk : k < ds.length), 0 ≤ ds[k] ∧ ds[k] < 18446744073709551616 := fun k hk => wf_u64 (hW _ (List.getElem_mem hk))
  go_wp2_with fail
  go_loopg [11] ds.length (fun m i wr => ∃ k : Nat, k ≤ ds.length ∧ m = ds.length - k ∧ i = .int .i64 k ∧ Two w b c log hs.length (deadBy hs ((ds.take k).map Int.toNat)) (fun q => hs[q]?) wr)
  case atStart => exact ⟨0, Nat.zero_le _, by omega, rfl, h0⟩
  case round =>
    obtain ⟨k, hk, hgk, rfl, hT⟩ := hrel
    by_cases hlt : k < ds.length
    · rcases hr2 with hr2 | ⟨ub, uo, rfl, hub, hr2⟩
      · subst hr2; simp at hlt
      have hTc : Chg [] w wr := by obtain ⟨_, _, _, _, _, _, _, _, _, h⟩ := hT; exact h
      have hcell : wr.cell? ⟨ub, uo + k, none⟩ = some (.int .u64 ds[k]) := by rw [hTc.cell (p := ⟨ub, uo + k, none⟩) hub (by simp)]; exact hr2 k hlt
      obtain ⟨p0, p1⟩ := hds k hlt
      have htk : (ds.take (k + 1)).map Int.toNat = (ds.take k).map Int.toNat ++ [ds[k].toNat] := by rw [List.take_succ_eq_append_getElem hlt, List.map_append]; rfl
      obtain ⟨p, hp⟩ := Int.eq_ofNat_of_zero_le p0
      rw [hp] at hcell p1
      rw [hp, Int.toNat_natCast] at htk
      have HT := Lib.hid htk
      clear htk hp p0 hr hr2 h0 hds hW hTc
      have hstep : ∀ q, (if q = p then none else deadBy hs ((ds.take k).map Int.toNat) q) = deadBy hs ((ds.take (k + 1)).map Int.toNat) q := by
        intro q
        unfold deadBy
        rw [HT.out]
        by_cases e : q = p
        · simp [e]
        · simp [e]
      by_cases hn : p < hs.length
      · have hdead : deadBy hs ((ds.take (k + 1)).map Int.toNat) p = none := by rw [← hstep, if_pos rfl]
        have dn : decide (hs.length ≤ p) = false := by simp; omega
        have hD := two_drop hT hn (by omega)
        have hL := fun (w' : World) (h' : Two w b c log hs.length (deadBy hs ((ds.take (k + 1)).map Int.toNat)) (fun q => hs[q]?) w') => two_live h' hn (by omega) false (by rw [hdead]; rfl)
        have hP := fun (w' : World) (h' : Two w b c log hs.length (deadBy hs ((ds.take (k + 1)).map Int.toNat)) (fun q => hs[q]?) w') => two_pin_dead h' hn (by omega) hdead
        have hD2 : ∀ (w' : World), Two w b c log hs.length (deadBy hs ((ds.take (k + 1)).map Int.toNat)) (fun q => hs[q]?) w' → Calls Try.prog 10 #[.pointer (some ⟨b, 0, none⟩), .int .u64 p] w' (TwoP w b c log hs.length (deadBy hs ((ds.take (k + 1)).map Int.toNat)) (fun q => hs[q]?) (.int .i64 0)) := by
          intro w' h'
          refine (two_drop h' hn (by omega)).mono ?_
          rintro e w3 ⟨rfl, h3⟩
          refine ⟨rfl, h3.cong ?_⟩
          intro q
          by_cases e : q = p
          · rw [if_pos e, e, hdead]
          · rw [if_neg e]
        go_wp2_with fail
        refine hD.mono ?_
        rintro e w3 ⟨rfl, hT3⟩
        have hT3 := hT3.cong hstep
        clear hD hT hstep
        go_wp2_with (first
          | (go_at_call 12; refine (hL _ hT3).mono ?_; rintro e w4 ⟨rfl, hT4⟩)
          | (go_at_call 13; refine (hP _ hT4).mono ?_; rintro e w5 ⟨rfl, hT5⟩)
          | (go_at_call 10; refine (hD2 _ hT5).mono ?_; rintro e w6 ⟨rfl, hT6⟩))
        go_roundg (ds.length - (k + 1))
        case measure => omega
        case rel => exact ⟨k + 1, by omega, rfl, by go_num, hT6⟩
      · have hsame : ∀ q, deadBy hs ((ds.take k).map Int.toNat) q = deadBy hs ((ds.take (k + 1)).map Int.toNat) q := by
          intro q
          rw [← hstep]
          by_cases e : q = p
          · rw [if_pos e, e]; unfold deadBy; rw [List.getElem?_eq_none (by omega)]; simp
          · rw [if_neg e]
        have dn : decide (hs.length ≤ p) = true := by simp; omega
        have hD := two_drop_far hT (by omega) (by omega : p < 18446744073709551616)
        have hB := fun (w' : World) (h' : Two w b c log hs.length (deadBy hs ((ds.take k).map Int.toNat)) (fun q => hs[q]?) w') => two_back_far h' (by omega) (by omega : p < 18446744073709551616) H1
        clear hT hstep
        go_wp2_with (first
          | (go_at_call 10; refine hD.mono ?_; rintro e w3 ⟨rfl, hT3⟩)
          | (go_at_call 11; refine (hB _ hT3).mono ?_; rintro e w4 ⟨rfl, hT4⟩))
        go_roundg (ds.length - (k + 1))
        case measure => omega
        case rel => exact ⟨k + 1, by omega, rfl, by go_num, hT4.cong hsame⟩
    · obtain rfl : k = ds.length := by omega
      have hT : Two w b c log hs.length (backBy hs (ds.map Int.toNat) 0) (fun q => hs[q]?) wr := by
        rw [List.take_length] at hT
        exact hT.cong (fun q => by unfold deadBy backBy; simp)
      clear h0 hlt
      go_wp2
      go_loopg [14] ds.length (fun m i wr => ∃ k : Nat, k ≤ ds.length ∧ m = ds.length - k ∧ i = .int .i64 k ∧ Two w b c log hs.length (backBy hs (ds.map Int.toNat) k) (fun q => hs[q]?) wr)
      case atStart => exact ⟨0, Nat.zero_le _, by omega, rfl, hT⟩
      case round =>
        clear hT
        obtain ⟨k, hk, hgk, rfl, hT⟩ := hrel
        by_cases hlt : k < ds.length
        · rcases hr2 with hr2 | ⟨ub, uo, rfl, hub, hr2⟩
          · subst hr2; simp at hlt
          have hTc : Chg [] w wr := by obtain ⟨_, _, _, _, _, _, _, _, _, h⟩ := hT; exact h
          have hcell : wr.cell? ⟨ub, uo + k, none⟩ = some (.int .u64 ds[k]) := by rw [hTc.cell (p := ⟨ub, uo + k, none⟩) hub (by simp)]; exact hr2 k hlt
          obtain ⟨p0, p1⟩ := hds k hlt
          obtain ⟨p, hp⟩ := Int.eq_ofNat_of_zero_le p0
          have htk : (ds.map Int.toNat)[k]? = some p := by rw [List.getElem?_map, List.getElem?_eq_getElem hlt, hp]; rfl
          rw [hp] at hcell p1
          have HT := Lib.hid htk
          have hst := fun q => backBy_step hs q htk
          clear htk hp p0 hr2 hds hW
          by_cases hn : p < hs.length
          · have dn : decide (p < hs.length) = true := by simp; omega
            rcases hr with hr | ⟨ab, ao, rfl, hab, hr⟩
            · subst hr; simp at hn
            have hr0 := hr p hn
            have hh := hI hs[p] (List.getElem_mem hn)
            have hg : hs[p]? = some hs[p] := List.getElem?_eq_getElem hn
            have hbk : backBy hs (ds.map Int.toNat) (k + 1) p = some hs[p] := by rw [← hst]; rw [if_pos rfl, hg]
            generalize hs[p] = x at *
            have HG := Lib.hid hg
            clear hg hr hTc hI
            cases hv : backBy hs (ds.map Int.toNat) k p with
            | some y =>
              have hyx : y = x := by
                unfold backBy at hv
                split at hv
                · cases hv
                · rw [HG.out] at hv; simpa using hv.symm
              have hsame : ∀ q, backBy hs (ds.map Int.toNat) k q = backBy hs (ds.map Int.toNat) (k + 1) q := by
                intro q
                rw [← hst]
                by_cases e : q = p
                · rw [if_pos e, e, hv, HG.out, hyx]
                · rw [if_neg e]
              have hL := two_live hT hn (by omega) true (by rw [hv]; rfl)
              clear hv hst hr0 hbk
              go_wp2_with (go_at_call 12; refine hL.mono ?_; rintro e w3 ⟨rfl, hT3⟩)
              go_roundg (ds.length - (k + 1))
              case measure => omega
              case rel => exact ⟨k + 1, by omega, rfl, by go_num, hT3.cong hsame⟩
            | none =>
              have hL := two_live hT hn (by omega) false (by rw [hv]; rfl)
              have hB := fun (w' : World) (h' : Two w b c log hs.length (backBy hs (ds.map Int.toNat) k) (fun q => hs[q]?) w') => two_back h' hn (by omega) hh hv
              have hstep : ∀ q, (if q = p then some x else backBy hs (ds.map Int.toNat) k q) = backBy hs (ds.map Int.toNat) (k + 1) q := by
                intro q
                rw [← hst]
                by_cases e : q = p
                · rw [if_pos e, if_pos e, HG.out]
                · rw [if_neg e, if_neg e]
              have hB2 := fun (w' : World) (h' : Two w b c log hs.length (backBy hs (ds.map Int.toNat) (k + 1)) (fun q => hs[q]?) w') => two_back_live h' (by omega : p < 18446744073709551616) H1 hbk
              have hrw : ∀ w', Two w b c log hs.length (backBy hs (ds.map Int.toNat) k) (fun q => hs[q]?) w' → rng? w' ab (ao + p * 32) 32 = some x := fun w' h' => by obtain ⟨_, _, _, _, _, _, _, _, _, hc⟩ := h'; exact rng?_chg hc hr0 (by omega) (by simp)
              clear hv hst hbk hr0
              go_wp2_with fail
              refine hL.mono ?_
              rintro e w3 ⟨rfl, hT3⟩
              have hrg3 := hrw w3 hT3
              go_wp2_with fail
              refine (hB w3 hT3).mono ?_
              rintro e w4 ⟨rfl, hT4⟩
              have hT4 := hT4.cong hstep
              clear hB hrw
              go_wp2_with fail
              refine (hB2 w4 hT4).mono ?_
              rintro e w5 ⟨rfl, hT5⟩
              go_wp2
              go_roundg (ds.length - (k + 1))
              case measure => omega
              case rel => exact ⟨k + 1, by omega, rfl, by go_num, hT5⟩
          · have dn : decide (p < hs.length) = false := by simp; omega
            have hsame : ∀ q, backBy hs (ds.map Int.toNat) k q = backBy hs (ds.map Int.toNat) (k + 1) q := by
              intro q
              rw [← hst]
              by_cases e : q = p
              · rw [if_pos e, e]; unfold backBy; rw [List.getElem?_eq_none (by omega)]; simp
              · rw [if_neg e]
            clear hst hTc
            go_wp2
            go_roundg (ds.length - (k + 1))
            case measure => omega
            case rel => exact ⟨k + 1, by omega, rfl, by go_num, hT.cong hsame⟩
        · obtain rfl : k = ds.length := by omega
          have hT : Two w b c log hs.length (fun q => hs[q]?) (fun q => hs[q]?) wr := hT.cong (fun q => by unfold backBy; rw [List.take_of_length_le (by simp), if_neg (fun h => h.2 h.1)])
          clear hlt hds hW hr2
          go_wp2
          go_loopg [16] hs.length (fun m i wr => ∃ j : Nat, j ≤ hs.length ∧ m = hs.length - j ∧ i = .int .u64 j ∧ Two w b c log hs.length (fun q => hs[q]?) (fun q => hs[q]?) wr)
          case atStart => exact ⟨0, Nat.zero_le _, by omega, rfl, hT⟩
          case round =>
            clear hT
            obtain ⟨j, hj, hgj, rfl, hT⟩ := hrel
            by_cases hlt : j < hs.length
            · rcases hr with hr | ⟨ab, ao, rfl, hab, hr⟩
              · subst hr; simp at hlt
              have hr0 := hr j hlt
              have hh := hI hs[j] (List.getElem_mem hlt)
              have hg : hs[j]? = some hs[j] := List.getElem?_eq_getElem hlt
              have hsz := hh.1
              have hone := hh.one
              have hee : eqH hs[j] hs[j] = true := eqH_self
              have dn : decide (j < hs.length) = true := by simp; omega
              generalize hs[j] = x at *
              have hT0 := hT
              obtain ⟨s, t, h1, h2, h3, h4, h5, h6, h7, h8⟩ := hT
              have hHs : s.getH j = x := by unfold SS.getH; rw [h3.n, if_pos hlt, h3.node, hg]; rfl
              have hEs : s.getE j = 0 := by unfold SS.getE; rw [h3.n, if_pos hlt, h3.node, hg]; rfl
              have hHt : t.getH j = x := by unfold SS.getH; rw [h4.n, if_pos hlt, h4.node, hg]; rfl
              have hEt : t.getE j = 0 := by unfold SS.getE; rw [h4.n, if_pos hlt, h4.node, hg]; rfl
              have hps := pin_nil h3.pins j
              have hg1 := get_calls b j s wr h1 (by omega)
              rw [hHs, hEs] at hg1
              have hg2 := fun w' (h' : Chg [] wr w') => get_calls c j t w' (h2.chg0 h') (by omega)
              rw [hHt, hEt] at hg2
              have hpc := fun w' (h' : Chg [] wr w') => pins_same b j s w' (h1.chg0 h')
              rw [hps] at hpc
              have hrg := rng?_chg h8 hr0 (by omega) (by simp)
              clear hg hr hr0 hHs hEs hHt hEt hps h1 h2 h3 h4 h5 h6 h7 hI
              go_wp2_with fail
              refine hg1.mono ?_
              rintro e w3 ⟨rfl, hc3⟩
              have hc3' := hc3.alloc (.cells x 32)
              have hrA : rng? (w3.alloc (.cells x 32)) w3.heap.size 0 32 = some x := rng?_alloc_at _ _ _ _ _ rfl hsz
              go_wp2_with fail
              refine (hg2 _ hc3').mono ?_
              rintro e w4 ⟨rfl, hc4⟩
              have hrA4 := rng?_chg hc4 hrA (by omega) (by simp)
              have hlt4 : w3.heap.size < w4.heap.size := by have := hc4.size; simp at this; omega
              have hc4' := (hc3'.nil_trans hc4).alloc (.cells x 32)
              have hrB : rng? (w4.alloc (.cells x 32)) w4.heap.size 0 32 = some x := rng?_alloc_at _ _ _ _ _ rfl hsz
              have hrA5 : rng? (w4.alloc (.cells x 32)) w3.heap.size 0 32 = some x := by rw [rng?_alloc_past _ _ _ _ _ hlt4]; exact hrA4
              have hrg5 := rng?_chg hc4' hrg (by omega) (by simp)
              go_wp2_with fail
              generalize hW5 : World.alloc w4 _ = w5
              rw [hW5] at hc4' hrB hrA5 hrg5
              have hpc5 := fun n => hpc (w5.drewN n) (hc4'.drewN n)
              have hlt5 : j < hs.length := hlt
              clear hW5 hrA hrA4 hrg hpc
              go_quiet ((go_at_call 15; exact Calls.quiet_of_same (hpc5 _)))
              go_wp2
              go_roundg (hs.length - (j + 1))
              case measure => omega
              case rel => exact ⟨j + 1, by omega, rfl, by go_num, hT0.chg (hc4'.drewN _)⟩
            · obtain rfl : j = hs.length := by omega
              have dn : decide (hs.length < hs.length) = false := by simp
              have hTc := hT
              obtain ⟨s, t, h1, h2, h3, h4, h5, h6, h7, h8⟩ := hT
              obtain ⟨e1, e2⟩ := same_counts h1 h2 (h3.log.trans h4.log.symm) (fun q => (h3.node q).trans (h4.node q).symm)
              have ha1 := alive_calls b s wr h1
              have ha2 := fun w' (h' : Chg [] wr w') => alive_calls c t w' (h2.chg0 h')
              have hk1 := fun w' (h' : Chg [] wr w') => chunks_calls b s w' (h1.chg0 h')
              have hk2 := fun w' (h' : Chg [] wr w') => chunks_calls c t w' (h2.chg0 h')
              have hl1 := fun w' (h' : Chg [] wr w') => len_calls b s w' (h1.chg0 h')
              have hl2 := fun w' (h' : Chg [] wr w') => len_calls c t w' (h2.chg0 h')
              rw [e1] at ha1
              rw [e2] at hk1
              rw [h3.n] at hl1
              rw [h4.n] at hl2
              generalize t.alive = A at *
              generalize t.cks.length = B at *
              clear e1 e2 h1 h2 h3 h4 h5 h6 h7 hTc hr hI
              go_wp2_with fail
              refine ha1.mono ?_
              rintro e w3 ⟨rfl, c3⟩
              go_wp2_with fail
              refine (ha2 _ c3).mono ?_
              rintro e w4 ⟨rfl, c4⟩
              have c4 := c3.nil_trans c4
              go_wp2_with fail
              refine (hk1 _ c4).mono ?_
              rintro e w5 ⟨rfl, c5⟩
              have c5 := c4.nil_trans c5
              go_wp2_with fail
              refine (hk2 _ c5).mono ?_
              rintro e w6 ⟨rfl, c6⟩
              have c6 := c5.nil_trans c6
              go_wp2_with fail
              refine (hl1 _ c6).mono ?_
              rintro e w7 ⟨rfl, c7⟩
              have c7 := c6.nil_trans c7
              go_wp2_with fail
              refine (hl2 _ c7).mono ?_
              rintro e w8 ⟨rfl, c8⟩
              have c8 := c7.nil_trans c8
              go_wp2_with fail
              refine (awake_calls _).mono ?_
              rintro e w9 ⟨rfl, c9⟩
              have c9 := c8.nil_trans c9
              go_wp2
              go_ret
              exact ⟨rfl, h8.nil_trans c9⟩

set_option maxRecDepth 100000 in
theorem backs_walk (w : World) (log : Int) (_ : -9223372036854775808 ≤ log ∧ log < 9223372036854775808) (v : Value) (hs : List (Array Value)) (hv : HsIs w v hs) (u : Value) (ds : List Int) (hu : NsIs .u64 w u ds) :
    Calls Try.prog 3 #[.int .i64 log, v, u] w (Res w [] (.bool true)) := by
  by_cases hg : 0 ≤ log ∧ log ≤ 16 ∧ hs.length ≤ 200 ∧ ds.length ≤ 200
  · obtain ⟨h1, h2, h3, h4⟩ := hg
    obtain ⟨log, rfl⟩ := Int.eq_ofNat_of_zero_le h1
    exact backs_main log v u hs ds w (by omega) h3 h4 hv hu
  · obtain ⟨_, a, cap, rfl, _⟩ := hv
    obtain ⟨_, a2, cap2, rfl, _⟩ := hu
    by_cases h1 : log < 0
    · go_enter Try.func3, Try.ntmps3
      go_wp2
      go_ret
      exact ⟨rfl, Chg.refl _ _⟩
    · by_cases h2 : 16 < log
      · go_enter Try.func3, Try.ntmps3
        go_wp2
        go_ret
        exact ⟨rfl, Chg.refl _ _⟩
      · by_cases h3 : 200 < hs.length
        · go_enter Try.func3, Try.ntmps3
          go_wp2
          go_ret
          exact ⟨rfl, Chg.refl _ _⟩
        · have h4 : 200 < ds.length := by omega
          go_enter Try.func3, Try.ntmps3
          go_wp2
          go_ret
          exact ⟨rfl, Chg.refl _ _⟩
end Go.Proofs.Ytgmkmcaekolagaa

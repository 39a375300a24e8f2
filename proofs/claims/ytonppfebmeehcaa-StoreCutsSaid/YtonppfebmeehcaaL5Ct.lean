/- StoreCuts: its walk. -/
import Derived.Test.YtonppfebmeehcaaL5Aw
import Derived.Test.YtonppfebmeehcaaStCt
namespace Go.Proofs.Ytonppfebmeehcaa
open Go.RowKit
set_option linter.unusedVariables false
set_option linter.unusedSimpArgs false

/-- A store that holds the first k of these hashes. -/
structure CtIs (w : World) (b : Nat) (hs : List (Array Value)) (k : Nat) (s : SS) (wr : World) : Prop where
  st : StIs wr b s
  n : s.n = k
  alive : s.alive = k
  node : ∀ q, s.node q = if q < k then hs[q]? else none
  chg : Chg [] w wr
  foot : ∀ x ∈ s.foot b, w.heap.size ≤ x
theorem CtIs.chg0 {w wr w' : World} {b : Nat} {hs : List (Array Value)} {k : Nat} {s : SS} (h : CtIs w b hs k s wr) (hc : Chg [] wr w') : CtIs w b hs k s w' := ⟨h.st.chg0 hc, h.n, h.alive, h.node, h.chg.nil_trans hc, h.foot⟩
theorem len_between {gl : List Nat} {n N : Nat} (hn : gl.Nodup) (h : ∀ q, q ∈ gl ↔ n ≤ q ∧ q < N) : gl.length = N - n := by
  have hp : gl.Perm (List.range' n (N - n)) := (List.perm_ext_iff_of_nodup hn (by simp [List.nodup_range'])).2 (fun q => by rw [h, List.mem_range'_1]; omega)
  rw [hp.length_eq, List.length_range']
theorem CtIs.cut {w wr w' : World} {b : Nat} {hs : List (Array Value)} {s s' : SS} {n : Nat} {gl : List Nat} (h : CtIs w b hs hs.length s wr) (hn : n ≤ hs.length) (hst : StIs w' b s') (hr : CutRel s s' n gl) (hm : Mv (s.foot b) (s'.foot b) wr w') (hnd : gl.Nodup) (hgl : ∀ q, q ∈ gl ↔ (s.node q).isSome = true ∧ n ≤ q) : CtIs w b hs n s' w' := by
  have hl : gl.length = hs.length - n := len_between hnd (fun q => by
    rw [hgl, h.node]
    by_cases hq : q < hs.length
    · rw [if_pos hq, List.getElem?_eq_getElem hq]; simp; omega
    · rw [if_neg hq]; simp; omega)
  refine ⟨hst, hr.n, ?_, fun q => ?_, h.chg.trans hm.1 (fun x hx => .inr (h.foot x hx)), fun x hx => (hm.2 x hx).elim (h.foot x) (fun q => by have := h.chg.size; omega)⟩
  · have := hr.alive; rw [h.alive, hl] at this; omega
  · rw [hr.node]
    by_cases hq : q < n
    · rw [if_pos hq, if_pos hq, h.node, if_pos (by omega)]
    · rw [if_neg hq, if_neg hq]
theorem CtIs.push {w wr w' : World} {b : Nat} {hs : List (Array Value)} {k : Nat} {s : SS} {h : Array Value} {e : Ending} (hc : CtIs w b hs k s wr) (hk : hs[k]? = some h) (hp : PushP wr b s h e w') : e = .returned (.int .u64 (k : Nat)) ∧ ∃ s', CtIs w b hs (k + 1) s' w' := by
  obtain ⟨he, s', h1, h2, h3⟩ := hp
  refine ⟨by rw [he, hc.n], s', h1, by rw [h2.n]; simp [hc.n], by rw [h2.alive, hc.alive], ?_, hc.chg.trans h3.1 (fun x hx => .inr (hc.foot x hx)), fun x hx => (h3.2 x hx).elim (hc.foot x) (fun q => by have := hc.chg.size; omega)⟩
  intro q
  rw [h2.node q, hc.n]
  by_cases e : q = k
  · subst e; rw [if_pos rfl, if_pos (by omega), hk]
  · rw [if_neg e]
    show s.node q = _
    rw [hc.node q]
    by_cases hq : q < k
    · rw [if_pos hq, if_pos (by omega)]
    · rw [if_neg hq, if_neg (by omega)]

/-- What pinning comes to. -/
def CtPinP (w : World) (b : Nat) (hs : List (Array Value)) (p : Nat) (E : Int) (e : Ending) (w' : World) : Prop :=
  e = .returned (.int .i64 E) ∧ ∃ s, CtIs w b hs hs.length s w' ∧ ∀ q, s.pin q = if q = p ∧ p < hs.length then 1 else 0
theorem ct_pin {w wr : World} {b : Nat} {hs : List (Array Value)} {s : SS} (h : CtIs w b hs hs.length s wr) (h0 : ∀ q, s.pin q = 0) (p : Nat) (hp : p < 18446744073709551616) :
    Calls Try.prog 24 #[.pointer (some ⟨b, 0, none⟩), .int .u64 p] wr (CtPinP w b hs p (if p < hs.length then 0 else 31)) := by
  by_cases hpn : p < hs.length
  · have hE : s.getE p = 0 := by unfold SS.getE; rw [h.n, if_pos hpn, h.node, if_pos hpn, List.getElem?_eq_getElem hpn]; rfl
    refine (pin_ok b p s wr h.st hp hE (by rw [h0]; omega)).mono ?_
    rintro e w' ⟨rfl, h1, h2⟩
    rw [if_pos hpn]
    refine ⟨rfl, _, ⟨h1, h.n, h.alive, h.node, h.chg.trans h2 (fun x hx => .inr (h.foot x (by simp at hx; subst hx; simp [SS.foot]))), h.foot⟩, fun q => ?_⟩
    rw [pin_put, h0, h0]
    by_cases e : q = p <;> simp [e, hpn]
  · have hE : s.getE p = 31 := by unfold SS.getE; rw [h.n, if_neg hpn]
    have hpk := pin_bad b p s wr h.st hp (by rw [hE]; decide)
    rw [hE] at hpk
    refine hpk.mono ?_
    rintro e w' ⟨rfl, h1⟩
    rw [if_neg hpn]
    exact ⟨rfl, s, h.chg0 h1, fun q => by rw [h0]; simp [hpn]⟩
def CtP (w : World) (b : Nat) (hs : List (Array Value)) (k : Nat) (v : Value) (e : Ending) (w' : World) : Prop := e = .returned v ∧ ∃ s, CtIs w b hs k s w'
theorem ct_cut {w wr : World} {b : Nat} {hs : List (Array Value)} {s : SS} (h : CtIs w b hs hs.length s wr) {p : Nat} (h0 : ∀ q, s.pin q = if q = p ∧ p < hs.length then 1 else 0) (n : Nat) (hn : n < 18446744073709551616) :
    Calls Try.prog 32 #[.pointer (some ⟨b, 0, none⟩), .int .u64 n] wr (CtP w b hs (if hs.length < n then hs.length else if p < hs.length ∧ n ≤ p then hs.length else n) (.int .i64 (if hs.length < n then 31 else if p < hs.length ∧ n ≤ p then 51 else 0))) := by
  refine (cut_calls b s wr h.st n hn).mono ?_
  rintro e w' (⟨h1, rfl, h2⟩ | ⟨h1, ⟨q, hq, hq2⟩, rfl, h2⟩ | ⟨h1, h2, rfl, s', gl, h3, h4, h5, h6, h7⟩)
  · rw [h.n] at h1
    rw [if_pos h1, if_pos h1]
    exact ⟨rfl, s, h.chg0 h2⟩
  · rw [h.n] at h1
    rw [h0] at hq2
    have hc : p < hs.length ∧ n ≤ p := by
      by_cases e : q = p ∧ p < hs.length
      · obtain ⟨rfl, e⟩ := e; exact ⟨e, hq⟩
      · rw [if_neg e] at hq2; omega
    have hnl : ¬ hs.length < n := by omega
    simp only [if_neg hnl, if_pos hc]
    exact ⟨rfl, s, h.chg0 h2⟩
  · rw [h.n] at h1
    have hc : ¬ (p < hs.length ∧ n ≤ p) := fun hc => by
      have := h2 p hc.2
      rw [h0, if_pos ⟨rfl, hc.1⟩] at this
      omega
    have hnl : ¬ hs.length < n := by omega
    simp only [if_neg hnl, if_neg hc]
    exact ⟨rfl, s', h.cut h1 h3 h4 h5 h6 h7⟩

set_option maxRecDepth 100000 in
set_option maxHeartbeats 2000000 in
theorem cuts_main (log : Nat) (v : Value) (hs : List (Array Value)) (n p : Nat) (w : World) (hl : log ≤ 16) (hlen : hs.length ≤ 200) (hv : HsIs w v hs) (hn : n < 18446744073709551616) (hp : p < 18446744073709551616) :
    Calls Try.prog 6 #[.int .i64 log, v, .int .u64 n, .int .u64 p] w (Res w [] (.bool true)) := by
  have hfill := fill_calls log v hs w hl hlen hv
  obtain ⟨hI, a, cap, rfl, hr⟩ := hv
  have d1 : decide ((log : Int) < 0) = false := by simp
  have d2 : decide ((16 : Int) < log) = false := by simp; omega
  have d3 : decide ((200 : Int) < hs.length) = false := by simp; omega
  by_cases hA : hs.length < n
  · skip
    go_enter Try.func6, Try.ntmps6
    go_wp2_with fail
    refine hfill.mono ?_
    rintro e w1 ⟨b, rfl, s, hst, hfl, hc, hf⟩
    have h0 : CtIs w b hs hs.length s w1 := ⟨hst, hfl.n, hfl.alive, hfl.node, hc, hf⟩
    have hpk := ct_pin h0 (pin_nil hfl.pins) p hp
    have hck := fun (w2 : World) (s2 : SS) (h2 : CtIs w b hs hs.length s2 w2) (h3 : ∀ q, s2.pin q = if q = p ∧ p < hs.length then 1 else 0) => ct_cut h2 h3 n hn
    clear hfill hst hfl hc hf h0
    simp only [if_pos hA] at hck
    generalize (if p < hs.length then (0 : Int) else 31) = E at *
    go_wp2_with (first
      | (go_at_call 24; refine hpk.mono ?_; rintro e w2 ⟨rfl, s2, h2, h3⟩)
      | (go_at_call 32; refine (hck _ _ h2 h3).mono ?_; rintro e w3 ⟨rfl, s3, h4⟩))
    clear hpk hck h2 h3
    go_loopg [16] hs.length (fun m i wr => ∃ j : Nat, j ≤ hs.length ∧ m = hs.length - j ∧ i = .int .u64 j ∧ CtIs w b hs hs.length s3 wr)
    case atStart => exact ⟨0, Nat.zero_le _, by omega, rfl, h4⟩
    case round =>
      clear h4
      obtain ⟨j, hj, hgj, rfl, hT⟩ := hrel
      by_cases hlt : j < hs.length
      · rcases hr with hr | ⟨ab, ao, rfl, hab, hr⟩
        · subst hr; simp at hlt
        have hr0 := hr j hlt
        have hh := hI hs[j] (List.getElem_mem hlt)
        have hg : hs[j]? = some hs[j] := List.getElem?_eq_getElem hlt
        have hsz := hh.1
        have hone := hh.one
        have hee : eqH hs[j] hs[j] = true := eqH_self
        have dn : decide (j < hs.length) = true := by simp; omega
        generalize hs[j] = x at *
        have hHs : s3.getH j = x := by unfold SS.getH; rw [hT.n, if_pos hlt, hT.node, if_pos hlt, hg]; rfl
        have hEs : s3.getE j = 0 := by unfold SS.getE; rw [hT.n, if_pos hlt, hT.node, if_pos hlt, hg]; rfl
        have hg1 := get_calls b j s3 wr hT.st (by omega)
        rw [hHs, hEs] at hg1
        have hrg := rng?_chg hT.chg hr0 (by omega) (by simp)
        have HT0 := Lib.hid hT
        clear hg hr hr0 hHs hEs hI hT
        go_wp2_with fail
        refine hg1.mono ?_
        rintro e w5 ⟨rfl, hc5⟩
        have hc5' := hc5.alloc (.cells x 30)
        have hrA : rng? (w5.alloc (.cells x 30)) w5.heap.size 0 32 = some x := rng?_alloc_at _ _ _ _ _ rfl hsz
        have hrB := rng?_chg hc5' hrg (by omega) (by simp)
        clear hrg
        go_wp2_with fail
        generalize hW6 : World.alloc w5 _ = w6
        rw [hW6] at hc5' hrA hrB
        clear hW6 hc5
        go_quiet (fail)
        go_wp2
        go_roundg (hs.length - (j + 1))
        case measure => omega
        case rel => exact ⟨j + 1, by omega, rfl, by go_num, HT0.out.chg0 (hc5'.drewN _)⟩
      · obtain rfl : j = hs.length := by omega
        have dn : decide (hs.length < hs.length) = false := by simp
        have hl1 := len_calls b s3 wr hT.st
        have ha1 := fun w' (h' : Chg [] wr w') => alive_calls b s3 w' (hT.st.chg0 h')
        rw [hT.n] at hl1
        rw [hT.alive] at ha1
        have HTC := hT.chg
        clear hT hlt hr hI
        go_wp2_with fail
        refine hl1.mono ?_
        rintro e w5 ⟨rfl, c5⟩
        go_wp2_with fail
        refine (ha1 _ c5).mono ?_
        rintro e w6 ⟨rfl, c6⟩
        have c6 := c5.nil_trans c6
        go_wp2_with fail
        refine (awake_calls _).mono ?_
        rintro e w7 ⟨rfl, c7⟩
        have c7 := c6.nil_trans c7
        go_wp2
        go_ret
        exact ⟨rfl, HTC.nil_trans c7⟩
  · by_cases hB : p < hs.length ∧ n ≤ p
    · obtain ⟨hB1, hB2⟩ := hB
      go_enter Try.func6, Try.ntmps6
      go_wp2_with fail
      refine hfill.mono ?_
      rintro e w1 ⟨b, rfl, s, hst, hfl, hc, hf⟩
      have h0 : CtIs w b hs hs.length s w1 := ⟨hst, hfl.n, hfl.alive, hfl.node, hc, hf⟩
      have hpk := ct_pin h0 (pin_nil hfl.pins) p hp
      have hck := fun (w2 : World) (s2 : SS) (h2 : CtIs w b hs hs.length s2 w2) (h3 : ∀ q, s2.pin q = if q = p ∧ p < hs.length then 1 else 0) => ct_cut h2 h3 n hn
      clear hfill hst hfl hc hf h0
      simp only [if_neg hA, if_pos (show p < hs.length ∧ n ≤ p from ⟨hB1, hB2⟩)] at hck
      rw [if_pos hB1] at hpk
      have d4 : decide (hs.length < n) = false := by simp; omega
      go_wp2_with (first
        | (go_at_call 24; refine hpk.mono ?_; rintro e w2 ⟨rfl, s2, h2, h3⟩)
        | (go_at_call 32; refine (hck _ _ h2 h3).mono ?_; rintro e w3 ⟨rfl, s3, h4⟩))
      clear hpk hck h2 h3
      go_loopg [16] hs.length (fun m i wr => ∃ j : Nat, j ≤ hs.length ∧ m = hs.length - j ∧ i = .int .u64 j ∧ CtIs w b hs hs.length s3 wr)
      case atStart => exact ⟨0, Nat.zero_le _, by omega, rfl, h4⟩
      case round =>
        clear h4
        obtain ⟨j, hj, hgj, rfl, hT⟩ := hrel
        by_cases hlt : j < hs.length
        · rcases hr with hr | ⟨ab, ao, rfl, hab, hr⟩
          · subst hr; simp at hlt
          have hr0 := hr j hlt
          have hh := hI hs[j] (List.getElem_mem hlt)
          have hg : hs[j]? = some hs[j] := List.getElem?_eq_getElem hlt
          have hsz := hh.1
          have hone := hh.one
          have hee : eqH hs[j] hs[j] = true := eqH_self
          have dn : decide (j < hs.length) = true := by simp; omega
          generalize hs[j] = x at *
          have hHs : s3.getH j = x := by unfold SS.getH; rw [hT.n, if_pos hlt, hT.node, if_pos hlt, hg]; rfl
          have hEs : s3.getE j = 0 := by unfold SS.getE; rw [hT.n, if_pos hlt, hT.node, if_pos hlt, hg]; rfl
          have hg1 := get_calls b j s3 wr hT.st (by omega)
          rw [hHs, hEs] at hg1
          have hrg := rng?_chg hT.chg hr0 (by omega) (by simp)
          have HT0 := Lib.hid hT
          clear hg hr hr0 hHs hEs hI hT
          go_wp2_with fail
          refine hg1.mono ?_
          rintro e w5 ⟨rfl, hc5⟩
          have hc5' := hc5.alloc (.cells x 30)
          have hrA : rng? (w5.alloc (.cells x 30)) w5.heap.size 0 32 = some x := rng?_alloc_at _ _ _ _ _ rfl hsz
          have hrB := rng?_chg hc5' hrg (by omega) (by simp)
          clear hrg
          go_wp2_with fail
          generalize hW6 : World.alloc w5 _ = w6
          rw [hW6] at hc5' hrA hrB
          clear hW6 hc5
          go_quiet (fail)
          go_wp2
          go_roundg (hs.length - (j + 1))
          case measure => omega
          case rel => exact ⟨j + 1, by omega, rfl, by go_num, HT0.out.chg0 (hc5'.drewN _)⟩
        · obtain rfl : j = hs.length := by omega
          have dn : decide (hs.length < hs.length) = false := by simp
          have hl1 := len_calls b s3 wr hT.st
          have ha1 := fun w' (h' : Chg [] wr w') => alive_calls b s3 w' (hT.st.chg0 h')
          rw [hT.n] at hl1
          rw [hT.alive] at ha1
          have HTC := hT.chg
          clear hT hlt hr hI
          go_wp2_with fail
          refine hl1.mono ?_
          rintro e w5 ⟨rfl, c5⟩
          go_wp2_with fail
          refine (ha1 _ c5).mono ?_
          rintro e w6 ⟨rfl, c6⟩
          have c6 := c5.nil_trans c6
          go_wp2_with fail
          refine (awake_calls _).mono ?_
          rintro e w7 ⟨rfl, c7⟩
          have c7 := c6.nil_trans c7
          go_wp2
          go_ret
          exact ⟨rfl, HTC.nil_trans c7⟩
    · have d4 : decide (hs.length < n) = false := by simp; omega
      by_cases hpn : p < hs.length
      · have hB2 : p < n := by omega
        have d5 : decide (n ≤ p) = false := by simp; omega
        go_enter Try.func6, Try.ntmps6
        go_wp2_with fail
        refine hfill.mono ?_
        rintro e w1 ⟨b, rfl, s, hst, hfl, hc, hf⟩
        have h0 : CtIs w b hs hs.length s w1 := ⟨hst, hfl.n, hfl.alive, hfl.node, hc, hf⟩
        have hpk := ct_pin h0 (pin_nil hfl.pins) p hp
        have hck := fun (w2 : World) (s2 : SS) (h2 : CtIs w b hs hs.length s2 w2) (h3 : ∀ q, s2.pin q = if q = p ∧ p < hs.length then 1 else 0) => ct_cut h2 h3 n hn
        clear hfill hst hfl hc hf h0
        simp only [if_neg hA, if_neg hB] at hck
        rw [if_pos hpn] at hpk
        go_wp2_with (first
          | (go_at_call 24; refine hpk.mono ?_; rintro e w2 ⟨rfl, s2, h2, h3⟩)
          | (go_at_call 32; refine (hck _ _ h2 h3).mono ?_; rintro e w3 ⟨rfl, s3, h4⟩; have hlc := len_calls b s3 w3 h4.st; rw [h4.n] at hlc; have hlv := fun w' (h' : Chg [] w3 w') => live_calls b n s3 w' (h4.st.chg0 h') hn; have hEn : s3.getE n = 31 := (by unfold SS.getE; rw [h4.n, if_neg (by omega)]); rw [hEn] at hlv; clear hEn)
          | (go_at_call 27; refine hlc.mono ?_; rintro e w4 ⟨rfl, c4⟩)
          | (go_at_call 29; refine (hlv _ c4).mono ?_; rintro e w5 ⟨rfl, c5⟩))
        have h5 := h4.chg0 (c4.nil_trans c5)
        clear hlc hlv c4 c5 h4 hpk hck h2 h3
        go_loopg [15] (hs.length - n) (fun m i wr => ∃ j s, n ≤ j ∧ j ≤ hs.length ∧ m = hs.length - j ∧ i = .int .u64 (j : Nat) ∧ CtIs w b hs j s wr)
        case atStart => exact ⟨n, s3, Nat.le_refl _, by omega, rfl, rfl, h5⟩
        case round =>
          clear h5 s3
          obtain ⟨j, s3, hnj, hj, hgj, rfl, hT⟩ := hrel
          by_cases hlt : j < hs.length
          · rcases hr with hr | ⟨ab, ao, rfl, hab, hr⟩
            · subst hr; simp at hlt
            have hr0 := rng?_chg hT.chg (hr j hlt) (by omega) (by simp)
            have hh := hI hs[j] (List.getElem_mem hlt)
            have hg : hs[j]? = some hs[j] := List.getElem?_eq_getElem hlt
            have hsz := hh.1
            have hone := hh.one
            have dn : decide (j < hs.length) = true := by simp; omega
            have hps := push_calls b s3 hs[j] wr hT.st hh (by rw [hT.n]; omega) (by rw [hT.alive]; omega)
            have hstep := fun e w' (h : PushP wr b s3 hs[j] e w') => hT.push hg h
            generalize hs[j] = x at *
            clear hg hr hI hT
            go_wp2_with (go_at_call 33; refine hps.mono ?_; rintro e w6 hp6; obtain ⟨rfl, s6, h6⟩ := hstep _ _ hp6)
            go_roundg (hs.length - (j + 1))
            case measure => omega
            case rel => exact ⟨j + 1, s6, by omega, by omega, rfl, by go_num, h6⟩
          · obtain rfl : j = hs.length := by omega
            have dn : decide (hs.length < hs.length) = false := by simp
            have h4 := hT
            clear hT hlt
            go_wp2
            go_loopg [16] hs.length (fun m i wr => ∃ j : Nat, j ≤ hs.length ∧ m = hs.length - j ∧ i = .int .u64 j ∧ CtIs w b hs hs.length s3 wr)
            case atStart => exact ⟨0, Nat.zero_le _, by omega, rfl, h4⟩
            case round =>
              clear h4
              obtain ⟨j, hj, hgj, rfl, hT⟩ := hrel
              by_cases hlt : j < hs.length
              · rcases hr with hr | ⟨ab, ao, rfl, hab, hr⟩
                · subst hr; simp at hlt
                have hr0 := hr j hlt
                have hh := hI hs[j] (List.getElem_mem hlt)
                have hg : hs[j]? = some hs[j] := List.getElem?_eq_getElem hlt
                have hsz := hh.1
                have hone := hh.one
                have hee : eqH hs[j] hs[j] = true := eqH_self
                have dn : decide (j < hs.length) = true := by simp; omega
                generalize hs[j] = x at *
                have hHs : s3.getH j = x := by unfold SS.getH; rw [hT.n, if_pos hlt, hT.node, if_pos hlt, hg]; rfl
                have hEs : s3.getE j = 0 := by unfold SS.getE; rw [hT.n, if_pos hlt, hT.node, if_pos hlt, hg]; rfl
                have hg1 := get_calls b j s3 wr hT.st (by omega)
                rw [hHs, hEs] at hg1
                have hrg := rng?_chg hT.chg hr0 (by omega) (by simp)
                have HT0 := Lib.hid hT
                clear hg hr hr0 hHs hEs hI hT
                go_wp2_with fail
                refine hg1.mono ?_
                rintro e w5 ⟨rfl, hc5⟩
                have hc5' := hc5.alloc (.cells x 30)
                have hrA : rng? (w5.alloc (.cells x 30)) w5.heap.size 0 32 = some x := rng?_alloc_at _ _ _ _ _ rfl hsz
                have hrB := rng?_chg hc5' hrg (by omega) (by simp)
                clear hrg
                go_wp2_with fail
                generalize hW6 : World.alloc w5 _ = w6
                rw [hW6] at hc5' hrA hrB
                clear hW6 hc5
                go_quiet (fail)
                go_wp2
                go_roundg (hs.length - (j + 1))
                case measure => omega
                case rel => exact ⟨j + 1, by omega, rfl, by go_num, HT0.out.chg0 (hc5'.drewN _)⟩
              · obtain rfl : j = hs.length := by omega
                have dn : decide (hs.length < hs.length) = false := by simp
                have hl1 := len_calls b s3 wr hT.st
                have ha1 := fun w' (h' : Chg [] wr w') => alive_calls b s3 w' (hT.st.chg0 h')
                rw [hT.n] at hl1
                rw [hT.alive] at ha1
                have HTC := hT.chg
                clear hT hlt hr hI
                go_wp2_with fail
                refine hl1.mono ?_
                rintro e w5 ⟨rfl, c5⟩
                go_wp2_with fail
                refine (ha1 _ c5).mono ?_
                rintro e w6 ⟨rfl, c6⟩
                have c6 := c5.nil_trans c6
                go_wp2_with fail
                refine (awake_calls _).mono ?_
                rintro e w7 ⟨rfl, c7⟩
                have c7 := c6.nil_trans c7
                go_wp2
                go_ret
                exact ⟨rfl, HTC.nil_trans c7⟩
      · skip
        go_enter Try.func6, Try.ntmps6
        go_wp2_with fail
        refine hfill.mono ?_
        rintro e w1 ⟨b, rfl, s, hst, hfl, hc, hf⟩
        have h0 : CtIs w b hs hs.length s w1 := ⟨hst, hfl.n, hfl.alive, hfl.node, hc, hf⟩
        have hpk := ct_pin h0 (pin_nil hfl.pins) p hp
        have hck := fun (w2 : World) (s2 : SS) (h2 : CtIs w b hs hs.length s2 w2) (h3 : ∀ q, s2.pin q = if q = p ∧ p < hs.length then 1 else 0) => ct_cut h2 h3 n hn
        clear hfill hst hfl hc hf h0
        simp only [if_neg hA, if_neg hB] at hck
        rw [if_neg hpn] at hpk
        go_wp2_with (first
          | (go_at_call 24; refine hpk.mono ?_; rintro e w2 ⟨rfl, s2, h2, h3⟩)
          | (go_at_call 32; refine (hck _ _ h2 h3).mono ?_; rintro e w3 ⟨rfl, s3, h4⟩; have hlc := len_calls b s3 w3 h4.st; rw [h4.n] at hlc; have hlv := fun w' (h' : Chg [] w3 w') => live_calls b n s3 w' (h4.st.chg0 h') hn; have hEn : s3.getE n = 31 := (by unfold SS.getE; rw [h4.n, if_neg (by omega)]); rw [hEn] at hlv; clear hEn)
          | (go_at_call 27; refine hlc.mono ?_; rintro e w4 ⟨rfl, c4⟩)
          | (go_at_call 29; refine (hlv _ c4).mono ?_; rintro e w5 ⟨rfl, c5⟩))
        have h5 := h4.chg0 (c4.nil_trans c5)
        clear hlc hlv c4 c5 h4 hpk hck h2 h3
        go_loopg [15] (hs.length - n) (fun m i wr => ∃ j s, n ≤ j ∧ j ≤ hs.length ∧ m = hs.length - j ∧ i = .int .u64 (j : Nat) ∧ CtIs w b hs j s wr)
        case atStart => exact ⟨n, s3, Nat.le_refl _, by omega, rfl, rfl, h5⟩
        case round =>
          clear h5 s3
          obtain ⟨j, s3, hnj, hj, hgj, rfl, hT⟩ := hrel
          by_cases hlt : j < hs.length
          · rcases hr with hr | ⟨ab, ao, rfl, hab, hr⟩
            · subst hr; simp at hlt
            have hr0 := rng?_chg hT.chg (hr j hlt) (by omega) (by simp)
            have hh := hI hs[j] (List.getElem_mem hlt)
            have hg : hs[j]? = some hs[j] := List.getElem?_eq_getElem hlt
            have hsz := hh.1
            have hone := hh.one
            have dn : decide (j < hs.length) = true := by simp; omega
            have hps := push_calls b s3 hs[j] wr hT.st hh (by rw [hT.n]; omega) (by rw [hT.alive]; omega)
            have hstep := fun e w' (h : PushP wr b s3 hs[j] e w') => hT.push hg h
            generalize hs[j] = x at *
            clear hg hr hI hT
            go_wp2_with (go_at_call 33; refine hps.mono ?_; rintro e w6 hp6; obtain ⟨rfl, s6, h6⟩ := hstep _ _ hp6)
            go_roundg (hs.length - (j + 1))
            case measure => omega
            case rel => exact ⟨j + 1, s6, by omega, by omega, rfl, by go_num, h6⟩
          · obtain rfl : j = hs.length := by omega
            have dn : decide (hs.length < hs.length) = false := by simp
            have h4 := hT
            clear hT hlt
            go_wp2
            go_loopg [16] hs.length (fun m i wr => ∃ j : Nat, j ≤ hs.length ∧ m = hs.length - j ∧ i = .int .u64 j ∧ CtIs w b hs hs.length s3 wr)
            case atStart => exact ⟨0, Nat.zero_le _, by omega, rfl, h4⟩
            case round =>
              clear h4
              obtain ⟨j, hj, hgj, rfl, hT⟩ := hrel
              by_cases hlt : j < hs.length
              · rcases hr with hr | ⟨ab, ao, rfl, hab, hr⟩
                · subst hr; simp at hlt
                have hr0 := hr j hlt
                have hh := hI hs[j] (List.getElem_mem hlt)
                have hg : hs[j]? = some hs[j] := List.getElem?_eq_getElem hlt
                have hsz := hh.1
                have hone := hh.one
                have hee : eqH hs[j] hs[j] = true := eqH_self
                have dn : decide (j < hs.length) = true := by simp; omega
                generalize hs[j] = x at *
                have hHs : s3.getH j = x := by unfold SS.getH; rw [hT.n, if_pos hlt, hT.node, if_pos hlt, hg]; rfl
                have hEs : s3.getE j = 0 := by unfold SS.getE; rw [hT.n, if_pos hlt, hT.node, if_pos hlt, hg]; rfl
                have hg1 := get_calls b j s3 wr hT.st (by omega)
                rw [hHs, hEs] at hg1
                have hrg := rng?_chg hT.chg hr0 (by omega) (by simp)
                have HT0 := Lib.hid hT
                clear hg hr hr0 hHs hEs hI hT
                go_wp2_with fail
                refine hg1.mono ?_
                rintro e w5 ⟨rfl, hc5⟩
                have hc5' := hc5.alloc (.cells x 30)
                have hrA : rng? (w5.alloc (.cells x 30)) w5.heap.size 0 32 = some x := rng?_alloc_at _ _ _ _ _ rfl hsz
                have hrB := rng?_chg hc5' hrg (by omega) (by simp)
                clear hrg
                go_wp2_with fail
                generalize hW6 : World.alloc w5 _ = w6
                rw [hW6] at hc5' hrA hrB
                clear hW6 hc5
                go_quiet (fail)
                go_wp2
                go_roundg (hs.length - (j + 1))
                case measure => omega
                case rel => exact ⟨j + 1, by omega, rfl, by go_num, HT0.out.chg0 (hc5'.drewN _)⟩
              · obtain rfl : j = hs.length := by omega
                have dn : decide (hs.length < hs.length) = false := by simp
                have hl1 := len_calls b s3 wr hT.st
                have ha1 := fun w' (h' : Chg [] wr w') => alive_calls b s3 w' (hT.st.chg0 h')
                rw [hT.n] at hl1
                rw [hT.alive] at ha1
                have HTC := hT.chg
                clear hT hlt hr hI
                go_wp2_with fail
                refine hl1.mono ?_
                rintro e w5 ⟨rfl, c5⟩
                go_wp2_with fail
                refine (ha1 _ c5).mono ?_
                rintro e w6 ⟨rfl, c6⟩
                have c6 := c5.nil_trans c6
                go_wp2_with fail
                refine (awake_calls _).mono ?_
                rintro e w7 ⟨rfl, c7⟩
                have c7 := c6.nil_trans c7
                go_wp2
                go_ret
                exact ⟨rfl, HTC.nil_trans c7⟩
set_option maxRecDepth 100000 in
theorem cuts_walk (w : World) (log : Int) (_ : -9223372036854775808 ≤ log ∧ log < 9223372036854775808) (v : Value) (hs : List (Array Value)) (hv : HsIs w v hs) (n : Int) (hn : 0 ≤ n ∧ n < 18446744073709551616) (p : Int) (hp : 0 ≤ p ∧ p < 18446744073709551616) :
    Calls Try.prog 6 #[.int .i64 log, v, .int .u64 n, .int .u64 p] w (Res w [] (.bool true)) := by
  obtain ⟨n, rfl⟩ := Int.eq_ofNat_of_zero_le hn.1
  obtain ⟨p, rfl⟩ := Int.eq_ofNat_of_zero_le hp.1
  by_cases hg : 0 ≤ log ∧ log ≤ 16 ∧ hs.length ≤ 200
  · obtain ⟨h1, h2, h3⟩ := hg
    obtain ⟨log, rfl⟩ := Int.eq_ofNat_of_zero_le h1
    exact cuts_main log v hs n p w (by omega) h3 hv (by omega) (by omega)
  · obtain ⟨_, a, cap, rfl, _⟩ := hv
    by_cases h1 : log < 0
    · go_enter Try.func6, Try.ntmps6
      go_wp2
      go_ret
      exact ⟨rfl, Chg.refl _ _⟩
    · by_cases h2 : 16 < log
      · go_enter Try.func6, Try.ntmps6
        go_wp2
        go_ret
        exact ⟨rfl, Chg.refl _ _⟩
      · have h3 : 200 < hs.length := by omega
        go_enter Try.func6, Try.ntmps6
        go_wp2
        go_ret
        exact ⟨rfl, Chg.refl _ _⟩
end Go.Proofs.Ytonppfebmeehcaa

/- StoreSweeps: its walk. -/
import Derived.Test.YtonppfebmeehcaaL5Aw
import Derived.Test.YtonppfebmeehcaaStS
import Derived.Test.YtonppfebmeehcaaCnk
import Derived.Test.YtonppfebmeehcaaRg
import Derived.Test.YtonppfebmeehcaaNums
namespace Go.Proofs.Ytonppfebmeehcaa
open Go.RowKit
set_option linter.unusedVariables false
set_option linter.unusedSimpArgs false

theorem UOwn.appendR {w : World} {B : Nat} {v : Value} {l l2 : List Nat} {a : Option Addr} {cap : Nat} (h : UOwn w B v l) (hl : Rd w 1 a l2.length (l2.map fun (n : Nat) => Value.int .u64 (n : Int))) (hlen : l.length + l2.length ≤ 4294967296) (hB : B ≤ w.heap.size) (ty : TypeId) :
    ∃ v' w', (Builtin.append_ #[36, 36] ty #[v, .slice a l2.length cap]).run Try.prog w = .ok v' w' ∧ UOwn w' B v' (l ++ l2) ∧ Chg (ob v) w w' ∧ (∀ k ∈ ob v', k ∈ ob v ∨ w.heap.size ≤ k) := by
  obtain ⟨i, hi, hz, hsz, hby⟩ := infoOfU i_u64
  obtain ⟨v', w', hr, h2, h3, h4⟩ := run_append_any (P := Try.prog) w B 36 ty 31 i _ 1 8 u_u64s hi hz hsz hby rfl (by decide) v l.length _ h a l2.length cap _ hl
    (fun u hu => by
      obtain ⟨x, _, rfl⟩ := List.mem_map.1 hu
      rfl) (by unfold maxLen; omega) (by omega) hB
  refine ⟨v', w', hr, ?_, h3, h4⟩
  unfold UOwn
  rw [List.length_append, List.map_append]
  exact h2
theorem NsIs.rdN {w : World} {a : Option Addr} {cap n : Nat} {ns : List Int} (h : NsIs .u64 w (.slice a n cap) ns) : n = ns.length ∧ Rd w 1 a (ns.map Int.toNat).length ((ns.map Int.toNat).map fun (n : Nat) => Value.int .u64 (n : Int)) := by
  obtain ⟨h1, a', cap', hv, h2⟩ := h
  injection hv with e1 e2 e3
  subst e1 e2 e3
  refine ⟨rfl, by simp, fun h0 => ?_⟩
  rcases h2 with rfl | ⟨b, o, rfl, hb, hc⟩
  · simp at h0
  · refine ⟨b, o, rfl, fun j u hu => ?_⟩
    simp only [List.getElem?_map, List.map_map] at hu
    cases hj : ns[j]? with
    | none => rw [hj] at hu; simp at hu
    | some x =>
      obtain ⟨hjl, hjx⟩ := List.getElem?_eq_some_iff.1 hj
      rw [hj] at hu
      simp at hu
      subst hu
      have h0 := (wf_u64 (h1 x (by rw [← hjx]; exact List.getElem_mem hjl))).1
      rw [hc j hjl, hjx]
      congr 2
      omega
def apW (ts : Array TypeId) (ty : TypeId) (xs : Array Value) : Sem Value := Builtin.append_ ts ty xs
theorem hold_apW (ts : Array TypeId) (ty : TypeId) (xs : Array Value) : Builtin.append_ ts ty xs = apW ts ty xs := rfl
theorem copyU {w2 : World} {a3 : Option Addr} {cap3 : Nat} {es : List Int} (hx : NsIs .u64 w2 (.slice a3 es.length cap3) es) (hl : es.length ≤ 1000000) :
    ∃ a' cap' w', (apW #[36, 36] 36 #[.slice (some ⟨w2.heap.size, 0, none⟩) 0 0, .slice a3 es.length cap3]).run Try.prog (w2.alloc (.cells #[] 31)) = .ok (.slice a' es.length cap') w' ∧
      UOwn w' w2.heap.size (.slice a' es.length cap') (es.map Int.toNat) ∧ Chg [] w2 w' := by
  have hc : Chg [] w2 (w2.alloc (.cells #[] 31)) := (Chg.refl _ _).alloc _
  have h0 : UOwn (w2.alloc (.cells #[] 31)) w2.heap.size (.slice (some ⟨w2.heap.size, 0, none⟩) 0 0) [] := own_new w2 w2.heap.size 31 1 0 #[] (Nat.le_refl _) rfl (Nat.zero_le _)
  obtain ⟨_, hrd⟩ := (hx.chg hc (by simp)).rdN
  have hlm : (es.map Int.toNat).length = es.length := by simp
  obtain ⟨v', w', hr, ho, hc2, _⟩ := h0.appendR (cap := cap3) hrd (by simp; omega) hc.size 36
  obtain ⟨a', cap', rfl⟩ := ho.shape
  simp only [List.nil_append, hlm] at ho hr
  exact ⟨a', cap', w', hr, ho, hc.trans hc2 (fun x hx => .inr (own_lt h0 x hx).1)⟩
/-- A store of N places in which these nodes live. -/
structure SwIs (w : World) (b log N : Nat) (nd : Nat → Option (Array Value)) (s : SS) (wr : World) : Prop where
  st : StIs wr b s
  log : s.log = log
  n : s.n = N
  node : ∀ q, s.node q = nd q
  chg : Chg [] w wr
  foot : ∀ x ∈ s.foot b, w.heap.size ≤ x
theorem SwIs.chg0 {w wr w' : World} {b log N : Nat} {nd : Nat → Option (Array Value)} {s : SS} (h : SwIs w b log N nd s wr) (hc : Chg [] wr w') : SwIs w b log N nd s w' := ⟨h.st.chg0 hc, h.log, h.n, h.node, h.chg.nil_trans hc, h.foot⟩
/-- Behind k pins. -/
structure PnIs (w : World) (b log : Nat) (hs : List (Array Value)) (pl : List Nat) (s : SS) (wr : World) : Prop where
  is : SwIs w b log hs.length (fun q => if q < hs.length then hs[q]? else none) s wr
  le : ∀ q, s.pin q ≤ pl.length
  pos : ∀ q, 0 < s.pin q ↔ q ∈ pl ∧ q < hs.length
  al : s.alive = hs.length
def PnP (w : World) (b log : Nat) (hs : List (Array Value)) (pl : List Nat) (E : Int) (e : Ending) (w' : World) : Prop := e = .returned (.int .i64 E) ∧ ∃ s, PnIs w b log hs pl s w'
theorem pn_pin {w wr : World} {b log : Nat} {hs : List (Array Value)} {pl : List Nat} {s : SS} (h : PnIs w b log hs pl s wr) (hl : pl.length ≤ 1000) (p : Nat) (hp : p < 18446744073709551616) :
    Calls Try.prog 24 #[.pointer (some ⟨b, 0, none⟩), .int .u64 p] wr (PnP w b log hs (pl ++ [p]) (if p < hs.length then 0 else 31)) := by
  by_cases hpn : p < hs.length
  · have hE : s.getE p = 0 := by unfold SS.getE; rw [h.is.n, if_pos hpn, h.is.node]; simp only [if_pos hpn, List.getElem?_eq_getElem hpn]; rfl
    refine (pin_ok b p s wr h.is.st hp hE (by have := h.le p; omega)).mono ?_
    rintro e w' ⟨rfl, h1, h2⟩
    rw [if_pos hpn]
    refine ⟨rfl, _, ⟨h1, h.is.log, h.is.n, h.is.node, h.is.chg.trans h2 (fun x hx => .inr (h.is.foot x (by simp at hx; subst hx; simp [SS.foot]))), h.is.foot⟩, fun q => ?_, fun q => ?_, h.al⟩
    · rw [pin_put, List.length_append, List.length_singleton]
      have := h.le p
      have := h.le q
      split <;> omega
    · rw [pin_put]
      by_cases e : q = p
      · subst e; simp [hpn]
      · rw [if_neg e, h.pos]; simp [e]
  · have hE : s.getE p = 31 := by unfold SS.getE; rw [h.is.n, if_neg hpn]
    have hpk := pin_bad b p s wr h.is.st hp (by rw [hE]; decide)
    rw [hE] at hpk
    refine hpk.mono ?_
    rintro e w' ⟨rfl, h1⟩
    rw [if_neg hpn]
    refine ⟨rfl, s, h.is.chg0 h1, fun q => ?_, fun q => ?_, h.al⟩
    · rw [List.length_append]; have := h.le q; omega
    · rw [h.pos]
      constructor
      · exact fun ⟨a, b⟩ => ⟨by simp [a], b⟩
      · rintro ⟨a, b⟩
        rcases List.mem_append.1 a with q1 | q1
        · exact ⟨q1, b⟩
        · simp at q1; subst q1; exact absurd b hpn

/-- What lives behind a sweep. -/
def swNd (hs : List (Array Value)) (pl kl : List Nat) (q : Nat) : Option (Array Value) := if q ∈ pl ∨ q ∈ kl then (if q < hs.length then hs[q]? else none) else none
structure Sw1 (w : World) (b log : Nat) (hs : List (Array Value)) (pl kl : List Nat) (s : SS) (wr : World) : Prop where
  is : SwIs w b log hs.length (swNd hs pl kl) s wr
  pos : ∀ q, 0 < s.pin q ↔ q ∈ pl ∧ q < hs.length
def Sw1P (w : World) (b log : Nat) (hs : List (Array Value)) (pl kl : List Nat) (e : Ending) (w' : World) : Prop := ∃ s g, e = .returned (.int .u64 (g : Nat)) ∧ Sw1 w b log hs pl kl s w' ∧ s.alive + g = hs.length
theorem SweepP.same {w wr w' : World} {b log N : Nat} {nd : Nat → Option (Array Value)} {s : SS} {kl : List Nat} {s' : SS} {gl : List Nat} (h : SwIs w b log N nd s wr) (h1 : StIs w' b s') (h2 : KillsRel s s' gl) (h3 : Mv (s.foot b) (s'.foot b) wr w') : SwIs w b log N (fun q => if q ∈ gl then none else nd q) s' w' :=
  ⟨h1, h2.log.trans h.log, h2.n.trans h.n, fun q => by rw [h2.node]; simp only [h.node], h.chg.trans h3.1 (fun x hx => .inr (h.foot x hx)), fun x hx => (h3.2 x hx).elim (h.foot x) (fun q => by have := h.chg.size; omega)⟩
theorem pin_of {s s' : SS} (h : s'.pins = s.pins) (q : Nat) : s'.pin q = s.pin q := by simp [SS.pin, h]
theorem goes_iff {s : SS} {kl : List Nat} {q : Nat} : goes s kl q = true ↔ q ∉ kl ∧ s.pin q = 0 := by
  unfold goes
  rw [Bool.and_eq_true, decide_eq_true_iff, decide_eq_true_iff, List.count_eq_zero]
theorem sw_first {w wr : World} {b log : Nat} {hs : List (Array Value)} {pl kl : List Nat} {s : SS} (h : PnIs w b log hs pl s wr) {a : Option Addr} {cap : Nat} (hk : Rd wr 1 a kl.length (kl.map fun (n : Nat) => Value.int .u64 (n : Int))) (hkl : kl.length ≤ 1000000) :
    Calls Try.prog 26 #[.pointer (some ⟨b, 0, none⟩), .slice a kl.length cap] wr (Sw1P w b log hs pl kl) := by
  refine (sweep_calls b s wr h.is.st kl a cap hk hkl).mono ?_
  rintro e w' ⟨s', gl, rfl, h1, h2, h3, h4, h5⟩
  have h6 := SweepP.same (kl := kl) h.is h1 h2 h3
  refine ⟨s', gl.length, rfl, ⟨⟨h6.st, h6.log, h6.n, fun q => ?_, h6.chg, h6.foot⟩, fun q => by rw [pin_of h2.pins]; exact h.pos q⟩, by rw [h2.alive, h.al]⟩
  rw [h6.node]
  unfold swNd
  have hm := h5 q
  rw [goes_iff, h.is.node] at hm
  by_cases hq : q < hs.length
  · simp only [if_pos hq, List.getElem?_eq_getElem hq, Option.isSome_some, true_and] at hm ⊢
    have hp := h.pos q
    by_cases hin : q ∈ pl ∨ q ∈ kl
    · rw [if_pos hin, if_neg (fun hg => by
        obtain ⟨a1, a2⟩ := hm.1 hg
        rcases hin with q1 | q1
        · have := hp.2 ⟨q1, hq⟩; omega
        · exact a1 q1)]
    · rw [if_neg hin, if_pos (hm.2 ⟨fun q1 => hin (.inr q1), by
        cases h0 : s.pin q with
        | zero => rfl
        | succ c => exact absurd (.inl (hp.1 (by omega)).1) hin⟩)]
  · simp only [if_neg hq]
    simp
theorem sw_second {w wr : World} {b log : Nat} {hs : List (Array Value)} {pl kl : List Nat} {s : SS} (h : Sw1 w b log hs pl kl s wr) {a : Option Addr} {cap : Nat} (hk : Rd wr 1 a kl.length (kl.map fun (n : Nat) => Value.int .u64 (n : Int))) (hkl : kl.length ≤ 1000000) :
    Calls Try.prog 26 #[.pointer (some ⟨b, 0, none⟩), .slice a kl.length cap] wr (fun e w' => e = .returned (.int .u64 0) ∧ ∃ s', Sw1 w b log hs pl kl s' w') := by
  refine (sweep_calls b s wr h.is.st kl a cap hk hkl).mono ?_
  rintro e w' ⟨s', gl, rfl, h1, h2, h3, h4, h5⟩
  have h0 : gl = [] := by
    rw [List.eq_nil_iff_forall_not_mem]
    intro q hq
    obtain ⟨a1, a2⟩ := (h5 q).1 hq
    rw [goes_iff] at a2
    rw [h.is.node] at a1
    unfold swNd at a1
    by_cases hin : q ∈ pl ∨ q ∈ kl
    · rw [if_pos hin] at a1
      by_cases hql : q < hs.length
      · rcases hin with q1 | q1
        · have := (h.pos q).2 ⟨q1, hql⟩; omega
        · exact a2.1 q1
      · rw [if_neg hql] at a1; cases a1
    · rw [if_neg hin] at a1; cases a1
  subst h0
  have h6 := SweepP.same (kl := kl) h.is h1 h2 h3
  exact ⟨rfl, s', ⟨h6.st, h6.log, h6.n, fun q => by rw [h6.node]; simp, h6.chg, h6.foot⟩, fun q => by rw [pin_of h2.pins]; exact h.pos q⟩

/-- The last chunk met, as the statement holds it. -/
def lastV : Option Nat → Nat
  | some k => k
  | none => 9223372036854775808
attribute [local go_sem ↓] hold_apW
set_option maxRecDepth 100000 in
set_option maxHeartbeats 2000000 in
theorem sweeps_main (log : Nat) (v v2 v3 : Value) (hs : List (Array Value)) (ds es : List Int) (w : World) (hl : log ≤ 16) (hlen : hs.length ≤ 200) (hdl : ds.length ≤ 200) (hel : es.length ≤ 200) (hv : HsIs w v hs) (hu : NsIs .u64 w v2 ds) (hx : NsIs .u64 w v3 es) :
    Calls Try.prog 5 #[.int .i64 log, v, v2, v3] w (Res w [] (.bool true)) := by
  have hfill := fill_calls log v hs w hl hlen hv
  have hx0 := hx
  obtain ⟨hI, a, cap, rfl, hr⟩ := hv
  obtain ⟨hW, a2, cap2, rfl, hr2⟩ := hu
  obtain ⟨hX, a3, cap3, rfl, hr3⟩ := hx
  have d1 : decide ((log : Int) < 0) = false := by simp
  have d2 : decide ((16 : Int) < log) = false := by simp; omega
  have d3 : decide ((200 : Int) < hs.length) = false := by simp; omega
  have d4 : decide ((200 : Int) < ds.length) = false := by simp; omega
  have d5 : decide ((200 : Int) < es.length) = false := by simp; omega
  have hds : ∀ k (hk : k < ds.length), 0 ≤ ds[k] ∧ ds[k] < 18446744073709551616 := fun k hk => wf_u64 (hW _ (List.getElem_mem hk))
  have hes : ∀ k (hk : k < es.length), 0 ≤ es[k] ∧ es[k] < 18446744073709551616 := fun k hk => wf_u64 (hX _ (List.getElem_mem hk))
  clear hW hX
  go_enter Try.func5, Try.ntmps5
  go_wp2_with fail
  refine hfill.mono ?_
  rintro e w1 ⟨b, rfl, s, hst, hfl, hc, hf⟩
  have h0 : PnIs w b log hs ((ds.take 0).map Int.toNat) s w1 := ⟨⟨hst, hfl.log, hfl.n, hfl.node, hc, hf⟩, fun q => by rw [pin_nil hfl.pins]; omega, fun q => by rw [pin_nil hfl.pins]; simp, hfl.alive⟩
  clear hfill hst hfl hc hf
  go_wp2_with fail
  go_loopg [11] ds.length (fun m i wr => ∃ k s, k ≤ ds.length ∧ m = ds.length - k ∧ i = .int .i64 (k : Nat) ∧ PnIs w b log hs ((ds.take k).map Int.toNat) s wr)
  case atStart => exact ⟨0, s, Nat.zero_le _, by omega, rfl, h0⟩
  case round =>
    clear h0 s
    obtain ⟨k, s, hk, hgk, rfl, hT⟩ := hrel
    by_cases hlt : k < ds.length
    · rcases hr2 with hr2 | ⟨ub, uo, rfl, hub, hr2⟩
      · subst hr2; simp at hlt
      have hcell : wr.cell? ⟨ub, uo + k, none⟩ = some (.int .u64 ds[k]) := by rw [hT.is.chg.cell (p := ⟨ub, uo + k, none⟩) hub (by simp)]; exact hr2 k hlt
      obtain ⟨p0, p1⟩ := hds k hlt
      have htk : (ds.take (k + 1)).map Int.toNat = (ds.take k).map Int.toNat ++ [ds[k].toNat] := by rw [List.take_succ_eq_append_getElem hlt, List.map_append]; rfl
      obtain ⟨p, hp⟩ := Int.eq_ofNat_of_zero_le p0
      rw [hp] at hcell p1
      rw [hp, Int.toNat_natCast] at htk
      have HT := Lib.hid htk
      have hpn := pn_pin hT (by simp; omega) p (by omega)
      rw [← htk] at hpn
      have hcellW : ∀ w', Chg [] w w' → w'.cell? ⟨ub, uo + k, none⟩ = some (.int .u64 (p : Nat)) := fun w' h => by
        rw [h.cell (p := ⟨ub, uo + k, none⟩) hub (by simp), ← hcell, hT.is.chg.cell (p := ⟨ub, uo + k, none⟩) hub (by simp)]
      clear htk hp p0 hr hr2 hr3 hds hes hT hI
      by_cases hn : p < hs.length
      · rw [if_pos hn] at hpn
        have dn : decide (p < hs.length) = true := by simpa using hn
        go_wp2_with (go_at_call 24; refine hpn.mono ?_; rintro e w5 ⟨rfl, s5, h5⟩; have hc5 := hcellW _ h5.is.chg; clear hcellW)
        go_roundg (ds.length - (k + 1))
        case measure => omega
        case rel => exact ⟨k + 1, s5, by omega, rfl, by go_num, h5⟩
      · rw [if_neg hn] at hpn
        have dn : decide (p < hs.length) = false := by simpa using hn
        go_wp2_with (go_at_call 24; refine hpn.mono ?_; rintro e w5 ⟨rfl, s5, h5⟩; have hc5 := hcellW _ h5.is.chg; clear hcellW)
        go_roundg (ds.length - (k + 1))
        case measure => omega
        case rel => exact ⟨k + 1, s5, by omega, rfl, by go_num, h5⟩
    · obtain rfl : k = ds.length := by omega
      rw [List.take_length] at hT
      have ha1 := alive_calls b s wr hT.is.st
      rw [hT.al] at ha1
      clear hlt hgk hk
      go_wp2_with (go_at_call 25; refine ha1.mono ?_; rintro e w2 ⟨rfl, c2⟩; obtain ⟨a4, cap4, w3, hap, ho3, c3⟩ := copyU (hx0.chg (hT.is.chg.nil_trans c2) (by simp)) (by omega))
      have hT3 : PnIs w b log hs (ds.map Int.toNat) s w3 := ⟨hT.is.chg0 (c2.nil_trans c3), hT.le, hT.pos, hT.al⟩
      have hkl : (es.map Int.toNat).length = es.length := by simp
      have hsw := sw_first hT3 (cap := cap4) (own_rd (by rw [hkl]; have := ho3; unfold UOwn at this; rw [hkl] at this; exact this)) (by omega)
      rw [hkl] at hsw
      refine hsw.mono ?_
      rintro e w4 ⟨s4, g, rfl, h4, hal4⟩
      have ha4 := alive_calls b s4 w4 h4.is.st
      have hl4 := fun w' (h' : Chg [] w4 w') => len_calls b s4 w' (h4.is.st.chg0 h')
      rw [h4.is.n] at hl4
      have b1 : ((s4.alive : Int) + (g : Int) == (hs.length : Int)) = true := by simp; omega
      have b2 : ((s4.alive : Int) + (g : Int) != (hs.length : Int)) = false := by simp; omega
      have b3 : s4.alive ≤ 200 := by omega
      have b4 : g ≤ 200 := by omega
      generalize s4.alive = A4 at *
      clear hsw hT hT3 ha1 c2 hap ho3 c3 hal4
      go_wp2_with (go_at_call 25; refine ha4.mono ?_; rintro e w5 ⟨rfl, c5⟩)
      refine (hl4 _ c5).mono ?_
      rintro e w6 ⟨rfl, c6⟩
      have c46 := c5.nil_trans c6
      obtain ⟨a7, cap7, w7, hap, ho7, c7⟩ := copyU (hx0.chg (h4.is.chg.nil_trans c46) (by simp)) (by omega)
      go_wp2_with fail
      have h47 : Sw1 w b log hs (ds.map Int.toNat) (es.map Int.toNat) s4 w7 := ⟨h4.is.chg0 (c46.nil_trans c7), h4.pos⟩
      have hsw := sw_second h47 (cap := cap7) (own_rd (by rw [hkl]; have := ho7; unfold UOwn at this; rw [hkl] at this; exact this)) (by omega)
      rw [hkl] at hsw
      refine hsw.mono ?_
      rintro e w8 ⟨rfl, s8, h8⟩
      clear hsw h47 hap ho7 c7 c46 c5 c6 h4 ha4 hl4 b1 b2 b3 b4
      go_wp2
      obtain ⟨z, hz⟩ : ∃ z : Nat, z = 2 ^ log := ⟨_, rfl⟩
      have hzl : z ≤ 65536 := by rw [hz]; exact Nat.pow_le_pow_right (by omega) hl
      have hz0 : 0 < z := by rw [hz]; exact Nat.two_pow_pos _
      have hzw : IntKind.u64.wrap (2 ^ log) = (z : Nat) := by
        rw [show ((2 : Int) ^ log) = ((2 ^ log : Nat) : Int) from by simp, ← hz, IntKind.wrap_u64]; omega
      rw [hzw]
      have HZ := Lib.hid hz
      clear hzw hz
      obtain ⟨lv, hlv⟩ : ∃ lv : Nat → Bool, lv = fun p => (s8.node p).isSome := ⟨_, rfl⟩
      have HLV := Lib.hid hlv
      clear hlv
      go_loopg [16, 17, 18] hs.length (fun m c l i wr => ∃ p : Nat, p ≤ hs.length ∧ m = hs.length - p ∧ c = .int .i64 ((cc lv log p).1 : Nat) ∧ l = .int .u64 (lastV (cc lv log p).2 : Nat) ∧ i = .int .u64 p ∧ (cc lv log p).1 ≤ p ∧ Sw1 w b log hs (ds.map Int.toNat) (es.map Int.toNat) s8 wr)
      case atStart => exact ⟨0, Nat.zero_le _, by omega, rfl, rfl, rfl, Nat.le_refl _, h8⟩
      case round =>
        clear h8
        obtain ⟨p, hp, hgp, rfl, rfl, rfl, hcp, hT⟩ := hrel
        by_cases hlt : p < hs.length
        · have dn : decide (p < hs.length) = true := by simp; omega
          have hLb : (cc lv log p).2 = some (p / 2 ^ log) ↔ lastV (cc lv log p).2 = p / 2 ^ log := by
            have h1 : p / 2 ^ log ≤ p := Nat.div_le_self _ _
            cases hq : (cc lv log p).2 with
            | none => simp [lastV]; omega
            | some k => simp [lastV]
          generalize hcE : cc lv log p = cE at *
          have HLB := Lib.hid hLb
          clear hLb
          have HCE := Lib.hid hcE
          clear hcE
          generalize hC : cE.1 = C at *
          generalize hL : lastV cE.2 = L at *
          have HC := Lib.hid hC
          have HL := Lib.hid hL
          clear hC hL
          obtain ⟨wo, rfl⟩ : ∃ wo : World, wo = wr := ⟨_, rfl⟩
          have hnil : decide (p ∈ ((ds.take 0).map Int.toNat)) = false := by simp
          have hcd : ∀ k (hk : k < ds.length), ∃ ub uo q, a2 = some ⟨ub, uo, none⟩ ∧ wo.cell? ⟨ub, uo + k, none⟩ = some (.int .u64 (q : Nat)) ∧ q < 18446744073709551616 ∧ (ds.take (k + 1)).map Int.toNat = (ds.take k).map Int.toNat ++ [q] := by
            intro k hk
            rcases hr2 with hr2 | ⟨ub, uo, rfl, hub, hr2⟩
            · subst hr2; simp at hk
            obtain ⟨p0, p1⟩ := hds k hk
            obtain ⟨q, hq⟩ := Int.eq_ofNat_of_zero_le p0
            refine ⟨ub, uo, q, rfl, ?_, by omega, ?_⟩
            · rw [hT.is.chg.cell (p := ⟨ub, uo + k, none⟩) hub (by simp), hr2 k hk, hq]
            · rw [List.take_succ_eq_append_getElem hk, List.map_append, hq]; rfl
          have hce : ∀ k (hk : k < es.length), ∃ ub uo q, a3 = some ⟨ub, uo, none⟩ ∧ wo.cell? ⟨ub, uo + k, none⟩ = some (.int .u64 (q : Nat)) ∧ q < 18446744073709551616 ∧ (es.take (k + 1)).map Int.toNat = (es.take k).map Int.toNat ++ [q] := by
            intro k hk
            rcases hr3 with hr3 | ⟨ub, uo, rfl, hub, hr3⟩
            · subst hr3; simp at hk
            obtain ⟨p0, p1⟩ := hes k hk
            obtain ⟨q, hq⟩ := Int.eq_ofNat_of_zero_le p0
            refine ⟨ub, uo, q, rfl, ?_, by omega, ?_⟩
            · rw [hT.is.chg.cell (p := ⟨ub, uo + k, none⟩) hub (by simp), hr3 k hk, hq]
            · rw [List.take_succ_eq_append_getElem hk, List.map_append, hq]; rfl
          have hlt' := hlt
          go_wp2
          go_loopg [19, 20] ds.length (fun m c i w' => ∃ k : Nat, k ≤ ds.length ∧ m = ds.length - k ∧ c = .bool (decide (p ∈ (ds.take k).map Int.toNat)) ∧ i = .int .i64 k ∧ w' = wo)
          case atStart => exact ⟨0, Nat.zero_le _, by omega, by rw [hnil], rfl, rfl⟩
          case round =>
            obtain ⟨k, hk, hgk, rfl, rfl, rfl⟩ := hrel
            by_cases hlk : k < ds.length
            · obtain ⟨ub, uo, q, rfl, hcell, hq64, htk⟩ := hcd k hlk
              have HTK := Lib.hid htk
              clear htk hcd hce hr2 hr3 hr hT hds hes hx0 hI
              cases hbb : decide (p ∈ (ds.take k).map Int.toNat) with
              | true =>
                have hfin : decide (p ∈ (ds.take (k + 1)).map Int.toNat) = true := by rw [HTK.out]; simp at hbb ⊢; exact .inl hbb
                have HF := Lib.hid hfin
                clear hbb hfin
                go_wp2
                go_roundg (ds.length - (k + 1))
                case measure => omega
                case rel => exact ⟨k + 1, by omega, rfl, by rw [HF.out], by go_num, rfl⟩
              | false =>
                by_cases hqp : q = p
                · have hfin : decide (p ∈ (ds.take (k + 1)).map Int.toNat) = true := by rw [HTK.out, hqp]; simp
                  have HF := Lib.hid hfin
                  have e1 : ((q : Int) == (p : Int)) = true := by simp; omega
                  clear hbb hfin hqp
                  go_wp2
                  go_roundg (ds.length - (k + 1))
                  case measure => omega
                  case rel => exact ⟨k + 1, by omega, rfl, by rw [HF.out], by go_num, rfl⟩
                · have hfin : decide (p ∈ (ds.take (k + 1)).map Int.toNat) = false := by rw [HTK.out]; simp at hbb ⊢; exact ⟨hbb, fun e => hqp e.symm⟩
                  have HF := Lib.hid hfin
                  have e1 : ((q : Int) == (p : Int)) = false := by simp; omega
                  clear hbb hfin hqp
                  go_wp2
                  go_roundg (ds.length - (k + 1))
                  case measure => omega
                  case rel => exact ⟨k + 1, by omega, rfl, by rw [HF.out], by go_num, rfl⟩
            · obtain rfl : k = ds.length := by omega
              rw [List.take_length]
              obtain ⟨B1, hB1⟩ : ∃ B1, decide (p ∈ ds.map Int.toNat) = B1 := ⟨_, rfl⟩
              rw [hB1]
              have HB1 := Lib.hid hB1
              clear hB1 hnil hcd hlk hgk hk
              have hnil : (B1 || decide (p ∈ ((es.take 0).map Int.toNat))) = B1 := by simp
              go_wp2
              go_loopg [19, 21] es.length (fun m c i w' => ∃ k : Nat, k ≤ es.length ∧ m = es.length - k ∧ c = .bool (B1 || decide (p ∈ (es.take k).map Int.toNat)) ∧ i = .int .i64 k ∧ w' = wr)
              case atStart => exact ⟨0, Nat.zero_le _, by omega, by rw [hnil], rfl, rfl⟩
              case round =>
                clear hnil
                obtain ⟨k, hk, hgk, rfl, rfl, rfl⟩ := hrel
                by_cases hlk : k < es.length
                · obtain ⟨ub, uo, q, rfl, hcell, hq64, htk⟩ := hce k hlk
                  have HTK := Lib.hid htk
                  clear htk hce hr2 hr3 hr hT hds hes hx0 hI
                  cases hbb : (B1 || decide (p ∈ (es.take k).map Int.toNat)) with
                  | true =>
                    have hfin : (B1 || decide (p ∈ (es.take (k + 1)).map Int.toNat)) = true := by
                      rw [HTK.out]
                      rw [Bool.or_eq_true] at hbb ⊢
                      exact hbb.imp id (fun h => by simp at h ⊢; exact .inl h)
                    have HF := Lib.hid hfin
                    clear hbb hfin
                    go_wp2
                    go_roundg (es.length - (k + 1))
                    case measure => omega
                    case rel => exact ⟨k + 1, by omega, rfl, by rw [HF.out], by go_num, rfl⟩
                  | false =>
                    rw [Bool.or_eq_false_iff] at hbb
                    by_cases hqp : q = p
                    · have hfin : (B1 || decide (p ∈ (es.take (k + 1)).map Int.toNat)) = true := by rw [HTK.out, hqp]; simp
                      have HF := Lib.hid hfin
                      have e1 : ((q : Int) == (p : Int)) = true := by simp; omega
                      clear hbb hfin hqp
                      go_wp2
                      go_roundg (es.length - (k + 1))
                      case measure => omega
                      case rel => exact ⟨k + 1, by omega, rfl, by rw [HF.out], by go_num, rfl⟩
                    · have hfin : (B1 || decide (p ∈ (es.take (k + 1)).map Int.toNat)) = false := by
                        rw [HTK.out, hbb.1]
                        have := hbb.2
                        simp at this ⊢
                        exact ⟨this, fun e => hqp e.symm⟩
                      have HF := Lib.hid hfin
                      have e1 : ((q : Int) == (p : Int)) = false := by simp; omega
                      clear hbb hfin hqp
                      go_wp2
                      go_roundg (es.length - (k + 1))
                      case measure => omega
                      case rel => exact ⟨k + 1, by omega, rfl, by rw [HF.out], by go_num, rfl⟩
                · obtain rfl : k = es.length := by omega
                  rw [List.take_length]
                  obtain ⟨B2, hB2⟩ : ∃ B2, (B1 || decide (p ∈ es.map Int.toNat)) = B2 := ⟨_, rfl⟩
                  rw [hB2]
                  have hin : (p ∈ ds.map Int.toNat ∨ p ∈ es.map Int.toNat) ↔ B2 = true := by rw [← hB2, ← HB1.out]; simp
                  rcases hr with hr | ⟨ab, ao, rfl, hab, hr⟩
                  · subst hr; simp at hlt
                  have hr0 := rng?_chg hT.is.chg (hr p hlt) (by omega) (by simp)
                  have hh := hI hs[p] (List.getElem_mem hlt)
                  have hg : hs[p]? = some hs[p] := List.getElem?_eq_getElem hlt
                  have hsz := hh.1
                  have hone := hh.one
                  have hnd := hT.is.node p
                  unfold swNd at hnd
                  rw [if_pos hlt, hg] at hnd
                  have hab2 : ab < wr.heap.size := Nat.lt_of_lt_of_le hab hT.is.chg.size
                  generalize hs[p] = x at *
                  have hgc := get_calls b p s8 wr hT.is.st (by omega)
                  have hlc := fun (w' : World) (h' : Chg [] wr w') => live_calls b p s8 w' (hT.is.st.chg0 h') (by omega)
                  have hsn := hT.is.n
                  have HT := Lib.hid hT
                  clear hB2 hce hr hr2 hr3 hds hes hx0 hI hlk hgk hk hT hg
                  cases B2 with
                  | true =>
                    rw [if_pos (hin.2 rfl)] at hnd
                    have hHs : s8.getH p = x := by unfold SS.getH; rw [hsn, if_pos hlt, hnd]; rfl
                    have hEs : s8.getE p = 0 := by unfold SS.getE; rw [hsn, if_pos hlt, hnd]; rfl
                    rw [hHs, hEs] at hgc
                    rw [hEs] at hlc
                    have hee : eqH x x = true := eqH_self
                    go_wp2_with fail
                    refine hgc.mono ?_
                    rintro e w5 ⟨rfl, hc5⟩
                    have hc5' := hc5.alloc (.cells x 30)
                    have hrA : rng? (w5.alloc (.cells x 30)) w5.heap.size 0 32 = some x := rng?_alloc_at _ _ _ _ _ rfl hsz
                    have hrB := rng?_chg hc5' hr0 (by omega) (by simp)
                    have hlt5 : w5.heap.size < (w5.alloc (.cells x 30)).heap.size := by simp
                    have hab5 : ab < (w5.alloc (.cells x 30)).heap.size := Nat.lt_of_lt_of_le hab2 hc5'.size
                    clear hgc hr0
                    go_wp2_with fail
                    generalize hW6 : World.alloc w5 _ = w6
                    rw [hW6] at hc5' hrA hrB hlt5 hab5
                    have hlc6 : ∀ W, Chg [] w6 W → Calls Try.prog 29 #[.pointer (some ⟨b, 0, none⟩), .int .u64 p] W (Res W [] (.bool true)) := fun W h => hlc W (hc5'.nil_trans h)
                    clear hW6 hc5 hlc
                    refine wp_region_quiet_below (by kernel_rfl) (by kernel_rfl) ?_
                    repeat (any_goals (go_big_quiet_step ((go_at_call 29; exact rg_of hlc6 _ _))))
                    refine wpQuiet_nil ?_
                    rintro w7 ⟨r7, rfl⟩
                    have hc7 : Chg [] wr (Go.Sort.grow (redrawn w6 r7.d) r7.os) := hc5'.nil_trans (chg_regrown _ _ _)
                    have HT7 := Lib.hid (show Sw1 w b log hs (ds.map Int.toNat) (es.map Int.toNat) s8 (Go.Sort.grow (redrawn w6 r7.d) r7.os) from ⟨HT.out.is.chg0 hc7, HT.out.pos⟩)
                    generalize Go.Sort.grow (redrawn w6 r7.d) r7.os = w7 at *
                    have hlvp : lv p = true := by rw [HLV.out]; simp [hnd]
                    clear hrA hrB hlt5 hab5 hc5' hlc6 hc7 hab2 hab hHs hEs hee hh hone hnd hin HT
                    obtain ⟨q, hq⟩ : ∃ q : Nat, p / z = q := ⟨_, rfl⟩
                    have hdiv : ((p : Int) / (z : Int)) = (q : Int) := by rw [← hq]; simp
                    have hq2 : q ≤ p := by rw [← hq]; exact Nat.div_le_self _ _
                    have HQ := Lib.hid hq
                    clear hq
                    by_cases hLp : L = q
                    · have hnew : cc lv log (p + 1) = cE := by rw [cc, if_pos hlvp, HCE.out, if_pos (HLB.out.2 (by rw [← HZ.out, HQ.out]; exact hLp))]
                      have HN := Lib.hid hnew
                      have e2 : ((q : Int) != (L : Int)) = false := by rw [hLp]; simp
                      clear hLp hnew hlvp
                      go_wp2
                      go_roundg (hs.length - (p + 1))
                      case measure => omega
                      case rel => exact ⟨p + 1, by omega, rfl, by rw [HN.out, HC.out], by rw [HN.out, HL.out], by go_num, by rw [HN.out, HC.out]; omega, HT7.out⟩
                    · have hnew : cc lv log (p + 1) = (C + 1, some q) := by rw [cc, if_pos hlvp, HCE.out, if_neg (fun h => hLp (by rw [← HQ.out, HZ.out]; exact HLB.out.1 h)), HC.out, ← HZ.out, HQ.out]
                      have HN := Lib.hid hnew
                      have e2 : ((q : Int) != (L : Int)) = true := by simp; omega
                      clear hLp hnew hlvp
                      go_wp2
                      go_roundg (hs.length - (p + 1))
                      case measure => omega
                      case rel => exact ⟨p + 1, by omega, rfl, by rw [HN.out]; go_num, by rw [HN.out]; rfl, by go_num, by rw [HN.out]; simp; omega, HT7.out⟩
                  | false =>
                    rw [if_neg (fun h => by have := hin.1 h; cases this)] at hnd
                    have hHs : s8.getH p = zeroHash := by unfold SS.getH; rw [hsn, if_pos hlt, hnd]; rfl
                    have hEs : s8.getE p = 50 := by unfold SS.getE; rw [hsn, if_pos hlt, hnd]; rfl
                    rw [hHs, hEs] at hgc
                    rw [hEs] at hlc
                    have hee : eqH zeroHash zeroHash = true := eqH_self
                    have hzi := zeroHash_is
                    go_wp2_with fail
                    refine hgc.mono ?_
                    rintro e w5 ⟨rfl, hc5⟩
                    have hc5' := hc5.alloc (.cells zeroHash 30)
                    have hrA : rng? (w5.alloc (.cells zeroHash 30)) w5.heap.size 0 32 = some zeroHash := rng?_alloc_at _ _ _ _ _ rfl zeroHash_size
                    have hrB := rng?_chg hc5' hr0 (by omega) (by simp)
                    have hlt5 : w5.heap.size < (w5.alloc (.cells zeroHash 30)).heap.size := by simp
                    have hab5 : ab < (w5.alloc (.cells zeroHash 30)).heap.size := Nat.lt_of_lt_of_le hab2 hc5'.size
                    clear hgc hr0
                    go_wp2_with fail
                    generalize hW6 : World.alloc w5 _ = w6
                    rw [hW6] at hc5' hrA hrB hlt5 hab5
                    have hlc6 : ∀ W, Chg [] w6 W → Calls Try.prog 29 #[.pointer (some ⟨b, 0, none⟩), .int .u64 p] W (Res W [] (.bool false)) := fun W h => hlc W (hc5'.nil_trans h)
                    clear hW6 hc5 hlc
                    refine wp_region_quiet_below (by kernel_rfl) (by kernel_rfl) ?_
                    repeat (any_goals (go_big_quiet_step ((go_at_call 29; exact rg_of hlc6 _ _))))
                    refine wpQuiet_nil ?_
                    rintro w7 ⟨r7, rfl⟩
                    have hc7 : Chg [] wr (Go.Sort.grow (redrawn w6 r7.d) r7.os) := hc5'.nil_trans (chg_regrown _ _ _)
                    have HT7 := Lib.hid (show Sw1 w b log hs (ds.map Int.toNat) (es.map Int.toNat) s8 (Go.Sort.grow (redrawn w6 r7.d) r7.os) from ⟨HT.out.is.chg0 hc7, HT.out.pos⟩)
                    generalize Go.Sort.grow (redrawn w6 r7.d) r7.os = w7 at *
                    have hlvp : lv p = false := by rw [HLV.out]; simp [hnd]
                    clear hrA hrB hlt5 hab5 hc5' hlc6 hc7 hab2 hab hHs hEs hee hh hone hnd hin HT
                    have hnew : cc lv log (p + 1) = cE := by rw [cc, if_neg (by rw [hlvp]; simp), HCE.out]
                    have HN := Lib.hid hnew
                    clear hnew hlvp
                    go_wp2
                    go_roundg (hs.length - (p + 1))
                    case measure => omega
                    case rel => exact ⟨p + 1, by omega, rfl, by rw [HN.out, HC.out], by rw [HN.out, HL.out], by go_num, by rw [HN.out, HC.out]; omega, HT7.out⟩
        · obtain rfl : p = hs.length := by omega
          have dn : decide (hs.length < hs.length) = false := by simp
          have hk1 := chunks_calls b s8 wr hT.is.st
          have hcl : s8.cks.length = (cc lv log hs.length).1 := by rw [chunks_cc hT.is.st, hT.is.log, hT.is.n, HLV.out]
          rw [hcl] at hk1
          have HTC := hT.is.chg
          generalize (cc lv log hs.length).1 = C at *
          generalize lastV (cc lv log hs.length).2 = L at *
          clear hT hr hr2 hr3 hds hes hcl hx0
          go_wp2_with fail
          refine hk1.mono ?_
          rintro e w9 ⟨rfl, c9⟩
          go_wp2_with fail
          refine (awake_calls _).mono ?_
          rintro e w10 ⟨rfl, c10⟩
          go_wp2
          go_ret
          exact ⟨rfl, HTC.nil_trans (c9.nil_trans c10)⟩
set_option maxRecDepth 100000 in
theorem sweeps_walk (w : World) (log : Int) (_ : -9223372036854775808 ≤ log ∧ log < 9223372036854775808) (v : Value) (hs : List (Array Value)) (hv : HsIs w v hs) (u : Value) (ds : List Int) (hu : NsIs .u64 w u ds) (x : Value) (es : List Int) (hx : NsIs .u64 w x es) :
    Calls Try.prog 5 #[.int .i64 log, v, u, x] w (Res w [] (.bool true)) := by
  by_cases hg : 0 ≤ log ∧ log ≤ 16 ∧ hs.length ≤ 200 ∧ ds.length ≤ 200 ∧ es.length ≤ 200
  · obtain ⟨h1, h2, h3, h4, h5⟩ := hg
    obtain ⟨log, rfl⟩ := Int.eq_ofNat_of_zero_le h1
    exact sweeps_main log v u x hs ds es w (by omega) h3 h4 h5 hv hu hx
  · obtain ⟨_, a, cap, rfl, _⟩ := hv
    obtain ⟨_, a2, cap2, rfl, _⟩ := hu
    obtain ⟨_, a3, cap3, rfl, _⟩ := hx
    by_cases h1 : log < 0
    · go_enter Try.func5, Try.ntmps5
      go_wp2
      go_ret
      exact ⟨rfl, Chg.refl _ _⟩
    · by_cases h2 : 16 < log
      · go_enter Try.func5, Try.ntmps5
        go_wp2
        go_ret
        exact ⟨rfl, Chg.refl _ _⟩
      · by_cases h3 : 200 < hs.length
        · go_enter Try.func5, Try.ntmps5
          go_wp2
          go_ret
          exact ⟨rfl, Chg.refl _ _⟩
        · by_cases h4 : 200 < ds.length
          · go_enter Try.func5, Try.ntmps5
            go_wp2
            go_ret
            exact ⟨rfl, Chg.refl _ _⟩
          · have h5 : 200 < es.length := by omega
            go_enter Try.func5, Try.ntmps5
            go_wp2
            go_ret
            exact ⟨rfl, Chg.refl _ _⟩
end Go.Proofs.Ytonppfebmeehcaa

/- Texts put into one: BoolsS L5Ap. -/
import Derived.Test.YtonppfebmeehcaaNums
import Derived.Test.YtonppfebmeehcaaL5Pl
/- Lists of Booleans that came in. -/
namespace Go.Proofs.Ytonppfebmeehcaa
open Go.ChangeShapes Go.WideShapes Go.ChangeAt Go.RowKit
set_option linter.unusedVariables false
set_option linter.unusedSimpArgs false

/-- A list of Booleans that came in. -/
def BsIs (w : World) (v : Value) (ns : List Bool) : Prop :=
  ∃ a cap, v = .slice a ns.length cap ∧ (ns = [] ∨ ∃ b o, a = some ⟨b, o, none⟩ ∧ b < w.heap.size ∧ ∀ i (hi : i < ns.length), w.cell? ⟨b, o + i, none⟩ = some (.bool ns[i]))
section
variable {H : Type} {enc : TypeId × Value → H} {W : World} {base : Nat} {spare : Nat → Bool} {held : Bool}
theorem open_bools {t e : TypeId} (ht : Try.prog.underlying t = some (.slice e)) (he : Try.prog.underlying e = some .bool) (hc : Try.prog.cellsOf e = 1) {fuel : Nat} {a : Option Addr} {len cap : Nat} {x : DataW H × List MemPlace} (h : DataW.trod enc Try.prog W base spare held fuel t [.slice a len cap] = some x) : ∃ ns, BsIs W (.slice a len cap) ns := by
  rcases Deep.open_slice1 ht hc h with ⟨hc, _⟩ | ⟨a', len', cap', m, n, V, D, Pl, hcs, _, hle, _, hm, _, hx⟩
  · simp at hc
    obtain ⟨rfl, rfl, rfl⟩ := hc
    exact ⟨[], none, 0, rfl, .inl rfl⟩
  · simp at hcs
    obtain ⟨rfl, rfl, rfl⟩ := hcs
    have hlm : len ≤ m := by rw [hm]; split <;> omega
    obtain ⟨f, hf⟩ := Deep.choose_lt (α := Bool) (n := len) (p := fun i z => W.cell? (a'.add i) = some (.bool z)) (by
      intro i hi
      obtain ⟨h1, h2⟩ := hx i (by omega)
      obtain ⟨z, hz, _⟩ := DataW.trod_bool he h2
      simp at hz
      exact ⟨z, by rw [h1, hz]⟩)
    refine ⟨(List.range len).map f, some a', cap, by simp, ?_⟩
    by_cases h0 : len = 0
    · left; simp [h0]
    · right
      obtain ⟨b, o, sp⟩ := a'
      have h1 := hf 0 (by omega)
      have hsp : sp = none := by simpa [Addr.add] using World.cell?_spot h1
      subst hsp
      refine ⟨b, o, rfl, by simpa [Addr.add] using World.block_lt_of_cell? _ _ h1, ?_⟩
      intro i hi
      simp at hi
      simp only [List.getElem_map, List.getElem_range]
      have := hf i hi
      rw [Addr.add_mid] at this
      exact this
theorem open_bools0 {fuel : Nat} {a : Option Addr} {len cap : Nat} {x : DataW H × List MemPlace} (h : DataW.trod enc Try.prog W base spare held fuel 68 [.slice a len cap] = some x) : ∃ ns, BsIs W (.slice a len cap) ns :=
  open_bools Try.underlying68 Try.underlying4 (by kernel_rfl) h
end
end Go.Proofs.Ytonppfebmeehcaa

/- StoreApart: its walk. -/
namespace Go.Proofs.Ytonppfebmeehcaa
open Go.RowKit
set_option linter.unusedVariables false
set_option linter.unusedSimpArgs false
/-- Two pairs, apart from each other. -/
structure ApIs (w : World) (b c : Nat) (s : SS) (d : DS) (b2 c2 : Nat) (s2 : SS) (d2 : DS) (m : Nat) (wr : World) : Prop where
  one : PlIs w b c m s d wr
  two : PlIs w b2 c2 m s2 d2 wr
  apart : ∀ k ∈ feet b s c d, k ∉ feet b2 s2 c2 d2
theorem ApIs.swap {w wr : World} {b c b2 c2 m : Nat} {s s2 : SS} {d d2 : DS} (h : ApIs w b c s d b2 c2 s2 d2 m wr) : ApIs w b2 c2 s2 d2 b c s d m wr := ⟨h.two, h.one, fun k h1 h2 => h.apart k h2 h1⟩
theorem ApIs.act {w wr : World} {b c b2 c2 m : Nat} {s s2 : SS} {d d2 : DS} {x : AV} (h : ApIs w b c s d b2 c2 s2 d2 m wr) (hm : m ≤ 1000) (hx : x.ok w) (hkl : x.kl.length ≤ 1000) :
    Calls Try.prog 37 #[.pointer (some ⟨b, 0, none⟩), .pointer (some ⟨c, 0, none⟩), .agg x.cells] wr (fun e w' => e = .returned (.bool true) ∧ ∃ s' d', ApIs w b c s' d' b2 c2 s2 d2 (m + 1) w') := by
  refine (act_calls h.one.tw hm (hx.chg h.one.chg (by simp)) hkl (fun hn k hk g o ha e => ?_)).mono ?_
  · obtain ⟨b', o', ha', hcl⟩ := hx.rd.2 hn
    rw [ha] at ha'
    injection ha' with ha'
    injection ha' with ha'
    subst ha'
    have := hcl 0 (.int .u64 (x.kl[0] : Nat)) (by simp [hn])
    have hl : g < w.heap.size := World.block_lt_of_cell? _ _ this
    have := h.one.lo k hk
    omega
  · rintro e w' ⟨rfl, s', d', h1, h2, h3⟩
    have hw : Chg [] w w' := h.one.chg.trans h2 (fun k hk => .inr (h.one.lo k hk))
    refine ⟨rfl, s', d', ⟨h1, hw, fun k hk => (h3 k hk).elim (h.one.lo k) (fun q => by have := h.one.chg.size; omega)⟩, ⟨(h.two.tw.chg h2 (fun k hk hk2 => h.apart k hk2 hk)).up (by omega), hw, h.two.lo⟩, fun k hk hk2 => ?_⟩
    rcases h3 k hk with q | q
    · exact h.apart k q hk2
    · have := h.two.tw.lt k hk2; omega
theorem BsIs.at {w wr : World} {v : Value} {ts : List Bool} (h : BsIs w v ts) (hc : Chg [] w wr) : ∃ a cap, v = .slice a ts.length cap ∧ ∀ k (hk : k < ts.length), ∃ b o, a = some ⟨b, o, none⟩ ∧ b < wr.heap.size ∧ wr.cell? ⟨b, o + k, none⟩ = some (.bool ts[k]) := by
  obtain ⟨a, cap, rfl, h2⟩ := h
  refine ⟨a, cap, rfl, fun k hk => ?_⟩
  rcases h2 with rfl | ⟨b, o, rfl, hb, hcl⟩
  · simp at hk
  · exact ⟨b, o, rfl, Nat.lt_of_lt_of_le hb hc.size, by rw [hc.cell (p := ⟨b, o + k, none⟩) hb (by simp)]; exact hcl k hk⟩
set_option maxRecDepth 100000 in
set_option maxHeartbeats 4000000 in
theorem apart_main (log other : Nat) (v u : Value) (l : List AV) (ts : List Bool) (w : World) (hl : log ≤ 16) (ho : other ≤ 16) (hwt : wt l ≤ 300) (ha : ActsIs w v l) (ht : BsIs w u ts) : Calls Try.prog 8 #[.int .i64 log, .int .i64 other, v, u] w (Res w [] (.bool true)) := by
  have hweight := weight_calls v l w ha
  obtain ⟨hok, hlen, a, cap, rfl, hr⟩ := ha
  have hlw := wt_len l
  have ht0 := ht
  obtain ⟨ua, uc, rfl, _⟩ := ht0
  go_enter Try.func8, Try.ntmps8
  go_wp2_with (first
    | (go_at_call 34; refine hweight.mono ?_; rintro e w1 ⟨n, rfl, hn, hnb, hc1⟩; clear hweight; have dn : decide ((300 : Int) < (n : Int)) = false := (by simp; omega); have dn2 : decide (300 < n) = false := (by simp; omega); have hA := new_ok log w1 hl)
    | (go_at_call 35; refine hA.mono ?_; clear hA; rintro e w2 ⟨b, s, rfl, hst, hc2, hf2, hs1, hs2, hs3, hs4⟩; have hB := new_ok other w2 ho)
    | (go_at_call 35; refine hB.mono ?_; clear hB; rintro e w3 ⟨b2, s2, rfl, hst2, hc3, hg2, ht1, ht2, ht3, ht4⟩; have hC := rnew_ok log w3 hl)
    | (go_at_call 36; refine hC.mono ?_; clear hC; rintro e w4 ⟨c, d, rfl, hd, hc4, hf4, hd1, hd2⟩; have hD := rnew_ok other w4 ho)
    | (go_at_call 36; refine hD.mono ?_; clear hD; rintro e w5 ⟨c2, d2, rfl, hdd, hc5, hf5, hd3, hd4⟩))
  have hc02 := hc1.nil_trans hc2
  have hc03 := hc02.nil_trans hc3
  have hc04 := hc03.nil_trans hc4
  have h0 : ApIs w b c s d b2 c2 s2 d2 0 w5 := by
    have p1 := PlIs.new (w := w) (w1 := w3) (hst.chg0 hc3) hc03 (fun k hk => by have := hf2 k hk; have := hc1.size; omega) hs1 hs2 hs3 hs4 hd hc4 hf4 hd1 hd2
    have p2 := PlIs.new (w := w) (w1 := w4) (hst2.chg0 hc4) hc04 (fun k hk => by have := hg2 k hk; have := hc02.size; omega) ht1 ht2 ht3 ht4 hdd hc5 hf5 hd3 hd4
    refine ⟨p1.chg0 hc5, p2, fun k h1 h2 => ?_⟩
    have z3 := hc3.size
    have z4 := hc4.size
    rcases List.mem_append.1 h1 with q1 | q1 <;> rcases List.mem_append.1 h2 with q2 | q2
    · have := hst.lt k q1; have := hg2 k q2; omega
    · have := hst.lt k q1; have := hf5 k q2; omega
    · have := hf4 k q1; have := hst2.lt k q2; omega
    · have := hd.lt k q1; have := hf5 k q2; omega
  clear hst hc2 hf2 hs1 hs2 hs3 hs4 hst2 hc3 hg2 ht1 ht2 ht3 ht4 hd hc4 hf4 hd1 hd2 hdd hc5 hf5 hd3 hd4 hc02 hc03 hc04
  go_wp2_with fail
  go_loopg [17] l.length (fun m i wr => ∃ k s d s2 d2, k ≤ l.length ∧ m = l.length - k ∧ i = .int .i64 (k : Nat) ∧ ApIs w b c s d b2 c2 s2 d2 k wr)
  case atStart => exact ⟨0, s, d, s2, d2, Nat.zero_le _, by omega, rfl, h0⟩
  case round =>
    clear h0 s d s2 d2
    obtain ⟨k, s, d, s2, d2, hk, hgk, rfl, hP⟩ := hrel
    by_cases hlt : k < l.length
    · rcases hr with rfl | ⟨ab, ao, rfl, hab, hr⟩
      · simp at hlt
      obtain ⟨hx, _⟩ := hok l[k] (List.getElem_mem hlt)
      have hkl := wt_mem (List.getElem_mem hlt)
      have hrk := rng?_chg hP.one.chg (hr k hlt) (by omega) (by simp)
      have hab2 : ab < wr.heap.size := Nat.lt_of_lt_of_le hab hP.one.chg.size
      have hcs := hx.size
      have hco := hx.one
      have hact := hP.act (by omega) hx (by omega)
      have hact2 := hP.swap.act (by omega) hx (by omega)
      obtain ⟨ua', uc', hu, hts⟩ := ht.at hP.one.chg
      injection hu with hu1 hu2 hu3
      subst hu1 hu3
      clear hr hok hx hP hu2
      generalize l[k] = x at *
      by_cases hkt : k < ts.length
      · obtain ⟨tb, tz, hta, htb, htc⟩ := hts k hkt
        have dn3 : decide ((k : Int) < (ts.length : Int)) = true := by simp; omega
        clear hts ht
        subst hta
        cases hv : ts[k] with
        | true =>
          rw [hv] at htc
          go_wp2_with (go_at_call 37; refine hact2.mono ?_; rintro e w6 ⟨rfl, s', d', h4⟩)
          go_roundg (l.length - (k + 1))
          case measure => omega
          case rel => exact ⟨k + 1, s, d, s', d', by omega, rfl, by go_num, h4.swap⟩
        | false =>
          rw [hv] at htc
          go_wp2_with (go_at_call 37; refine hact.mono ?_; rintro e w6 ⟨rfl, s', d', h4⟩)
          go_roundg (l.length - (k + 1))
          case measure => omega
          case rel => exact ⟨k + 1, s', d', s2, d2, by omega, rfl, by go_num, h4⟩
      · have dn3 : decide ((k : Int) < (ts.length : Int)) = false := by simp; omega
        have dn4 : decide (k < ts.length) = false := by simp; omega
        clear hts ht
        go_wp2_with (go_at_call 37; refine hact.mono ?_; rintro e w6 ⟨rfl, s', d', h4⟩)
        go_roundg (l.length - (k + 1))
        case measure => omega
        case rel => exact ⟨k + 1, s', d', s2, d2, by omega, rfl, by go_num, h4⟩
    · obtain rfl : k = l.length := by omega
      have hwh := whole_calls hP.one.tw (by omega)
      have hwh2 := fun W (hc : Chg [] wr W) => whole_calls (hP.two.tw.chg0 hc) (by omega)
      have hPc := hP.one.chg
      clear hr hok hP hlt ht
      go_wp2_with (first
        | (go_at_call 38; refine hwh.mono ?_; clear hwh; rintro e w7 ⟨rfl, hc7⟩; have hW2 := hwh2 _ hc7; clear hwh2)
        | (go_at_call 38; refine hW2.mono ?_; clear hW2; rintro e w8 ⟨rfl, hc8⟩)
        | (go_at_call 31; refine (awake_calls _).mono ?_; rintro e w9 ⟨rfl, hc9⟩))
      go_ret
      exact ⟨rfl, hPc.nil_trans (hc7.nil_trans (hc8.nil_trans hc9))⟩
set_option maxRecDepth 100000 in
set_option maxHeartbeats 2000000 in
theorem apart_walk (w : World) (log : Int) (hb : -9223372036854775808 ≤ log ∧ log < 9223372036854775808) (other : Int) (hb2 : -9223372036854775808 ≤ other ∧ other < 9223372036854775808) (v : Value) (l : List AV) (ha : ActsIs w v l) (u : Value) (ts : List Bool) (ht : BsIs w u ts) :
    Calls Try.prog 8 #[.int .i64 log, .int .i64 other, v, u] w (Res w [] (.bool true)) := by
  have hweight := weight_calls v l w ha
  by_cases hwt : 300 < wt l
  · go_enter Try.func8, Try.ntmps8
    go_wp2_with (go_at_call 34; refine hweight.mono ?_; rintro e w1 ⟨n, rfl, hn, hnb, hc1⟩; have dn : decide ((300 : Int) < (n : Int)) = true := (by simp; omega); have dn2 : decide (300 < n) = true := (by simp; omega))
    go_ret
    exact ⟨rfl, hc1⟩
  · by_cases hg : 0 ≤ log ∧ log ≤ 16
    · obtain ⟨h1, h2⟩ := hg
      obtain ⟨log, rfl⟩ := Int.eq_ofNat_of_zero_le h1
      by_cases hg2 : 0 ≤ other ∧ other ≤ 16
      · obtain ⟨h3, h4⟩ := hg2
        obtain ⟨other, rfl⟩ := Int.eq_ofNat_of_zero_le h3
        exact apart_main log other v u l ts w (by omega) (by omega) (by omega) ha ht
      · have hbad : other < 0 ∨ 16 < other := by omega
        go_enter Try.func8, Try.ntmps8
        go_wp2_with (first
          | (go_at_call 34; refine hweight.mono ?_; rintro e w1 ⟨n, rfl, hn, hnb, hc1⟩; clear hweight; have dn : decide ((300 : Int) < (n : Int)) = false := (by simp; omega); have dn2 : decide (300 < n) = false := (by simp; omega); have hA := new_ok log w1 (by omega))
          | (go_at_call 35; refine hA.mono ?_; clear hA; rintro e w2 ⟨b, s, rfl, _, hc2, _⟩; have hB := new_bad other w2 hbad)
          | (go_at_call 35; refine hB.mono ?_; clear hB; rintro e w3 ⟨rfl, hc3⟩; have hC := rnew_ok log w3 (by omega))
          | (go_at_call 36; refine hC.mono ?_; clear hC; rintro e w4 ⟨c, d, rfl, _, hc4, _⟩; have hD := rnew_bad other w4 hbad)
          | (go_at_call 36; refine hD.mono ?_; clear hD; rintro e w5 ⟨rfl, hc5⟩)
          | (go_at_call 31; refine (awake_calls _).mono ?_; rintro e w6 ⟨rfl, hc6⟩))
        go_ret
        exact ⟨rfl, hc1.nil_trans (hc2.nil_trans (hc3.nil_trans (hc4.nil_trans (hc5.nil_trans hc6))))⟩
    · have hbad : log < 0 ∨ 16 < log := by omega
      by_cases hg2 : 0 ≤ other ∧ other ≤ 16
      · obtain ⟨h3, h4⟩ := hg2
        obtain ⟨other, rfl⟩ := Int.eq_ofNat_of_zero_le h3
        go_enter Try.func8, Try.ntmps8
        go_wp2_with (first
          | (go_at_call 34; refine hweight.mono ?_; rintro e w1 ⟨n, rfl, hn, hnb, hc1⟩; clear hweight; have dn : decide ((300 : Int) < (n : Int)) = false := (by simp; omega); have dn2 : decide (300 < n) = false := (by simp; omega); have hA := new_bad log w1 hbad)
          | (go_at_call 35; refine hA.mono ?_; clear hA; rintro e w2 ⟨rfl, hc2⟩; have hB := new_ok other w2 (by omega))
          | (go_at_call 35; refine hB.mono ?_; clear hB; rintro e w3 ⟨b, s, rfl, _, hc3, _⟩; have hC := rnew_bad log w3 hbad)
          | (go_at_call 36; refine hC.mono ?_; clear hC; rintro e w4 ⟨rfl, hc4⟩; have hD := rnew_ok other w4 (by omega))
          | (go_at_call 36; refine hD.mono ?_; clear hD; rintro e w5 ⟨c, d, rfl, _, hc5, _⟩)
          | (go_at_call 31; refine (awake_calls _).mono ?_; rintro e w6 ⟨rfl, hc6⟩))
        go_ret
        exact ⟨rfl, hc1.nil_trans (hc2.nil_trans (hc3.nil_trans (hc4.nil_trans (hc5.nil_trans hc6))))⟩
      · have hbad2 : other < 0 ∨ 16 < other := by omega
        go_enter Try.func8, Try.ntmps8
        go_wp2_with (first
          | (go_at_call 34; refine hweight.mono ?_; rintro e w1 ⟨n, rfl, hn, hnb, hc1⟩; clear hweight; have dn : decide ((300 : Int) < (n : Int)) = false := (by simp; omega); have dn2 : decide (300 < n) = false := (by simp; omega); have hA := new_bad log w1 hbad)
          | (go_at_call 35; refine hA.mono ?_; clear hA; rintro e w2 ⟨rfl, hc2⟩; have hB := new_bad other w2 hbad2)
          | (go_at_call 35; refine hB.mono ?_; clear hB; rintro e w3 ⟨rfl, hc3⟩; have hC := rnew_bad log w3 hbad)
          | (go_at_call 36; refine hC.mono ?_; clear hC; rintro e w4 ⟨rfl, hc4⟩; have hD := rnew_bad other w4 hbad2)
          | (go_at_call 36; refine hD.mono ?_; clear hD; rintro e w5 ⟨rfl, hc5⟩)
          | (go_at_call 31; refine (awake_calls _).mono ?_; rintro e w6 ⟨rfl, hc6⟩))
        go_ret
        exact ⟨rfl, hc1.nil_trans (hc2.nil_trans (hc3.nil_trans (hc4.nil_trans (hc5.nil_trans hc6))))⟩
end Go.Proofs.Ytonppfebmeehcaa

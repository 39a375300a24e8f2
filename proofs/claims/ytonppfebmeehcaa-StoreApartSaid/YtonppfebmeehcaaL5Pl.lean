/- StorePlays: its walk. -/
import Derived.Test.YtonppfebmeehcaaL5Aw
import Derived.Test.YtonppfebmeehcaaAcG
import Derived.Test.YtonppfebmeehcaaAcW
namespace Go.Proofs.Ytonppfebmeehcaa
open Go.RowKit
set_option linter.unusedVariables false
set_option linter.unusedSimpArgs false
@[go_sem ↓] theorem hold_ld_Act (x : Value) : Instr.loadAt 65 x = ldX 65 x := rfl
theorem u_Act : Try.prog.underlying 65 = some (.struct (Try.prog.fieldsOf 65)) := by kernel_rfl
@[go_sem] theorem ld_Act (b o : Nat) (w : World) : (ldX 65 (.pointer (some ⟨b, o, none⟩))).run Try.prog w = ldR Try.prog 65 b o w (rng? w b o 35) := run_ldR _ _ 35 u_Act rfl (by kernel_rfl) b o w
/-- Both stores, all of them made since w. -/
structure PlIs (w : World) (b c m : Nat) (s : SS) (d : DS) (wr : World) : Prop where
  tw : Tw wr b s c d m
  chg : Chg [] w wr
  lo : ∀ x ∈ feet b s c d, w.heap.size ≤ x
theorem PlIs.chg0 {w wr w' : World} {b c m : Nat} {s : SS} {d : DS} (h : PlIs w b c m s d wr) (hc : Chg [] wr w') : PlIs w b c m s d w' := ⟨h.tw.chg0 hc, h.chg.nil_trans hc, h.lo⟩
theorem PlIs.act {w wr : World} {b c m : Nat} {s : SS} {d : DS} {x : AV} (h : PlIs w b c m s d wr) (hm : m ≤ 1000) (hx : x.ok w) (hkl : x.kl.length ≤ 1000) :
    Calls Try.prog 37 #[.pointer (some ⟨b, 0, none⟩), .pointer (some ⟨c, 0, none⟩), .agg x.cells] wr (fun e w' => e = .returned (.bool true) ∧ ∃ s' d', PlIs w b c (m + 1) s' d' w') := by
  refine (act_calls h.tw hm (hx.chg h.chg (by simp)) hkl (fun hn k hk g o ha e => ?_)).mono ?_
  · obtain ⟨b', o', ha', hcl⟩ := hx.rd.2 hn
    rw [ha] at ha'
    injection ha' with ha'
    injection ha' with ha'
    subst ha'
    have := hcl 0 (.int .u64 (x.kl[0] : Nat)) (by simp [hn])
    have hl : g < w.heap.size := World.block_lt_of_cell? _ _ this
    have := h.lo k hk
    omega
  · rintro e w' ⟨rfl, s', d', h1, h2, h3⟩
    exact ⟨rfl, s', d', h1, h.chg.trans h2 (fun k hk => .inr (h.lo k hk)), fun k hk => (h3 k hk).elim (h.lo k) (fun q => by have := h.chg.size; omega)⟩
theorem PlIs.new {w w1 w2 : World} {l b c : Nat} {s : SS} {d : DS} (h1 : StIs w1 b s) (hc1 : Chg [] w w1) (hf1 : ∀ k ∈ s.foot b, w.heap.size ≤ k) (e1 : s.log = l) (e2 : s.n = 0) (e3 : s.cks = []) (e4 : s.pins = [])
    (h2 : DIs w2 c d) (hc2 : Chg [] w1 w2) (hf2 : ∀ k ∈ d.foot c, w1.heap.size ≤ k) (g1 : d.log = l) (g2 : d.ns = []) : PlIs w b c 0 s d w2 := by
  have hp : ∀ p, s.pin p = 0 := fun p => by unfold SS.pin; rw [e4]; rfl
  have hn : ∀ p, s.node p = none := fun p => by unfold SS.node SS.look; rw [e3]; rfl
  refine ⟨⟨h1.chg0 hc2, h2, ⟨by rw [g1, e1], by rw [g2, e2]; rfl, fun p => by rw [hn, g2]; rfl, fun p => by rw [hp, g2]; rfl⟩, fun k hk hkd => ?_, by omega, fun p => by rw [hp]; omega⟩, hc1.nil_trans hc2, fun k hk => ?_⟩
  · have := h1.lt k hk
    have := hf2 k hkd
    omega
  · rcases List.mem_append.1 hk with q | q
    · exact hf1 k q
    · have := hf2 k q; have := hc1.size; omega
set_option maxRecDepth 100000 in
set_option maxHeartbeats 2000000 in
theorem plays_main (log : Nat) (v : Value) (l : List AV) (w : World) (hl : log ≤ 16) (hwt : wt l ≤ 300) (ha : ActsIs w v l) : Calls Try.prog 7 #[.int .i64 log, v] w (Res w [] (.bool true)) := by
  have hweight := weight_calls v l w ha
  obtain ⟨hok, hlen, a, cap, rfl, hr⟩ := ha
  have hlw := wt_len l
  go_enter Try.func7, Try.ntmps7
  go_wp2_with (first
    | (go_at_call 34; refine hweight.mono ?_; rintro e w1 ⟨n, rfl, hn, hnb, hc1⟩; have dn : decide ((300 : Int) < (n : Int)) = false := (by simp; omega); have dn2 : decide (300 < n) = false := (by simp; omega))
    | (go_at_call 35; refine (new_ok log _ hl).mono ?_; rintro e w2 ⟨b, s, rfl, hst, hc2, hf2, hs1, hs2, hs3, hs4⟩)
    | (go_at_call 36; refine (rnew_ok log _ hl).mono ?_; rintro e w3 ⟨c, d, rfl, hd, hc3, hf3, hd1, hd2⟩))
  have h0 : PlIs w b c 0 s d w3 := by
    have := PlIs.new (w := w1) hst hc2 hf2 hs1 hs2 hs3 hs4 hd hc3 hf3 hd1 hd2
    exact ⟨this.tw, hc1.nil_trans this.chg, fun x hx => by have := this.lo x hx; have := hc1.size; omega⟩
  clear hst hc2 hf2 hs1 hs2 hs3 hs4 hd hc3 hf3 hd1 hd2 hweight
  go_wp2_with fail
  go_loopg [9] l.length (fun m i wr => ∃ k s d, k ≤ l.length ∧ m = l.length - k ∧ i = .int .i64 (k : Nat) ∧ PlIs w b c k s d wr)
  case atStart => exact ⟨0, s, d, Nat.zero_le _, by omega, rfl, h0⟩
  case round =>
    clear h0 s d
    obtain ⟨k, s, d, hk, hgk, rfl, hP⟩ := hrel
    by_cases hlt : k < l.length
    · rcases hr with rfl | ⟨ab, ao, rfl, hab, hr⟩
      · simp at hlt
      obtain ⟨hx, _⟩ := hok l[k] (List.getElem_mem hlt)
      have hkl := wt_mem (List.getElem_mem hlt)
      have hrk := rng?_chg hP.chg (hr k hlt) (by omega) (by simp)
      have hab2 : ab < wr.heap.size := Nat.lt_of_lt_of_le hab hP.chg.size
      have hcs := hx.size
      have hco := hx.one
      have hact := hP.act (by omega) hx (by omega)
      clear hr hok hx hP
      generalize l[k] = x at *
      go_wp2_with (go_at_call 37; refine hact.mono ?_; rintro e w4 ⟨rfl, s', d', h4⟩)
      go_roundg (l.length - (k + 1))
      case measure => omega
      case rel => exact ⟨k + 1, s', d', by omega, rfl, by go_num, h4⟩
    · obtain rfl : k = l.length := by omega
      have hwh := whole_calls hP.tw (by omega)
      have hPc := hP.chg
      clear hr hok hP hlt
      go_wp2_with (first
        | (go_at_call 38; refine hwh.mono ?_; rintro e w5 ⟨rfl, hc5⟩)
        | (go_at_call 31; refine (awake_calls _).mono ?_; rintro e w6 ⟨rfl, hc6⟩))
      go_ret
      exact ⟨rfl, hPc.nil_trans (hc5.nil_trans hc6)⟩
set_option maxRecDepth 100000 in
theorem plays_walk (w : World) (log : Int) (hb : -9223372036854775808 ≤ log ∧ log < 9223372036854775808) (v : Value) (l : List AV) (ha : ActsIs w v l) :
    Calls Try.prog 7 #[.int .i64 log, v] w (Res w [] (.bool true)) := by
  have hweight := weight_calls v l w ha
  by_cases hwt : 300 < wt l
  · go_enter Try.func7, Try.ntmps7
    go_wp2_with (go_at_call 34; refine hweight.mono ?_; rintro e w1 ⟨n, rfl, hn, hnb, hc1⟩; have dn : decide ((300 : Int) < (n : Int)) = true := (by simp; omega); have dn2 : decide (300 < n) = true := (by simp; omega))
    go_ret
    exact ⟨rfl, hc1⟩
  · by_cases hg : 0 ≤ log ∧ log ≤ 16
    · obtain ⟨h1, h2⟩ := hg
      obtain ⟨log, rfl⟩ := Int.eq_ofNat_of_zero_le h1
      exact plays_main log v l w (by omega) (by omega) ha
    · have hbad : log < 0 ∨ 16 < log := by omega
      go_enter Try.func7, Try.ntmps7
      go_wp2_with (first
        | (go_at_call 34; refine hweight.mono ?_; rintro e w1 ⟨n, rfl, hn, hnb, hc1⟩; have dn : decide ((300 : Int) < (n : Int)) = false := (by simp; omega); have dn2 : decide (300 < n) = false := (by simp; omega))
        | (go_at_call 35; refine (new_bad log _ hbad).mono ?_; rintro e w2 ⟨rfl, hc2⟩)
        | (go_at_call 36; refine (rnew_bad log _ hbad).mono ?_; rintro e w3 ⟨rfl, hc3⟩)
        | (go_at_call 31; refine (awake_calls _).mono ?_; rintro e w6 ⟨rfl, hc6⟩))
      go_ret
      exact ⟨rfl, hc1.nil_trans (hc2.nil_trans (hc3.nil_trans hc6))⟩
end Go.Proofs.Ytonppfebmeehcaa

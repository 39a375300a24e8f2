/- act: Sweep. -/
import Derived.Test.YtonppfebmeehcaaAcV
import Derived.BigRegion
import Derived.RegionTactic
import Derived.Deep.DeepCutAuto
import Derived.Deep.RegionHeld3
import Derived.BigQuiet
import Derived.Deep.LoopGhost
namespace Go.Proofs.Ytonppfebmeehcaa
open Go.RowKit
set_option linter.unusedVariables false
set_option linter.unusedSimpArgs false

theorem UOwn.appendS {w : World} {B : Nat} {v : Value} {l l2 : List Nat} {a : Option Addr} {cap m : Nat} (hm : m = l2.length) (h : UOwn w B v l) (hl : Rd w 1 a m (l2.map fun (n : Nat) => Value.int .u64 (n : Int))) (hlen : l.length + l2.length ≤ 4294967296) (hB : B ≤ w.heap.size) (ty : TypeId) :
    ∃ v' w', (Builtin.append_ #[36, 36] ty #[v, .slice a m cap]).run Try.prog w = .ok v' w' ∧ UOwn w' B v' (l ++ l2) ∧ Chg (ob v) w w' ∧ (∀ k ∈ ob v', k ∈ ob v ∨ w.heap.size ≤ k) := by
  subst hm
  obtain ⟨i, hi, hz, hsz, hby⟩ := infoOfU i_u64
  obtain ⟨v', w', hr, h2, h3, h4⟩ := run_append_any (P := Try.prog) w B 36 ty 31 i _ 1 8 u_u64s hi hz hsz hby rfl (by decide) v l.length _ h a l2.length cap _ hl
    (fun u hu => by
      obtain ⟨x, _, rfl⟩ := List.mem_map.1 hu
      rfl) (by unfold maxLen; omega) (by omega) hB
  refine ⟨v', w', hr, ?_, h3, h4⟩
  unfold UOwn
  rw [List.length_append, List.map_append]
  exact h2
theorem UOwn.full {w : World} {B : Nat} {v : Value} {l : List Nat} {n : Nat} (h : UOwn w B v l) (hl : l.length = n + 1) : ∃ g cap, v = .slice (some ⟨g, 0, none⟩) (n + 1) cap ∧ n + 1 ≤ cap ∧ B ≤ g ∧ g < w.heap.size := by
  rcases h.2 with ⟨rfl, h0⟩ | ⟨g, cap, cur, rfl, hb, hh, h1, _⟩
  · omega
  · exact ⟨g, cap, by rw [hl], by omega, hb, blk_lt hh⟩
def apS (ts : Array TypeId) (ty : TypeId) (xs : Array Value) : Sem Value := Builtin.append_ ts ty xs
theorem hold_apS (ts : Array TypeId) (ty : TypeId) (xs : Array Value) : Builtin.append_ ts ty xs = apS ts ty xs := rfl
/-- A copy with one number behind it. -/
structure GvIs (wb : World) (kl : List Nat) (g cap : Nat) (W : World) : Prop where
  own : UOwn W wb.heap.size (.slice (some ⟨g, 0, none⟩) (kl.length + 1) cap) (kl ++ [171])
  cap : kl.length + 1 ≤ cap
  chg : Chg [] wb W
  lo : wb.heap.size ≤ g
theorem GvIs.undrew {wb W : World} {kl : List Nat} {g cap : Nat} (h : GvIs wb.drew kl g cap W) : GvIs wb kl g cap W := ⟨h.own, h.cap, ((Chg.refl _ _).drew).nil_trans h.chg, h.lo⟩
theorem chg_own {w w1 w2 : World} {B : Nat} {v : Value} {l : List Nat} (hc : Chg [] w w1) (ho : UOwn w1 B v l) (hB : w.heap.size ≤ B) (h : Chg (ob v) w1 w2) : Chg [] w w2 :=
  hc.trans h (fun k hk => .inr (by have := (own_lt ho k hk).1; omega))
theorem giv_a (w : World) {a : Option Addr} {cap : Nat} {kl : List Nat} (hk : Rd w 1 a kl.length (kl.map fun (n : Nat) => Value.int .u64 (n : Int))) (hl : kl.length ≤ 1000000) :
    ∃ a2 cap2 w2 g cap4 w4, (apS #[36, 36] 36 #[.slice (some ⟨w.heap.size, 0, none⟩) 0 0, .slice a kl.length cap]).run Try.prog (w.alloc (.cells #[] 31)) = .ok (.slice a2 kl.length cap2) w2 ∧ Chg [] w w2 ∧
      (apS #[36, 36] 36 #[.slice a2 kl.length cap2, .slice (some ⟨w2.heap.size, 0, none⟩) 1 1]).run Try.prog (w2.alloc (.cells #[.int .u64 171] 31)) = .ok (.slice (some ⟨g, 0, none⟩) (kl.length + 1) cap4) w4 ∧ GvIs w kl g cap4 w4 := by
  have hc : Chg [] w (w.alloc (.cells #[] 31)) := (Chg.refl _ _).alloc _
  have h0 : UOwn (w.alloc (.cells #[] 31)) w.heap.size (.slice (some ⟨w.heap.size, 0, none⟩) 0 0) [] := own_new w w.heap.size 31 1 0 #[] (Nat.le_refl _) rfl (Nat.zero_le _)
  obtain ⟨v2, w2, hr, ho, hc2, _⟩ := h0.appendS (cap := cap) rfl (hk.chg hc (by simp)) (by simp; omega) hc.size 36
  obtain ⟨a2, cap2, rfl⟩ := ho.shp
  have hcw2 := chg_own hc h0 (Nat.le_refl _) hc2
  obtain ⟨v4, w4, hr4, ho4, hc4, _⟩ := ho.push 171 (by simp; omega) hcw2.size 36
  obtain ⟨g, cap4, rfl, q1, q2, q3⟩ := ho4.full (n := kl.length) (by simp)
  simp only [List.nil_append] at hr ho hr4 ho4
  exact ⟨a2, cap2, w2, g, cap4, w4, hr, hcw2, hr4, ho4, q1, chg_own hcw2 ho (Nat.le_refl _) hc4, q2⟩
theorem giv_b (wb w : World) {g1 g3 : Nat} (hcw : Chg [] wb w) (h0 : UOwn w wb.heap.size (.slice (some ⟨g1, 0, none⟩) 0 0) []) (h3 : w.heap[g3]? = some (.cells #[.int .u64 171] 31 (0, 0))) (hne : g3 ≠ g1) {a : Option Addr} {cap : Nat} {kl : List Nat} (hk : Rd w 1 a kl.length (kl.map fun (n : Nat) => Value.int .u64 (n : Int))) (hl : kl.length ≤ 1000000) :
    ∃ a2 cap2 w2 g cap4 w4, (apS #[36, 36] 36 #[.slice (some ⟨g1, 0, none⟩) 0 0, .slice a kl.length cap]).run Try.prog w = .ok (.slice a2 kl.length cap2) w2 ∧ Chg [] wb w2 ∧
      (apS #[36, 36] 36 #[.slice a2 kl.length cap2, .slice (some ⟨g3, 0, none⟩) 1 1]).run Try.prog w2 = .ok (.slice (some ⟨g, 0, none⟩) (kl.length + 1) cap4) w4 ∧ GvIs wb kl g cap4 w4 := by
  obtain ⟨v2, w2, hr, ho, hc2, _⟩ := h0.appendS (cap := cap) rfl hk (by simp; omega) hcw.size 36
  obtain ⟨a2, cap2, rfl⟩ := ho.shp
  have hcw2 := chg_own hcw h0 (Nat.le_refl _) hc2
  have h3' := hc2.at h3 (by simp [ob_some]; exact hne)
  obtain ⟨v4, w4, hr4, ho4, hc4, _⟩ := ho.appendS (l2 := [171]) (a := some ⟨g3, 0, none⟩) (cap := 1) (m := 1) rfl ⟨rfl, fun _ => ⟨g3, 0, rfl, fun j u hu => by
    have : j = 0 := by
      cases j with
      | zero => rfl
      | succ j => simp at hu
    subst this
    simp at hu
    subst hu
    exact blk_cell h3' 0 rfl⟩⟩ (by simp; omega) hcw2.size 36
  obtain ⟨g, cap4, rfl, q1, q2, q3⟩ := ho4.full (n := kl.length) (by simp)
  simp only [List.nil_append] at hr ho hr4 ho4
  exact ⟨a2, cap2, w2, g, cap4, w4, hr, hcw2, hr4, ho4, q1, chg_own hcw2 ho (Nat.le_refl _) hc4, q2⟩
theorem GvIs.cell {wb W : World} {kl : List Nat} {g cap : Nat} (h : GvIs wb kl g cap W) {j : Nat} (hj : j < kl.length) : W.cell? ⟨g, j, none⟩ = some (.int .u64 (kl[j] : Nat)) ∧ W.frozen? ⟨g, j, none⟩ = false := by
  rcases h.own.2 with ⟨hv, _⟩ | ⟨g', cap2, cur, hv, hb, hh, hnc, hm, hcs, ht⟩
  · cases hv
  · injection hv with e1
    injection e1 with e1
    injection e1 with e1
    subst e1
    refine ⟨blk_cell hh j ?_, blk_frozen hh j⟩
    have e : (cur.toList.take ((kl ++ [171]).length * 1))[j]? = ((kl ++ [171]).map fun (n : Nat) => Value.int .u64 (n : Int))[j]? := by rw [ht]
    rw [List.getElem?_take_of_lt (by simp; omega), Array.getElem?_toList] at e
    rw [e]
    simp [List.getElem?_append_left, hj]
theorem GvIs.last {wb W : World} {kl : List Nat} {g cap : Nat} (h : GvIs wb kl g cap W) : W.cell? ⟨g, kl.length, none⟩ = some (.int .u64 171) := by
  rcases h.own.2 with ⟨hv, _⟩ | ⟨g', cap2, cur, hv, hb, hh, hnc, hm, hcs, ht⟩
  · cases hv
  · injection hv with e1
    injection e1 with e1
    injection e1 with e1
    subst e1
    refine blk_cell hh _ ?_
    have e : (cur.toList.take ((kl ++ [171]).length * 1))[kl.length]? = ((kl ++ [171]).map fun (n : Nat) => Value.int .u64 (n : Int))[kl.length]? := by rw [ht]
    rw [List.getElem?_take_of_lt (by simp), Array.getElem?_toList] at e
    rw [e]
    simp
theorem GvIs.lt {wb W : World} {kl : List Nat} {g cap : Nat} (h : GvIs wb kl g cap W) : g < W.heap.size := (own_lt h.own g (by simp [ob, Value.ownBlock])).2
theorem GvIs.rd {wb W : World} {kl : List Nat} {g cap : Nat} (h : GvIs wb kl g cap W) : Rd W 1 (some ⟨g, 0, none⟩) kl.length (kl.map fun (n : Nat) => Value.int .u64 (n : Int)) :=
  ⟨by simp, fun _ => ⟨g, 0, rfl, fun j u hu => by
    have hj : j < kl.length := by have := (List.getElem?_eq_some_iff.1 hu).1; simpa using this
    rw [Nat.zero_add, (h.cell hj).1]
    simp [hj] at hu
    rw [hu]⟩⟩
theorem Rd.keep {w w' : World} {a : Option Addr} {m : Nat} {xs : List Value} {F : List Nat} (h : Rd w 1 a m xs) (hc : Chg F w w') (hF : ∀ k ∈ F, ∀ g o, a = some ⟨g, o, none⟩ → k < w.heap.size → k ≠ g) : Rd w' 1 a m xs := by
  refine ⟨h.1, fun hm => ?_⟩
  obtain ⟨b, o, ha, hcl⟩ := h.2 hm
  refine ⟨b, o, ha, fun j u hu => ?_⟩
  have := hcl j u hu
  have hl : b < w.heap.size := World.block_lt_of_cell? _ _ this
  rw [hc.cell (p := ⟨b, o + j, none⟩) hl (fun e => hF _ e b o ha hl rfl)]
  exact this
theorem Rd.keep2 {w w' : World} {a : Option Addr} {m : Nat} {xs : List Value} {F : List Nat} (h : Rd w 1 a m xs) (hc : Chg F w w') (hF : 0 < m → ∀ k ∈ F, ∀ g o, a = some ⟨g, o, none⟩ → k ≠ g) : Rd w' 1 a m xs := by
  refine ⟨h.1, fun hm => ?_⟩
  obtain ⟨b, o, ha, hcl⟩ := h.2 hm
  refine ⟨b, o, ha, fun j u hu => ?_⟩
  have := hcl j u hu
  have hl : b < w.heap.size := World.block_lt_of_cell? _ _ this
  rw [hc.cell (p := ⟨b, o + j, none⟩) hl (fun e => hF hm _ e b o ha rfl)]
  exact this
theorem BothP.step {w wc w2 w3 : World} {b c m g : Nat} {s : SS} {d : DS} (h : BothP wc b s c d m w2) (h0 : Chg [] w wc) (hg : g < wc.heap.size) (hgw : w.heap.size ≤ g) (hgf : g ∉ feet b s c d) (hc : Chg [g] w2 w3) : BothP w b s c d m w3 := by
  obtain ⟨s', d', h1, h2, h3⟩ := h
  refine ⟨s', d', h1.chg hc (fun k hk hkg => ?_), ?_, fun k hk => (h3 k hk).imp id (fun q => by have := h0.size; omega)⟩
  · simp at hkg
    subst hkg
    exact (h3 k hk).elim hgf (fun q => by omega)
  · exact ((h0.of_nil).trans h2 (fun k hk => .inl hk)).trans hc (fun k hk => .inr (by simp at hk; omega))
attribute [local go_sem ↓] hold_apS
section
variable {w w1 w2 : World} {b c m : Nat} {s : SS} {d : DS} {x : AV}
set_option maxRecDepth 100000 in
set_option maxHeartbeats 4000000 in
theorem act_sweep (h : Tw w b s c d m) (hm : m ≤ 1000) (hx : x.ok w) (hkl : x.kl.length ≤ 1000) (hfr : 0 < x.kl.length → ∀ k ∈ feet b s c d, ∀ g o, x.a = some ⟨g, o, none⟩ → k ≠ g) (hw : x.what = 6) : Calls Try.prog 37 #[.pointer (some ⟨b, 0, none⟩), .pointer (some ⟨c, 0, none⟩), .agg x.cells] w (ActP w b s c d m) := by
  have hs1 := hx.hash.1
  have hs2 := hx.hash.one
  have hcs := hx.size
  have hco := hx.one
  have hc0 : Chg [] w (w.alloc (.cells x.cells 65)) := (Chg.refl _ _).alloc _
  have hB := AB.new (w := w) hx.hash
  have hbf : w.heap.size ∉ feet b s c d := fun hk => by have := h.lt _ hk; omega
  have hrd := hx.rd
  have hklv := hx.kl
  have h1 := h.chg0 hc0
  have k0 := hB.c0
  rw [hw] at k0
  have HA := Lib.hid hB
  clear hB hx
  generalize hbx : w.alloc (.cells x.cells 65) = wb at *
  have HX := Lib.hid hbx
  have hrdb := hrd.chg hc0 (by simp)
  have k34 := HA.out.c34
  have hbl := HA.out.lt
  go_enter Try.func37, Try.ntmps37
  go_wp2
  go_cut [7] from 65 to 74 (fun gv wx => ∃ g cap, gv = .slice (some ⟨g, 0, none⟩) x.kl.length cap ∧ GvIs wb x.kl g cap wx)
  case first =>
    have e34 : ∀ W, Chg [] wb W → W.cell? ⟨w.heap.size, 34, none⟩ = some (.slice x.a x.kl.length x.cap) ∧ w.heap.size < W.heap.size := fun W hc => ⟨(HA.out.chg hc (by simp)).c34, Nat.lt_of_lt_of_le hbl hc.size⟩
    obtain ⟨a2, p2, w2, g, p4, w4, r1, r2, r3, r4⟩ := giv_a wb.drew (cap := x.cap) (hrdb.chg ((Chg.refl [] _).drew) (by simp)) (by omega)
    obtain ⟨b2, t2, v2, gb, t4, v4, s1, s2, s3, s4⟩ := giv_b wb.drew ((wb.drew.alloc (.cells #[] 31)).alloc (.cells #[.int .u64 171] 31)) (g1 := wb.heap.size) (g3 := wb.heap.size + 1) (((Chg.refl _ _).alloc _).alloc _)
      (own_chg (own_new wb.drew wb.heap.size 31 1 0 #[] (Nat.le_refl _) rfl (Nat.zero_le _)) ((Chg.refl [] _).alloc _) (by simp)) (by have := blk_new (wb.drew.alloc (.cells #[] 31)) (.cells #[.int .u64 171] 31); rwa [World.size_alloc] at this) (by omega) (cap := x.cap) (kl := x.kl) (hrdb.chg ((((Chg.refl [] _).drew).alloc _).alloc _) (by simp)) (by omega)
    obtain ⟨c2, y2, z2, gc, y4, z4, u1, u2, u3, u4⟩ := giv_b wb.drew ((wb.drew.alloc (.cells #[.int .u64 171] 31)).alloc (.cells #[] 31)) (g1 := wb.heap.size + 1) (g3 := wb.heap.size) (((Chg.refl _ _).alloc _).alloc _)
      (by have := own_new (wb.drew.alloc (.cells #[.int .u64 171] 31)) wb.heap.size 31 1 0 #[] (by simp) rfl (Nat.zero_le _); rwa [World.size_alloc] at this) (blk_alloc (blk_new wb.drew (.cells #[.int .u64 171] 31)) _) (by omega) (cap := x.cap) (kl := x.kl) (hrdb.chg ((((Chg.refl [] _).drew).alloc _).alloc _) (by simp)) (by omega)
    have hdr : Chg [] wb wb.drew := (Chg.refl _ _).drew
    obtain ⟨f1, f2⟩ := e34 _ (hdr.nil_trans r2)
    obtain ⟨f3, f4⟩ := e34 _ (hdr.nil_trans r4.chg)
    obtain ⟨f5, f6⟩ := e34 _ (hdr.nil_trans s2)
    obtain ⟨f7, f8⟩ := e34 _ (hdr.nil_trans s4.chg)
    obtain ⟨f9, f10⟩ := e34 _ (hdr.nil_trans u2)
    obtain ⟨f11, f12⟩ := e34 _ (hdr.nil_trans u4.chg)
    have m1 := r4.cap
    have m2 := s4.cap
    have m3 := u4.cap
    have R4 := Lib.hid r4
    have S4 := Lib.hid s4
    have U4 := Lib.hid u4
    have r1' : (apS #[36, 36] 36 #[.slice (some ⟨wb.heap.size, 0, none⟩) 0 0, .slice x.a x.kl.length x.cap]).run Try.prog ((wb.alloc (.cells #[] 31)).drew) = .ok (.slice a2 x.kl.length p2) w2 := r1
    have s1' : (apS #[36, 36] 36 #[.slice (some ⟨wb.heap.size, 0, none⟩) 0 0, .slice x.a x.kl.length x.cap]).run Try.prog (((wb.alloc (.cells #[] 31)).alloc (.cells #[.int .u64 171] 31)).drew) = .ok (.slice b2 x.kl.length t2) v2 := s1
    have u1' : (apS #[36, 36] 36 #[.slice (some ⟨wb.heap.size + 1, 0, none⟩) 0 0, .slice x.a x.kl.length x.cap]).run Try.prog (((wb.alloc (.cells #[.int .u64 171] 31)).alloc (.cells #[] 31)).drew) = .ok (.slice c2 x.kl.length y2) z2 := u1
    clear r1 s1 u1 r4 s4 u4 r2 s2 u2 e34 HX hbx hfr hrd hrdb h h1
    generalize x.kl.length = n at *
    go_region
    · go_wp2
      go_meet
      exact ⟨_, _, rfl, R4.out.undrew⟩
    · go_wp2
      go_meet
      exact ⟨_, _, rfl, S4.out.undrew⟩
    · go_wp2
      go_meet
      exact ⟨_, _, rfl, U4.out.undrew⟩
  case rest =>
    obtain ⟨g, cap, rfl, hG⟩ := hcut
    have h2 := h1.chg0 hG.chg
    have hgf : g ∉ feet b s c d := fun hk => by have := h1.lt _ hk; have := hG.lo; omega
    have q1 := p1_sweep h2 hm (cap := cap) hG.rd (by omega)
    have hrdc := hrdb.chg hG.chg (by simp)
    have HK : ∀ e1 w1, P1 wc b s (m + 1) d.log (dSw d.ns x.kl d.ns.length).1 (.int .u64 ((dSw d.ns x.kl d.ns.length).2 : Nat)) e1 w1 →
        Calls Try.prog 56 #[.pointer (some ⟨c, 0, none⟩), .slice x.a x.kl.length x.cap] w1 (DP w1 c d (dSw d.ns x.kl d.ns.length).1 (.int .u64 ((dSw d.ns x.kl d.ns.length).2 : Nat))) ∧
        w1.cell? ⟨w.heap.size, 34, none⟩ = some (.slice x.a x.kl.length x.cap) ∧ w.heap.size < w1.heap.size := fun e1 w1 hp => by
      have hr1 := h2.p1 (F := []) hp
      have hs1 := hp.size
      obtain ⟨_, s', _, hmv, _⟩ := hp
      have hr2 := hrdc.keep2 hmv.1 (fun hn k hk g' o ha => hfr hn k (List.mem_append_left _ hk) g' o ha)
      have hA1 := (HA.out.chg hG.chg (by simp)).chg hmv.1 (fun hk => hbf (List.mem_append_left _ hk))
      exact ⟨rsweep_calls c d w1 hr1 x.kl x.a x.cap (by omega) (fun w' hc => hr2.keep2 hc (fun hn k hk g' o ha => hfr hn k (List.mem_append_right _ hk) g' o ha)), hA1.c34, hA1.lt⟩
    have HK2 : ∀ e1 w1 e2 w2, P1 wc b s (m + 1) d.log (dSw d.ns x.kl d.ns.length).1 (.int .u64 ((dSw d.ns x.kl d.ns.length).2 : Nat)) e1 w1 → DP w1 c d (dSw d.ns x.kl d.ns.length).1 (.int .u64 ((dSw d.ns x.kl d.ns.length).2 : Nat)) e2 w2 →
        Chg (feet b s c d) wc w2 ∧ BothP wc b s c d (m + 1) w2 := fun e1 w1 e2 w2 hp hq => by
      have hb := h2.join hp hq
      refine ⟨?_, hb⟩
      obtain ⟨_, _, _, hmv⟩ := hb
      exact hmv.1
    have hcap := hG.cap
    have HG := Lib.hid hG
    generalize hC : (dSw d.ns x.kl d.ns.length).2 = C at *
    have e1 : ((C : Int) != (C : Int)) = false := by simp
    have HRD := Lib.hid hrdc
    have HFR := Lib.hid hfr
    have HLT : Hid (0 < x.kl.length → ∀ g' o, x.a = some ⟨g', o, none⟩ → g' < w.heap.size) := fun hn g' o ha => by
      obtain ⟨b', o', ha', hcl⟩ := hrd.2 hn
      rw [ha] at ha'
      injection ha' with ha'
      injection ha' with ha'
      subst ha'
      have := hcl 0 (.int .u64 (x.kl[0] : Nat)) (by simp [hn])
      exact World.block_lt_of_cell? _ _ this
    have H2 := Lib.hid h2
    clear hG h1 h2 hrdb hrd hrdc hfr hC h
    go_wp2_with (first
      | (go_at_call 26; refine q1.mono ?_; intro e w1 hp; obtain ⟨t1, t2, t3⟩ := HK _ _ hp; have he := hp.1; subst he; clear q1 HK)
      | (go_at_call 56; refine t1.mono ?_; intro e2 w2 hq; have he2 := hq.1; subst he2; obtain ⟨z1, z2⟩ := HK2 _ _ _ _ hp hq; have z3 := (by rw [z1.cell (p := ⟨g, x.kl.length, none⟩) HG.out.lt hgf]; exact HG.out.last : w2.cell? ⟨g, x.kl.length, none⟩ = some (.int .u64 171)); have z4 : g < w2.heap.size := Nat.lt_of_lt_of_le HG.out.lt z1.size; clear t1 hp hq HK2))
    have hcells : ∀ j (hj : j < x.kl.length), w2.cell? ⟨g, j, none⟩ = some (.int .u64 (x.kl[j] : Nat)) ∧ w2.frozen? ⟨g, j, none⟩ = false := fun j hj => by
      rw [z1.cell (p := ⟨g, j, none⟩) HG.out.lt hgf, z1.frozen (p := ⟨g, j, none⟩) HG.out.lt hgf]
      exact HG.out.cell hj
    have hrd2 := HRD.out.keep2 z1 (fun hn k hk g' o ha => HFR.out hn k hk g' o ha)
    have hA2 := (HA.out.chg HG.out.chg (by simp)).chg z1 hbf
    have hgw : w.heap.size < g := by have := HG.out.lo; omega
    have hgc := HG.out.lt
    clear t2 t3 z3
    go_loopg [9] x.kl.length (fun m i wr => ∃ k, k ≤ x.kl.length ∧ m = x.kl.length - k ∧ i = .int .i64 (k : Nat) ∧ Chg [g] w2 wr ∧ ∀ j, k ≤ j → (hj : j < x.kl.length) → wr.cell? ⟨g, j, none⟩ = some (.int .u64 (x.kl[j] : Nat)) ∧ wr.frozen? ⟨g, j, none⟩ = false)
    case atStart => exact ⟨0, Nat.zero_le _, by omega, rfl, Chg.refl _ _, fun j _ hj => hcells j hj⟩
    case round =>
      obtain ⟨k, hk, hgk, rfl, hcr, hcl⟩ := hrel
      by_cases hlt : k < x.kl.length
      · obtain ⟨p1, p2⟩ := hcl k (Nat.le_refl _) hlt
        have hrr := hrd2.keep2 hcr (fun hn k hk g' o ha => by simp at hk; subst hk; have := HLT.out hn g' o ha; omega)
        obtain ⟨kb, ko, ha, hkc⟩ := hrr.2 (by omega)
        have p3 := hkc k (.int .u64 (x.kl[k] : Nat)) (by simp [hlt])
        have p4 := World.block_lt_of_cell? _ _ p3
        have p5 := (hA2.chg hcr (by simp; omega)).c34
        have p6 := (hA2.chg hcr (by simp; omega)).lt
        have p7 : g < wr.heap.size := Nat.lt_of_lt_of_le z4 hcr.size
        rw [ha] at p5
        have hnext : ∀ nq v, Chg [g] w2 ((wr.drewN nq).setCell ⟨g, k, none⟩ v) ∧ ∀ j, k + 1 ≤ j → (hj : j < x.kl.length) → ((wr.drewN nq).setCell ⟨g, k, none⟩ v).cell? ⟨g, j, none⟩ = some (.int .u64 (x.kl[j] : Nat)) ∧ ((wr.drewN nq).setCell ⟨g, k, none⟩ v).frozen? ⟨g, j, none⟩ = false := fun nq v => by
          refine ⟨(hcr.drewN nq).setCell (.inl (by simp)) _, fun j h1 hj => ?_⟩
          obtain ⟨a1, a2⟩ := hcl j (by omega) hj
          rw [World.cell?_setCell_other _ _ _ _ (by intro e; injection e with e1 e2; omega), World.frozen?_setCell]
          exact ⟨a1, a2⟩
        have HN := Lib.hid hnext
        have hyv := hklv _ (List.getElem_mem hlt)
        clear hnext hcl hkc hrr hcells hrd2 hA2 z1 z2 hcr ha
        generalize x.kl[k] = y at *
        have e2 : ((y : Int) != (y : Int)) = false := by simp
        go_wp2
        go_quiet (fail)
        go_wp2
        go_roundg (x.kl.length - (k + 1))
        case measure => omega
        case rel => exact ⟨k + 1, by omega, rfl, by go_num, (HN.out _ _).1, (HN.out _ _).2⟩
      · obtain rfl : k = x.kl.length := by omega
        have hfin := z2.step (hc0.nil_trans HG.out.chg) hgc (by omega) hgf hcr
        have HF := Lib.hid hfin
        clear hfin hcl hcells hrd2 hA2 z1 z2 hcr hlt
        have dn : decide ((x.kl.length : Int) < (x.kl.length : Int)) = false := by simp
        go_wp2
        go_ret
        exact ⟨rfl, HF.out⟩
end
end Go.Proofs.Ytonppfebmeehcaa

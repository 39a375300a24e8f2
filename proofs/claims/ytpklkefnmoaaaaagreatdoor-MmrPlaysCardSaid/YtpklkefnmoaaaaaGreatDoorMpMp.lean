/- Texts put into one by pack.py: MpM. -/
import Derived.Test.YtpklkefnmoaaaaaGreatDoorPkN
import Derived.Test.YtpklkefnmoaaaaaGreatDoorPkK
/- MmrPlays' acts: drop, back. -/
namespace Go.Proofs.YtpklkefnmoaaaaaGreatDoor
open Go.RowKit
set_option linter.unusedVariables false
set_option linter.unusedSimpArgs false
section
variable {F0 : List Nat} {w0 w : World} {b rb m : Nat} {t : TS} {r : RT} {x : AM}
theorem Two.comp {F1 : List Nat} {w1 w2 : World} {t1 t2 : TS} {r1 r2 : RT} (h : Two F0 w0 w1 b rb t1 r1) (k : Two F1 w1 w2 b rb t2 r2) (hF : ∀ x ∈ F1, x ∈ F0 ∨ w0.heap.size ≤ x) : Two F0 w0 w2 b rb t2 r2 :=
  ⟨k.tr, k.rf, k.ap, h.chg.trans k.chg hF, fun x hx => (k.ownT x hx).elim (hF x) (fun q => .inr (by have := h.chg.size; omega)), fun x hx => (k.ownR x hx).elim (hF x) (fun q => .inr (by have := h.chg.size; omega))⟩
/-- The act's number and the document's tree's store, wherever. -/
def SDr (bx rb p c : Nat) (W : World) : Prop := W.cell? ⟨bx, 34, none⟩ = some (.int .u64 p) ∧ W.cell? ⟨rb, 2, none⟩ = some (.pointer (some ⟨c, 0, none⟩)) ∧ bx < W.heap.size ∧ rb < W.heap.size
set_option maxRecDepth 100000 in
set_option maxHeartbeats 8000000 in
theorem actM_drop (h : Two F0 w0 w b rb t r) (hr : Rel t r m) (hm : m ≤ 1000) (hx : x.ok w) (hw : x.what = 7) : Calls Tryz.prog 17 #[.pointer (some ⟨b, 0, none⟩), .pointer (some ⟨rb, 0, none⟩), .agg x.cells] w (ActQ F0 w0 b rb (m + 1)) := by
  have hp64 := hx.p
  have hs1 := hx.hash.1
  have hs2 := hx.hash.one
  have hcs := hx.size
  have hco := hx.one
  have hc0 : Chg [] w (w.alloc (.cells x.cells 41)) := (Chg.refl _ _).alloc _
  have hB := AMB.new (w := w) hx.hash
  have hT0 := h.chg0 hc0
  have k0 := hB.c0
  rw [hw] at k0
  have hbl := hB.lt
  have hbT : w.heap.size ∉ t.foot b := fun hk => by have := h.tr.lt _ hk; omega
  have hbR : w.heap.size ∉ r.foot rb := fun hk => by have := h.rf.lt _ hk; omega
  have hsz := hr.size
  obtain ⟨B, hpk⟩ := peak_calls r.n x.p (by rw [hr.n]; omega) hp64
  have k34 := hB.c34
  have kn : (w.alloc (.cells x.cells 41)).cell? ⟨rb, 1, none⟩ = some (.int .u64 r.n) := blk_cell hT0.rf.mem 1 rfl
  have hrl := blk_lt hT0.rf.mem
  have hno := fun (W : World) (hc : Chg [] (w.alloc (.cells x.cells 41)) W) => (hT0.both0 hr (m' := m + 1) (by omega) hc).act
  have q0 := fun (W : World) (hc : Chg [] (w.alloc (.cells x.cells 41)) W) => tstore_calls W b t (hT0.tr.chg0 hc)
  have hS0 : ∀ W, Chg [] (w.alloc (.cells x.cells 41)) W → SDr w.heap.size rb x.p r.c W := fun W hc => ⟨(hB.chg hc (by simp)).c34, blk_cell (hT0.rf.chg0 hc).mem 2 rfl, (hB.chg hc (by simp)).lt, blk_lt (hT0.rf.chg0 hc).mem⟩
  have hF : ∀ k ∈ t.foot b ++ r.foot rb, k ∈ F0 ∨ w0.heap.size ≤ k := fun k hk => (List.mem_append.1 hk).elim (h.ownT k) (h.ownR k)
  have q1 := fun (W : World) (hc : Chg [] (w.alloc (.cells x.cells 41)) W) => two_drop (hT0.chg0 hc).here hr hp64
  have q2 : ∀ W e w1, Chg [] (w.alloc (.cells x.cells 41)) W → Side1 (t.foot b ++ r.foot rb) W b rb r (m + 1) (dDrop r.d.ns x.p) t (.int .i64 (dDropE r.d.ns x.p)) e w1 → Calls Tryz.prog 24 #[.pointer (some ⟨r.c, 0, none⟩), .int .u64 x.p] w1 (DP w1 r.c r.d (dDrop r.d.ns x.p) (.int .i64 (dDropE r.d.ns x.p))) ∧ SDr w.heap.size rb x.p r.c w1 := fun W e w1 hW hp => by
    obtain ⟨_, s', h1, h2⟩ := hp
    have hn : w.heap.size ∉ t.foot b ++ r.foot rb := fun hk => (List.mem_append.1 hk).elim hbT hbR
    have hb2 := (hB.chg hW (by simp)).chg h1.chg hn
    exact ⟨rdrop_calls r.c x.p r.d w1 h1.rf.st, hb2.c34, blk_cell h1.rf.mem 2 rfl, hb2.lt, blk_lt h1.rf.mem⟩
  have q3 : ∀ W e w1 e2 w2, Chg [] (w.alloc (.cells x.cells 41)) W → Side1 (t.foot b ++ r.foot rb) W b rb r (m + 1) (dDrop r.d.ns x.p) t (.int .i64 (dDropE r.d.ns x.p)) e w1 → DP w1 r.c r.d (dDrop r.d.ns x.p) (.int .i64 (dDropE r.d.ns x.p)) e2 w2 →
      ActQ F0 w0 b rb (m + 1) (.returned (.bool true)) w2 ∧ SDr w.heap.size rb x.p r.c w2 := fun W e w1 e2 w2 hW hp hq => by
    obtain ⟨t', r', h1, h2, _, hcc⟩ := hp.join hq
    have hn : w.heap.size ∉ t.foot b ++ r.foot rb := fun hk => (List.mem_append.1 hk).elim hbT hbR
    have hb2 := (hB.chg hW (by simp)).chg h1.chg hn
    have e2 := blk_cell h1.rf.mem 2 rfl
    rw [hcc] at e2
    exact ⟨⟨rfl, t', r', (hT0.chg0 hW).comp h1 hF, h2⟩, hb2.c34, e2, hb2.lt, blk_lt h1.rf.mem⟩
  have N1 := Lib.hid hno
  have Q0 := Lib.hid q0
  have Q1 := Lib.hid q1
  have Q2 := Lib.hid q2
  have Q3 := Lib.hid q3
  have S0 := Lib.hid hS0
  clear hB hx hw hT0 hc0 h hr q0 q1 q2 q3 hno hS0 hF
  generalize dDropE r.d.ns x.p = E at *
  have hee : (E == E) = true := by simp
  generalize hbx : w.alloc (.cells x.cells 41) = wb at *
  have hpk2 : ∀ W, Chg [] wb W → Calls Tryz.prog 97 #[.int .u64 r.n, .int .u64 x.p] W (Res W [] (.bool B)) := fun W _ => hpk W
  have HX := Lib.hid hbx
  go_enter Tryz.func17, Tryz.ntmps17
  go_upto_region 35 with (fail)
  clear hbx
  refine wp_region_quiet_below (by kernel_rfl) (by kernel_rfl) ?_
  repeat (any_goals (go_big_quiet_step ((go_at_call 97; exact rg_of hpk2 _ _))))
  refine wpQuiet_nil ?_
  rintro w7 ⟨r7, rfl⟩
  have hC7 : Chg [] wb (Go.Sort.grow (redrawn wb r7.d) r7.os) := chg_regrown _ _ _
  generalize Go.Sort.grow (redrawn wb r7.d) r7.os = w7 at *
  cases B
  · have hC8 : Chg [] wb w7.drew := hC7.drew
    have hS := S0.out _ hC8
    go_upto_region 37 with (fail)
    clear k0 k34 kn hpk hpk2
    refine wp_region_noPanic ?_
    refine wp_region_held_drew (S := (fun W => SDr w.heap.size rb x.p r.c W)) (by kernel_rfl) (by exact hS) (fun hHeld => ?_)
    have hHeldX := hHeld
    refine wpAnyH_take (i := 0) (v := ?_) rfl (by kernel_rfl) (by kernel_rfl) (by kernel_rfl) (fun _ _ _ h => h) (Or.inl ⟨by rfl, ?_⟩) (by first | assumption | exact hHeldX) ?_
    rotate_left
    · intro w hSw
      (try dsimp only at hSw)
      go_simp
      try with_reducible rfl
    try simp only [List.getElem_toArray, List.getElem_cons_zero, List.getElem_cons_succ, Act.put, List.setIfInBounds_toArray, List.set_cons_zero, List.set_cons_succ]
    refine wpAnyH_take (i := 2) (v := ?_) rfl (by kernel_rfl) (by kernel_rfl) (by kernel_rfl) (fun _ _ _ h => h) (Or.inl ⟨by rfl, ?_⟩) (by first | assumption | exact hHeldX) ?_
    rotate_left
    · intro w hSw
      (try dsimp only at hSw)
      go_simp
      try with_reducible rfl
    try simp only [List.getElem_toArray, List.getElem_cons_zero, List.getElem_cons_succ, Act.put, List.setIfInBounds_toArray, List.set_cons_zero, List.set_cons_succ]
    refine wpAnyH_take (i := 3) (v := ?_) rfl (by kernel_rfl) (by kernel_rfl) (by kernel_rfl) (fun _ _ _ h => h) (Or.inl ⟨by rfl, ?_⟩) (by first | assumption | exact hHeldX) ?_
    rotate_left
    · intro w hSw
      (try dsimp only at hSw)
      obtain ⟨hSw1, hSw2, hSw3, hSw4⟩ := hSw
      go_simp
      try with_reducible rfl
    try simp only [List.getElem_toArray, List.getElem_cons_zero, List.getElem_cons_succ, Act.put, List.setIfInBounds_toArray, List.set_cons_zero, List.set_cons_succ]
    refine wpAnyH_take (i := 5) (v := ?_) rfl (by kernel_rfl) (by kernel_rfl) (by kernel_rfl) (fun _ _ _ h => h) (Or.inl ⟨by rfl, ?_⟩) (by first | assumption | exact hHeldX) ?_
    rotate_left
    · intro w hSw
      (try dsimp only at hSw)
      go_simp
      try with_reducible rfl
    try simp only [List.getElem_toArray, List.getElem_cons_zero, List.getElem_cons_succ, Act.put, List.setIfInBounds_toArray, List.set_cons_zero, List.set_cons_succ]
    refine wpAnyH_take (i := 6) (v := ?_) rfl (by kernel_rfl) (by kernel_rfl) (by kernel_rfl) (fun _ _ _ h => h) (Or.inl ⟨by rfl, ?_⟩) (by first | assumption | exact hHeldX) ?_
    rotate_left
    · intro w hSw
      (try dsimp only at hSw)
      go_simp
      try with_reducible rfl
    try simp only [List.getElem_toArray, List.getElem_cons_zero, List.getElem_cons_succ, Act.put, List.setIfInBounds_toArray, List.set_cons_zero, List.set_cons_succ]
    refine wpAnyH_take (i := 7) (v := ?_) rfl (by kernel_rfl) (by kernel_rfl) (by kernel_rfl) (fun _ _ _ h => h) (Or.inl ⟨by rfl, ?_⟩) (by first | assumption | exact hHeldX) ?_
    rotate_left
    · intro w hSw
      (try dsimp only at hSw)
      go_simp
      try with_reducible rfl
    try simp only [List.getElem_toArray, List.getElem_cons_zero, List.getElem_cons_succ, Act.put, List.setIfInBounds_toArray, List.set_cons_zero, List.set_cons_succ]
    refine wpAnyH_take (i := 8) (v := ?_) rfl (by kernel_rfl) (by kernel_rfl) (by kernel_rfl) (fun _ _ _ h => h) (Or.inl ⟨by rfl, ?_⟩) (by first | assumption | exact hHeldX) ?_
    rotate_left
    · intro w hSw
      (try dsimp only at hSw)
      obtain ⟨hSw1, hSw2, hSw3, hSw4⟩ := hSw
      go_simp
      try with_reducible rfl
    try simp only [List.getElem_toArray, List.getElem_cons_zero, List.getElem_cons_succ, Act.put, List.setIfInBounds_toArray, List.set_cons_zero, List.set_cons_succ]
    refine wpAnyH_take (i := 9) (v := ?_) rfl (by kernel_rfl) (by kernel_rfl) (by kernel_rfl) (fun _ _ _ h => h) (Or.inl ⟨by rfl, ?_⟩) (by first | assumption | exact hHeldX) ?_
    rotate_left
    · intro w hSw
      (try dsimp only at hSw)
      go_simp
      try with_reducible rfl
    try simp only [List.getElem_toArray, List.getElem_cons_zero, List.getElem_cons_succ, Act.put, List.setIfInBounds_toArray, List.set_cons_zero, List.set_cons_succ]
    refine wpAnyH_take (i := 10) (v := ?_) rfl (by kernel_rfl) (by kernel_rfl) (by kernel_rfl) (fun _ _ _ h => h) (Or.inl ⟨by rfl, ?_⟩) (by first | assumption | exact hHeldX) ?_
    rotate_left
    · intro w hSw
      (try dsimp only at hSw)
      obtain ⟨hSw1, hSw2, hSw3, hSw4⟩ := hSw
      go_simp
      try with_reducible rfl
    try simp only [List.getElem_toArray, List.getElem_cons_zero, List.getElem_cons_succ, Act.put, List.setIfInBounds_toArray, List.set_cons_zero, List.set_cons_succ]
    refine wpAnyH_ready (rs := [1]) (by kernel_rfl) (by simp) ?_
    refine AllReadyH.cons rfl (fun K hK => ?_) ?_
    go_simp
    go_at_call 16; refine (Q0.out _ hC8).mono ?_; rintro e w8 ⟨rfl, hc1⟩
    go_wp2_with fail
    refine hK.out _ _ (by exact S0.out _ (hC8.nil_trans hc1)) (fun hHeld => ?_)
    clear hK K
    try simp only [List.getElem_toArray, List.getElem_cons_zero, List.getElem_cons_succ, Act.put, List.setIfInBounds_toArray, List.set_cons_zero, List.set_cons_succ]
    rotate_left
    exact AllReadyH.nil
    have hC9 := hC8.nil_trans hc1
    refine wpAnyH_ready (rs := [4]) (by kernel_rfl) (by simp) ?_
    refine AllReadyH.cons rfl (fun K hK => ?_) ?_
    go_simp
    go_at_call 23; refine (Q1.out _ hC9).mono ?_; intro e w9 hp; have he := hp.1; subst he
    go_wp2_with fail
    refine hK.out _ _ (by exact (Q2.out _ _ _ hC9 hp).2) (fun hHeld => ?_)
    clear hK K
    try simp only [List.getElem_toArray, List.getElem_cons_zero, List.getElem_cons_succ, Act.put, List.setIfInBounds_toArray, List.set_cons_zero, List.set_cons_succ]
    rotate_left
    exact AllReadyH.nil
    refine wpAnyH_ready (rs := [11]) (by kernel_rfl) (by simp) ?_
    refine AllReadyH.cons rfl (fun K hK => ?_) ?_
    go_simp
    go_at_call 24; refine (Q2.out _ _ _ hC9 hp).1.mono ?_; intro e2 w10 hq; have he2 := hq.1; subst he2
    go_wp2_with fail
    refine hK.out _ _ (by exact (Q3.out _ _ _ _ _ hC9 hp hq).2) (fun hHeld => ?_)
    clear hK K
    try simp only [List.getElem_toArray, List.getElem_cons_zero, List.getElem_cons_succ, Act.put, List.setIfInBounds_toArray, List.set_cons_zero, List.set_cons_succ]
    rotate_left
    exact AllReadyH.nil
    refine wpAnyH_take (i := 12) (v := ?_) rfl (by kernel_rfl) (by kernel_rfl) (by kernel_rfl) (fun _ _ _ h => h) (Or.inl ⟨by rfl, ?_⟩) (by first | assumption | exact hHeldX) ?_
    rotate_left
    · intro w hSw
      (try dsimp only at hSw)
      go_simp
      try with_reducible rfl
    try simp only [List.getElem_toArray, List.getElem_cons_zero, List.getElem_cons_succ, Act.put, List.setIfInBounds_toArray, List.set_cons_zero, List.set_cons_succ]
    refine wpAnyH_take (i := 13) (v := ?_) rfl (by kernel_rfl) (by kernel_rfl) (by kernel_rfl) (fun _ _ _ h => h) (Or.inl ⟨by rfl, ?_⟩) (by first | assumption | exact hHeldX) ?_
    rotate_left
    · intro w hSw
      (try dsimp only at hSw)
      go_simp
      try with_reducible rfl
    try simp only [List.getElem_toArray, List.getElem_cons_zero, List.getElem_cons_succ, Act.put, List.setIfInBounds_toArray, List.set_cons_zero, List.set_cons_succ]
    refine wpAnyH_done (by kernel_rfl) ?_ _
    refine NoPanic.normal ?_
    go_wp2
    go_ret
    exact (Q3.out _ _ _ _ _ hC9 hp hq).1
  · go_wp2
    go_ret
    exact N1.out _ hC7
/-- The act's number and hash and the document's tree's store, wherever. -/
def SBk (bx rb p c : Nat) (xl : List Value) (W : World) : Prop := W.rangeAt bx 1 xl ∧ SDr bx rb p c W
set_option maxRecDepth 100000 in
set_option maxHeartbeats 8000000 in
theorem actM_back (h : Two F0 w0 w b rb t r) (hr : Rel t r m) (hm : m ≤ 1000) (hx : x.ok w) (hw : x.what = 8) : Calls Tryz.prog 17 #[.pointer (some ⟨b, 0, none⟩), .pointer (some ⟨rb, 0, none⟩), .agg x.cells] w (ActQ F0 w0 b rb (m + 1)) := by
  have hp64 := hx.p
  have hs1 := hx.hash.1
  have hs2 := hx.hash.one
  have hcs := hx.size
  have hco := hx.one
  have hc0 : Chg [] w (w.alloc (.cells x.cells 41)) := (Chg.refl _ _).alloc _
  have hB := AMB.new (w := w) hx.hash
  have hT0 := h.chg0 hc0
  have k0 := hB.c0
  rw [hw] at k0
  have hbl := hB.lt
  have hbT : w.heap.size ∉ t.foot b := fun hk => by have := h.tr.lt _ hk; omega
  have hbR : w.heap.size ∉ r.foot rb := fun hk => by have := h.rf.lt _ hk; omega
  have hxh := hx.hash
  have hsz := hr.size
  have q0 := fun (W : World) (hc : Chg [] (w.alloc (.cells x.cells 41)) W) => tstore_calls W b t (hT0.tr.chg0 hc)
  have hrg : ∀ W, AMB W w.heap.size x → W.rangeAt w.heap.size 1 x.h.toList := fun W hb => rng?_range hb.ch
  have hS0 : ∀ W, Chg [] (w.alloc (.cells x.cells 41)) W → SBk w.heap.size rb x.p r.c x.h.toList W := fun W hc => ⟨hrg _ (hB.chg hc (by simp)), (hB.chg hc (by simp)).c34, blk_cell (hT0.rf.chg0 hc).mem 2 rfl, (hB.chg hc (by simp)).lt, blk_lt (hT0.rf.chg0 hc).mem⟩
  have hF : ∀ k ∈ t.foot b ++ r.foot rb, k ∈ F0 ∨ w0.heap.size ≤ k := fun k hk => (List.mem_append.1 hk).elim (h.ownT k) (h.ownR k)
  have q1 := fun (W : World) (hc : Chg [] (w.alloc (.cells x.cells 41)) W) => two_back (hT0.chg0 hc).here hr (by omega) hp64 hxh
  have q2 : ∀ W e w1, Chg [] (w.alloc (.cells x.cells 41)) W → Side1 (t.foot b ++ r.foot rb) W b rb r (m + 1) (dBack r.d.ns x.p x.h) t (.int .i64 (dBackE r.d.ns x.p)) e w1 → Calls Tryz.prog 99 #[.pointer (some ⟨r.c, 0, none⟩), .int .u64 x.p, .agg x.h] w1 (DP w1 r.c r.d (dBack r.d.ns x.p x.h) (.int .i64 (dBackE r.d.ns x.p))) ∧ SBk w.heap.size rb x.p r.c x.h.toList w1 := fun W e w1 hW hp => by
    obtain ⟨_, s', h1, h2⟩ := hp
    have hn : w.heap.size ∉ t.foot b ++ r.foot rb := fun hk => (List.mem_append.1 hk).elim hbT hbR
    have hb2 := (hB.chg hW (by simp)).chg h1.chg hn
    exact ⟨rback_calls r.c x.p r.d x.h w1 h1.rf.st hxh, hrg _ hb2, hb2.c34, blk_cell h1.rf.mem 2 rfl, hb2.lt, blk_lt h1.rf.mem⟩
  have q3 : ∀ W e w1 e2 w2, Chg [] (w.alloc (.cells x.cells 41)) W → Side1 (t.foot b ++ r.foot rb) W b rb r (m + 1) (dBack r.d.ns x.p x.h) t (.int .i64 (dBackE r.d.ns x.p)) e w1 → DP w1 r.c r.d (dBack r.d.ns x.p x.h) (.int .i64 (dBackE r.d.ns x.p)) e2 w2 →
      ActQ F0 w0 b rb (m + 1) (.returned (.bool true)) w2 ∧ SBk w.heap.size rb x.p r.c x.h.toList w2 := fun W e w1 e2 w2 hW hp hq => by
    obtain ⟨t', r', h1, h2, _, hcc⟩ := hp.join hq
    have hn : w.heap.size ∉ t.foot b ++ r.foot rb := fun hk => (List.mem_append.1 hk).elim hbT hbR
    have hb2 := (hB.chg hW (by simp)).chg h1.chg hn
    have e2 := blk_cell h1.rf.mem 2 rfl
    rw [hcc] at e2
    exact ⟨⟨rfl, t', r', (hT0.chg0 hW).comp h1 hF, h2⟩, hrg _ hb2, hb2.c34, e2, hb2.lt, blk_lt h1.rf.mem⟩
  have Q0 := Lib.hid q0
  have Q1 := Lib.hid q1
  have Q2 := Lib.hid q2
  have Q3 := Lib.hid q3
  have S0 := Lib.hid hS0
  clear hB hx hw hT0 hc0 h hr q0 q1 q2 q3 hS0 hF hrg hxh
  generalize dBackE r.d.ns x.p = E at *
  have hee : (E == E) = true := by simp
  generalize x.h = H at *
  obtain ⟨xl, rfl⟩ : ∃ xl : List Value, H = xl.toArray := ⟨H.toList, Array.toArray_toList.symm⟩
  have hu1 : Tryz.prog.underlying 36 = _ := u_Hash
  have hi1 : (Tryz.prog.info? 36).map (·.size) = some xl.length := by rw [show xl.length = 32 from by simpa using hs1]; kernel_rfl
  generalize hbx : w.alloc (.cells x.cells 41) = wb at *
  have HX := Lib.hid hbx
  have hC8 : Chg [] wb wb.drew := (Chg.refl _ _).drew
  have hS := S0.out _ hC8
  go_enter Tryz.func17, Tryz.ntmps17
  go_upto_region 39 with (fail)
  clear k0 hbx hcs hco
  refine wp_region_noPanic ?_
  refine wp_region_held_drew (S := (fun W => SBk w.heap.size rb x.p r.c xl W)) (by kernel_rfl) (by exact hS) (fun hHeld => ?_)
  have hHeldX := hHeld
  refine wpAnyH_take (i := 0) (v := ?_) rfl (by kernel_rfl) (by kernel_rfl) (by kernel_rfl) (fun _ _ _ h => h) (Or.inl ⟨by rfl, ?_⟩) (by first | assumption | exact hHeldX) ?_
  rotate_left
  · intro w hSw
    (try dsimp only at hSw)
    go_simp
    try with_reducible rfl
  try simp only [List.getElem_toArray, List.getElem_cons_zero, List.getElem_cons_succ, Act.put, List.setIfInBounds_toArray, List.set_cons_zero, List.set_cons_succ]
  refine wpAnyH_take (i := 2) (v := ?_) rfl (by kernel_rfl) (by kernel_rfl) (by kernel_rfl) (fun _ _ _ h => h) (Or.inl ⟨by rfl, ?_⟩) (by first | assumption | exact hHeldX) ?_
  rotate_left
  · intro w hSw
    (try dsimp only at hSw)
    go_simp
    try with_reducible rfl
  try simp only [List.getElem_toArray, List.getElem_cons_zero, List.getElem_cons_succ, Act.put, List.setIfInBounds_toArray, List.set_cons_zero, List.set_cons_succ]
  refine wpAnyH_take (i := 3) (v := ?_) rfl (by kernel_rfl) (by kernel_rfl) (by kernel_rfl) (fun _ _ _ h => h) (Or.inl ⟨by rfl, ?_⟩) (by first | assumption | exact hHeldX) ?_
  rotate_left
  · intro w hSw
    (try dsimp only at hSw)
    obtain ⟨hSw0, hSw1, hSw2, hSw3, hSw4⟩ := hSw
    go_simp
    try with_reducible rfl
  try simp only [List.getElem_toArray, List.getElem_cons_zero, List.getElem_cons_succ, Act.put, List.setIfInBounds_toArray, List.set_cons_zero, List.set_cons_succ]
  refine wpAnyH_take (i := 4) (v := ?_) rfl (by kernel_rfl) (by kernel_rfl) (by kernel_rfl) (fun _ _ _ h => h) (Or.inl ⟨by rfl, ?_⟩) (by first | assumption | exact hHeldX) ?_
  rotate_left
  · intro w hSw
    (try dsimp only at hSw)
    go_simp
    try with_reducible rfl
  try simp only [List.getElem_toArray, List.getElem_cons_zero, List.getElem_cons_succ, Act.put, List.setIfInBounds_toArray, List.set_cons_zero, List.set_cons_succ]
  refine' wpAnyH_take (i := 5) (v := _) rfl (by kernel_rfl) (by kernel_rfl) (by kernel_rfl) (fun _ _ _ h => h) (yieldsIf_load_mid (by rfl) _ _ rfl _ _ rfl _ _ ?hSz5 ?huz5 ?hdz5 ?hiz5) (by first | assumption | exact hHeldX) ?restz5
  case hSz5 => (intro w hSw; (try dsimp only at hSw); obtain ⟨_, _⟩ := hSw; assumption)
  case huz5 => assumption
  case hdz5 => rfl
  case hiz5 => assumption
  case' restz5 => skip
  try simp only [List.getElem_toArray, List.getElem_cons_zero, List.getElem_cons_succ, Act.put, List.setIfInBounds_toArray, List.set_cons_zero, List.set_cons_succ]
  refine wpAnyH_take (i := 7) (v := ?_) rfl (by kernel_rfl) (by kernel_rfl) (by kernel_rfl) (fun _ _ _ h => h) (Or.inl ⟨by rfl, ?_⟩) (by first | assumption | exact hHeldX) ?_
  rotate_left
  · intro w hSw
    (try dsimp only at hSw)
    go_simp
    try with_reducible rfl
  try simp only [List.getElem_toArray, List.getElem_cons_zero, List.getElem_cons_succ, Act.put, List.setIfInBounds_toArray, List.set_cons_zero, List.set_cons_succ]
  refine wpAnyH_take (i := 8) (v := ?_) rfl (by kernel_rfl) (by kernel_rfl) (by kernel_rfl) (fun _ _ _ h => h) (Or.inl ⟨by rfl, ?_⟩) (by first | assumption | exact hHeldX) ?_
  rotate_left
  · intro w hSw
    (try dsimp only at hSw)
    go_simp
    try with_reducible rfl
  try simp only [List.getElem_toArray, List.getElem_cons_zero, List.getElem_cons_succ, Act.put, List.setIfInBounds_toArray, List.set_cons_zero, List.set_cons_succ]
  refine wpAnyH_take (i := 9) (v := ?_) rfl (by kernel_rfl) (by kernel_rfl) (by kernel_rfl) (fun _ _ _ h => h) (Or.inl ⟨by rfl, ?_⟩) (by first | assumption | exact hHeldX) ?_
  rotate_left
  · intro w hSw
    (try dsimp only at hSw)
    go_simp
    try with_reducible rfl
  try simp only [List.getElem_toArray, List.getElem_cons_zero, List.getElem_cons_succ, Act.put, List.setIfInBounds_toArray, List.set_cons_zero, List.set_cons_succ]
  refine wpAnyH_take (i := 10) (v := ?_) rfl (by kernel_rfl) (by kernel_rfl) (by kernel_rfl) (fun _ _ _ h => h) (Or.inl ⟨by rfl, ?_⟩) (by first | assumption | exact hHeldX) ?_
  rotate_left
  · intro w hSw
    (try dsimp only at hSw)
    obtain ⟨hSw0, hSw1, hSw2, hSw3, hSw4⟩ := hSw
    go_simp
    try with_reducible rfl
  try simp only [List.getElem_toArray, List.getElem_cons_zero, List.getElem_cons_succ, Act.put, List.setIfInBounds_toArray, List.set_cons_zero, List.set_cons_succ]
  refine wpAnyH_take (i := 11) (v := ?_) rfl (by kernel_rfl) (by kernel_rfl) (by kernel_rfl) (fun _ _ _ h => h) (Or.inl ⟨by rfl, ?_⟩) (by first | assumption | exact hHeldX) ?_
  rotate_left
  · intro w hSw
    (try dsimp only at hSw)
    go_simp
    try with_reducible rfl
  try simp only [List.getElem_toArray, List.getElem_cons_zero, List.getElem_cons_succ, Act.put, List.setIfInBounds_toArray, List.set_cons_zero, List.set_cons_succ]
  refine wpAnyH_take (i := 12) (v := ?_) rfl (by kernel_rfl) (by kernel_rfl) (by kernel_rfl) (fun _ _ _ h => h) (Or.inl ⟨by rfl, ?_⟩) (by first | assumption | exact hHeldX) ?_
  rotate_left
  · intro w hSw
    (try dsimp only at hSw)
    obtain ⟨hSw0, hSw1, hSw2, hSw3, hSw4⟩ := hSw
    go_simp
    try with_reducible rfl
  try simp only [List.getElem_toArray, List.getElem_cons_zero, List.getElem_cons_succ, Act.put, List.setIfInBounds_toArray, List.set_cons_zero, List.set_cons_succ]
  refine wpAnyH_take (i := 13) (v := ?_) rfl (by kernel_rfl) (by kernel_rfl) (by kernel_rfl) (fun _ _ _ h => h) (Or.inl ⟨by rfl, ?_⟩) (by first | assumption | exact hHeldX) ?_
  rotate_left
  · intro w hSw
    (try dsimp only at hSw)
    go_simp
    try with_reducible rfl
  try simp only [List.getElem_toArray, List.getElem_cons_zero, List.getElem_cons_succ, Act.put, List.setIfInBounds_toArray, List.set_cons_zero, List.set_cons_succ]
  refine' wpAnyH_take (i := 14) (v := _) rfl (by kernel_rfl) (by kernel_rfl) (by kernel_rfl) (fun _ _ _ h => h) (yieldsIf_load_mid (by rfl) _ _ rfl _ _ rfl _ _ ?hSz14 ?huz14 ?hdz14 ?hiz14) (by first | assumption | exact hHeldX) ?restz14
  case hSz14 => (intro w hSw; (try dsimp only at hSw); obtain ⟨_, _⟩ := hSw; assumption)
  case huz14 => assumption
  case hdz14 => rfl
  case hiz14 => assumption
  case' restz14 => skip
  try simp only [List.getElem_toArray, List.getElem_cons_zero, List.getElem_cons_succ, Act.put, List.setIfInBounds_toArray, List.set_cons_zero, List.set_cons_succ]
  refine wpAnyH_ready (rs := [1]) (by kernel_rfl) (by simp) ?_
  refine AllReadyH.cons rfl (fun K hK => ?_) ?_
  go_simp
  go_at_call 16; refine (Q0.out _ hC8).mono ?_; rintro e w8 ⟨rfl, hc1⟩
  go_wp2_with fail
  refine hK.out _ _ (by exact S0.out _ (hC8.nil_trans hc1)) (fun hHeld => ?_)
  clear hK K
  try simp only [List.getElem_toArray, List.getElem_cons_zero, List.getElem_cons_succ, Act.put, List.setIfInBounds_toArray, List.set_cons_zero, List.set_cons_succ]
  rotate_left
  exact AllReadyH.nil
  have hC9 := hC8.nil_trans hc1
  refine wpAnyH_ready (rs := [6]) (by kernel_rfl) (by simp) ?_
  refine AllReadyH.cons rfl (fun K hK => ?_) ?_
  go_simp
  go_at_call 98; refine (Q1.out _ hC9).mono ?_; intro e w9 hp; have he := hp.1; subst he
  go_wp2_with fail
  refine hK.out _ _ (by exact (Q2.out _ _ _ hC9 hp).2) (fun hHeld => ?_)
  clear hK K
  try simp only [List.getElem_toArray, List.getElem_cons_zero, List.getElem_cons_succ, Act.put, List.setIfInBounds_toArray, List.set_cons_zero, List.set_cons_succ]
  rotate_left
  exact AllReadyH.nil
  refine wpAnyH_ready (rs := [15]) (by kernel_rfl) (by simp) ?_
  refine AllReadyH.cons rfl (fun K hK => ?_) ?_
  go_simp
  go_at_call 99; refine (Q2.out _ _ _ hC9 hp).1.mono ?_; intro e2 w10 hq; have he2 := hq.1; subst he2
  go_wp2_with fail
  refine hK.out _ _ (by exact (Q3.out _ _ _ _ _ hC9 hp hq).2) (fun hHeld => ?_)
  clear hK K
  try simp only [List.getElem_toArray, List.getElem_cons_zero, List.getElem_cons_succ, Act.put, List.setIfInBounds_toArray, List.set_cons_zero, List.set_cons_succ]
  rotate_left
  exact AllReadyH.nil
  refine wpAnyH_take (i := 16) (v := ?_) rfl (by kernel_rfl) (by kernel_rfl) (by kernel_rfl) (fun _ _ _ h => h) (Or.inl ⟨by rfl, ?_⟩) (by first | assumption | exact hHeldX) ?_
  rotate_left
  · intro w hSw
    (try dsimp only at hSw)
    go_simp
    try with_reducible rfl
  try simp only [List.getElem_toArray, List.getElem_cons_zero, List.getElem_cons_succ, Act.put, List.setIfInBounds_toArray, List.set_cons_zero, List.set_cons_succ]
  refine wpAnyH_take (i := 17) (v := ?_) rfl (by kernel_rfl) (by kernel_rfl) (by kernel_rfl) (fun _ _ _ h => h) (Or.inl ⟨by rfl, ?_⟩) (by first | assumption | exact hHeldX) ?_
  rotate_left
  · intro w hSw
    (try dsimp only at hSw)
    go_simp
    try with_reducible rfl
  try simp only [List.getElem_toArray, List.getElem_cons_zero, List.getElem_cons_succ, Act.put, List.setIfInBounds_toArray, List.set_cons_zero, List.set_cons_succ]
  refine wpAnyH_done (by kernel_rfl) ?_ _
  refine NoPanic.normal ?_
  go_wp2
  go_ret
  exact (Q3.out _ _ _ _ _ hC9 hp hq).1
end
end Go.Proofs.YtpklkefnmoaaaaaGreatDoor

/- Texts put into one by pack.py: MpO. -/
import Derived.Test.YtpklkefnmoaaaaaGreatDoorMpMp
/- MmrPlays' acts: install. -/
namespace Go.Proofs.YtpklkefnmoaaaaaGreatDoor
open Go.RowKit
set_option linter.unusedVariables false
set_option linter.unusedSimpArgs false
section
variable {F0 : List Nat} {w0 w : World} {b rb m : Nat} {t : TS} {r : RT} {x : AM}
theorem nodes_more (n : Nat) : ∀ k, k ≤ nodesN (n + k) - nodesN n
  | 0 => Nat.zero_le _
  | k + 1 => by
    have h1 := nodes_more n k
    have h2 := nodes_succ (n + k)
    have h3 := nodes_mono (show n ≤ n + k from by omega)
    rw [show n + (k + 1) = n + k + 1 from rfl]
    omega
theorem ins_both (h : Two F0 w0 w b rb t r) (hr : Rel t r m) (hm : m ≤ 1000) (nl : List (Array Value)) (hl : nl.length ≤ 1000) (hI : ∀ x ∈ nl, IsHash x) (k : Nat) (hk : k < 18446744073709551616) (a1 a2 : Option Addr) (cap1 cap2 : Nat) :
    ∃ (E : Int) (A B : World → Ending → World → Prop),
      (∀ W, Chg [] w W → (∀ W', Chg (t.foot b) W W' → HsIs W' (.slice a1 nl.length cap1) nl) → Calls Tryz.prog 94 #[.pointer (some ⟨b, 0, none⟩), .slice a1 nl.length cap1, .int .u64 k] W (A W)) ∧
      (∀ W e w1, Chg [] w W → A W e w1 → e = .returned (.int .i64 E) ∧ Chg (t.foot b ++ r.foot rb) W w1 ∧ ((∀ W', Chg (r.foot rb) w1 W' → HsIs W' (.slice a2 nl.length cap2) nl) → Calls Tryz.prog 95 #[.pointer (some ⟨rb, 0, none⟩), .slice a2 nl.length cap2, .int .u64 k] w1 (B w1))) ∧
      (∀ W e w1 e2 w2, Chg [] w W → A W e w1 → B w1 e2 w2 → e2 = .returned (.int .i64 E) ∧ ∃ t' r', Two (t.foot b ++ r.foot rb) W w2 b rb t' r' ∧ Rel t' r' (m + nl.length)) := by
  have hsz := hr.size
  have hal := hr.al
  have hn := hr.n
  have hln := hr.len
  have hfu := hr.full
  have hnl := nodes_le t.size
  by_cases hA : 4611686018427387904 - t.size < k
  · refine ⟨30, fun W => Res W [] (.int .i64 30), fun W => Res W [] (.int .i64 30), fun W hW _ => install_size W b t a1 _ cap1 k (h.tr.chg0 hW) (by omega) hA hk, fun W e w1 hW ⟨he, hc⟩ => ⟨he, hc.of_nil, fun _ => r6ins_size w1 rb r a2 _ cap2 k ((h.rf.chg0 hW).chg0 hc) (by omega) (by rw [hn]; exact hA) hk⟩, fun W e w1 e2 w2 hW ⟨he, hc⟩ ⟨he2, hc2⟩ => ⟨he2, t, r, ((h.chg0 hW).here.chg0 hc).chg0 hc2, hr.up (by omega)⟩⟩
  · by_cases hB : nl.length = nodesN (t.size + k) - nodesN t.size
    · have hkl : k ≤ nl.length := by rw [hB]; exact nodes_more _ _
      refine ⟨0, fun W => InsP W b t nl k, fun W => RInP W rb r nl k, fun W hW hv => install_calls W b t a1 cap1 k nl (h.tr.chg0 hW) hI hv (by omega) hB (by omega) (by omega) (by omega), fun W e w1 hW hp => ?_, fun W e w1 e2 w2 hW hp hq => ?_⟩
      · obtain ⟨he, t', q1, q2, q3, q4, q5, q6, q7, q8, q9, q10⟩ := hp
        have hT := (h.chg0 hW).here.movT q1 q9 q10
        exact ⟨he, hT.chg, fun hv => r6ins_calls w1 rb r a2 cap2 k nl hT.rf hI hv (by omega) (by rw [hn]; exact hB) (by omega) (by omega)⟩
      · have hb := (h.chg0 hW).here.ins hr hp (fun _ _ => hq) hkl hB
        obtain ⟨t', r', h1, h2, _⟩ := hb
        exact ⟨hq.1, t', r', h1, h2⟩
    · refine ⟨70, fun W => Res W [] (.int .i64 70), fun W => Res W [] (.int .i64 70), fun W hW _ => install_count W b t a1 _ cap1 k (h.tr.chg0 hW) (by omega) hB (by omega), fun W e w1 hW ⟨he, hc⟩ => ⟨he, hc.of_nil, fun _ => r6ins_count w1 rb r a2 _ cap2 k ((h.rf.chg0 hW).chg0 hc) (by omega) (by rw [hn]; exact hB) (by omega)⟩, fun W e w1 e2 w2 hW ⟨he, hc⟩ ⟨he2, hc2⟩ => ⟨he2, t, r, ((h.chg0 hW).here.chg0 hc).chg0 hc2, hr.up (by omega)⟩⟩
/-- A block of neither is written. -/
theorem Two.far {w1 : World} {F : List Nat} (h : Two F0 w0 w b rb t r) (hc : Chg F w w1) (hT : ∀ k ∈ F, k ∉ t.foot b) (hR : ∀ k ∈ F, k ∉ r.foot rb) (hF : ∀ k ∈ F, k ∈ F0 ∨ w0.heap.size ≤ k) : Two F0 w0 w1 b rb t r :=
  ⟨h.tr.chg hc (fun k hk hk2 => hT k hk2 hk), h.rf.chg hc (fun k hk hk2 => hR k hk2 hk), h.ap, h.chg.trans hc hF, h.ownT, h.ownR⟩
/-- The act's number and nodes, wherever. -/
def SIn (bx p : Nat) (na : Option Addr) (n nc : Nat) (W : World) : Prop := W.cell? ⟨bx, 34, none⟩ = some (.int .u64 p) ∧ W.cell? ⟨bx, 35, none⟩ = some (.slice na n nc) ∧ bx < W.heap.size
theorem AMB.sin {w : World} {bx : Nat} (h : AMB w bx x) : SIn bx x.p x.na x.nl.length x.nc w := ⟨h.c34, h.c35, h.lt⟩
set_option maxRecDepth 100000 in
set_option maxHeartbeats 8000000 in
theorem actM_install (h : Two [] w0 w b rb t r) (hr : Rel t r m) (hm : m ≤ 1000) (hx : x.ok w) (hx0 : x.ok w0) (hnl : x.nl.length ≤ 1000) (hw : x.what = 6) : Calls Tryz.prog 17 #[.pointer (some ⟨b, 0, none⟩), .pointer (some ⟨rb, 0, none⟩), .agg x.cells] w (ActQ [] w0 b rb (m + 1 + x.nl.length)) := by
  have hp64 := hx.p
  have hs1 := hx.hash.1
  have hs2 := hx.hash.one
  have hcs := hx.size
  have hco := hx.one
  have hc0 : Chg [] w (w.alloc (.cells x.cells 41)) := (Chg.refl _ _).alloc _
  have hB := AMB.new (w := w) hx.hash
  have hT0 := h.chg0 hc0
  have k0 := hB.c0
  rw [hw] at k0
  have hbl := hB.lt
  have hbT : w.heap.size ∉ t.foot b := fun hk => by have := h.tr.lt _ hk; omega
  have hbR : w.heap.size ∉ r.foot rb := fun hk => by have := h.rf.lt _ hk; omega
  have hrow := row_calls (w.alloc (.cells x.cells 41)) _ x.nl (hx.nl.chg0 hc0) (by omega)
  have k34 := hB.c34
  have k35 := hB.c35
  have hsame := fun (W : World) (v : Value) (hC : Chg [] w0 W) (hv : HsIs W v x.nl) => same_calls W v _ x.nl hv (hx0.nl.chg0 hC) (by omega)
  have hlow : ∀ k ∈ t.foot b ++ r.foot rb, w0.heap.size ≤ k := fun k hk => (List.mem_append.1 hk).elim (fun q => by have := h.ownT k q; simpa using this) (fun q => by have := h.ownR k q; simpa using this)
  have hbn : w.heap.size ∉ t.foot b ++ r.foot rb := fun hk => (List.mem_append.1 hk).elim hbT hbR
  have hbox := fun (W : World) (hc : Chg (t.foot b ++ r.foot rb) (w.alloc (.cells x.cells 41)) W) => (hB.chg hc hbn).sin
  have hfeet : ∀ k ∈ t.foot b ++ r.foot rb, k < w.heap.size := fun k hk => (List.mem_append.1 hk).elim (h.tr.lt k) (h.rf.lt k)
  have hins := fun g cap => ins_both hT0 hr hm x.nl hnl hx.nl.1 x.p hp64 (some ⟨g, 0, none⟩) x.na cap x.nc
  have hwc := h.chg
  have hnr : ∀ W, Chg [] w0 W → HsIs W (.slice x.na x.nl.length x.nc) x.nl := fun W hC => hx0.nl.chg0 hC
  have HR := Lib.hid hrow
  have HB := Lib.hid hbox
  have HS := Lib.hid hsame
  have HI := Lib.hid hins
  have HNR := Lib.hid hnr
  have HT0 := Lib.hid hT0
  have HREL := Lib.hid hr
  clear hrow hbox hsame hins hnr hT0 hr hB hx hx0 h hw
  generalize x.nl = nl at *
  obtain ⟨n, hn⟩ : ∃ n, nl.length = n := ⟨_, rfl⟩
  have HNN := Lib.hid hn
  rw [hn] at k35 hnl HR HI HNR HB HS ⊢
  clear hn
  generalize hbx : w.alloc (.cells x.cells 41) = wb at *
  have HX := Lib.hid hbx
  go_enter Tryz.func17, Tryz.ntmps17
  go_wp2_with fail
  go_at_call 93
  refine HR.out.mono ?_
  rintro e w1 ⟨g, cap, rfl, hcap, hgl, hO1, hO2, hc1⟩
  rw [HNN.out] at hcap hO1 hO2 ⊢
  clear hbx HR
  obtain ⟨E, A, B, hA1, hA2, hA3⟩ := HI.out g cap
  have hE : (E != E) = false := by simp
  have hwc1 : Chg [] w0 w1 := hwc.nil_trans (hc0.nil_trans hc1)
  have hgT : g ∉ t.foot b ++ r.foot rb := fun hk => by have := hfeet g hk; omega
  have hrowHs : ∀ W W', Chg [] w1 W → Chg (t.foot b ++ r.foot rb) W W' → HsIs W' (.slice (some ⟨g, 0, none⟩) n cap) nl ∧ HOwn W' wb.heap.size (.slice (some ⟨g, 0, none⟩) n cap) nl ∧ HOwn W' wb.heap.size (.slice (some ⟨g, 0, none⟩) (n + 1) cap) (nl ++ [hash1 171]) := fun W W' hW hW' => by
    have e1 := (hO2.chg hW (by simp)).chg hW' (by intro k hk; rw [ob_some] at hk; simp at hk; subst hk; exact hgT)
    have e2 := (hO1.chg hW (by simp)).chg hW' (by intro k hk; rw [ob_some] at hk; simp at hk; subst hk; exact hgT)
    exact ⟨e1.hs, e1, e2⟩
  have hout : ∀ W W', Chg [] w1 W → Chg (t.foot b ++ r.foot rb) W W' → Chg [] w0 W' := fun W W' hW hW' => (hwc1.nil_trans hW).trans hW' (fun k hk => .inr (hlow k hk))
  have hC8 : Chg [] w1 w1.drew := (Chg.refl _ _).drew
  have hC9 : Chg [] wb w1.drew := hc1.nil_trans hC8
  have r1 := hA1 w1.drew hC9 (fun W' hW' => (hrowHs _ _ hC8 (hW'.mono (fun k hk _ => List.mem_append_left _ hk))).1)
  have r2 : ∀ e w2, A w1.drew e w2 → e = .returned (.int .i64 E) ∧ Calls Tryz.prog 95 #[.pointer (some ⟨rb, 0, none⟩), .slice x.na n x.nc, .int .u64 x.p] w2 (B w2) ∧ SIn w.heap.size x.p x.na n x.nc w2 := fun e w2 hp => by
    obtain ⟨e1, e2, e3⟩ := hA2 _ _ _ hC9 hp
    refine ⟨e1, e3 (fun W' hW' => HNR.out W' (hout w1.drew W' hC8 (e2.trans hW' (fun k hk => .inl (List.mem_append_right _ hk))))), ?_⟩
    exact HB.out w2 ((hC9.of_nil).trans e2 (fun k hk => .inl hk))
  have r3 : ∀ e w2 e2 w3, A w1.drew e w2 → B w2 e2 w3 → e2 = .returned (.int .i64 E) ∧ SIn w.heap.size x.p x.na n x.nc w3 ∧ ∃ t' r', Two (t.foot b ++ r.foot rb) w1.drew w3 b rb t' r' ∧ Rel t' r' (m + n) := fun e w2 e2 w3 hp hq => by
    obtain ⟨e1, t', r', h1, h2⟩ := hA3 _ _ _ _ _ hC9 hp hq
    exact ⟨e1, HB.out w3 ((hC9.of_nil).trans h1.chg (fun k hk => .inl hk)), t', r', h1, h2⟩
  have s0 : SIn w.heap.size x.p x.na n x.nc w1.drew := HB.out _ hC9.of_nil
  have R1 := Lib.hid r1
  have R2 := Lib.hid r2
  have R3 := Lib.hid r3
  have HRH := Lib.hid hrowHs
  have HOUT := Lib.hid hout
  have hO2b := hO2.chg hC8 (by simp)
  clear r1 r2 r3 hrowHs hout hA1 hA2 hA3 HI hO1 hO2 HNR
  go_upto_region 31 with (fail)
  clear k0 k34 k35 hcs hco
  refine wp_region_noPanic ?_
  refine wp_region_held_drew (S := (fun W => SIn w.heap.size x.p x.na n x.nc W)) (by kernel_rfl) (by exact s0) (fun hHeld => ?_)
  have hHeldX := hHeld
  refine wpAnyH_take (i := 0) (v := ?_) rfl (by kernel_rfl) (by kernel_rfl) (by kernel_rfl) (fun _ _ _ h => h) (Or.inl ⟨by rfl, ?_⟩) (by first | assumption | exact hHeldX) ?_
  rotate_left
  · intro w hSw
    (try dsimp only at hSw)
    go_simp
    try with_reducible rfl
  try simp only [List.getElem_toArray, List.getElem_cons_zero, List.getElem_cons_succ, Act.put, List.setIfInBounds_toArray, List.set_cons_zero, List.set_cons_succ]
  refine wpAnyH_take (i := 1) (v := ?_) rfl (by kernel_rfl) (by kernel_rfl) (by kernel_rfl) (fun _ _ _ h => h) (Or.inl ⟨by rfl, ?_⟩) (by first | assumption | exact hHeldX) ?_
  rotate_left
  · intro w hSw
    (try dsimp only at hSw)
    go_simp
    try with_reducible rfl
  try simp only [List.getElem_toArray, List.getElem_cons_zero, List.getElem_cons_succ, Act.put, List.setIfInBounds_toArray, List.set_cons_zero, List.set_cons_succ]
  refine wpAnyH_take (i := 2) (v := ?_) rfl (by kernel_rfl) (by kernel_rfl) (by kernel_rfl) (fun _ _ _ h => h) (Or.inl ⟨by rfl, ?_⟩) (by first | assumption | exact hHeldX) ?_
  rotate_left
  · intro w hSw
    (try dsimp only at hSw)
    go_simp
    try with_reducible rfl
  try simp only [List.getElem_toArray, List.getElem_cons_zero, List.getElem_cons_succ, Act.put, List.setIfInBounds_toArray, List.set_cons_zero, List.set_cons_succ]
  refine wpAnyH_take (i := 3) (v := ?_) rfl (by kernel_rfl) (by kernel_rfl) (by kernel_rfl) (fun _ _ _ h => h) (Or.inl ⟨by rfl, ?_⟩) (by first | assumption | exact hHeldX) ?_
  rotate_left
  · intro w hSw
    (try dsimp only at hSw)
    obtain ⟨hSw1, hSw2, hSw3⟩ := hSw
    go_simp
    try with_reducible rfl
  try simp only [List.getElem_toArray, List.getElem_cons_zero, List.getElem_cons_succ, Act.put, List.setIfInBounds_toArray, List.set_cons_zero, List.set_cons_succ]
  refine wpAnyH_take (i := 5) (v := ?_) rfl (by kernel_rfl) (by kernel_rfl) (by kernel_rfl) (fun _ _ _ h => h) (Or.inl ⟨by rfl, ?_⟩) (by first | assumption | exact hHeldX) ?_
  rotate_left
  · intro w hSw
    (try dsimp only at hSw)
    go_simp
    try with_reducible rfl
  try simp only [List.getElem_toArray, List.getElem_cons_zero, List.getElem_cons_succ, Act.put, List.setIfInBounds_toArray, List.set_cons_zero, List.set_cons_succ]
  refine wpAnyH_take (i := 6) (v := ?_) rfl (by kernel_rfl) (by kernel_rfl) (by kernel_rfl) (fun _ _ _ h => h) (Or.inl ⟨by rfl, ?_⟩) (by first | assumption | exact hHeldX) ?_
  rotate_left
  · intro w hSw
    (try dsimp only at hSw)
    go_simp
    try with_reducible rfl
  try simp only [List.getElem_toArray, List.getElem_cons_zero, List.getElem_cons_succ, Act.put, List.setIfInBounds_toArray, List.set_cons_zero, List.set_cons_succ]
  refine wpAnyH_take (i := 7) (v := ?_) rfl (by kernel_rfl) (by kernel_rfl) (by kernel_rfl) (fun _ _ _ h => h) (Or.inl ⟨by rfl, ?_⟩) (by first | assumption | exact hHeldX) ?_
  rotate_left
  · intro w hSw
    (try dsimp only at hSw)
    obtain ⟨hSw1, hSw2, hSw3⟩ := hSw
    go_simp
    try with_reducible rfl
  try simp only [List.getElem_toArray, List.getElem_cons_zero, List.getElem_cons_succ, Act.put, List.setIfInBounds_toArray, List.set_cons_zero, List.set_cons_succ]
  refine wpAnyH_take (i := 8) (v := ?_) rfl (by kernel_rfl) (by kernel_rfl) (by kernel_rfl) (fun _ _ _ h => h) (Or.inl ⟨by rfl, ?_⟩) (by first | assumption | exact hHeldX) ?_
  rotate_left
  · intro w hSw
    (try dsimp only at hSw)
    go_simp
    try with_reducible rfl
  try simp only [List.getElem_toArray, List.getElem_cons_zero, List.getElem_cons_succ, Act.put, List.setIfInBounds_toArray, List.set_cons_zero, List.set_cons_succ]
  refine wpAnyH_take (i := 9) (v := ?_) rfl (by kernel_rfl) (by kernel_rfl) (by kernel_rfl) (fun _ _ _ h => h) (Or.inl ⟨by rfl, ?_⟩) (by first | assumption | exact hHeldX) ?_
  rotate_left
  · intro w hSw
    (try dsimp only at hSw)
    obtain ⟨hSw1, hSw2, hSw3⟩ := hSw
    go_simp
    try with_reducible rfl
  try simp only [List.getElem_toArray, List.getElem_cons_zero, List.getElem_cons_succ, Act.put, List.setIfInBounds_toArray, List.set_cons_zero, List.set_cons_succ]
  refine wpAnyH_ready (rs := [4]) (by kernel_rfl) (by simp) ?_
  refine AllReadyH.cons rfl (fun K hK => ?_) ?_
  go_simp
  go_at_call 94; refine R1.out.mono ?_; intro e w2 hp; have he := (R2.out _ _ hp).1; subst he
  go_wp2_with fail
  refine hK.out _ _ (by exact (R2.out _ _ hp).2.2) (fun hHeld => ?_)
  clear hK K
  try simp only [List.getElem_toArray, List.getElem_cons_zero, List.getElem_cons_succ, Act.put, List.setIfInBounds_toArray, List.set_cons_zero, List.set_cons_succ]
  rotate_left
  exact AllReadyH.nil
  refine wpAnyH_ready (rs := [10]) (by kernel_rfl) (by simp) ?_
  refine AllReadyH.cons rfl (fun K hK => ?_) ?_
  go_simp
  go_at_call 95; refine (R2.out _ _ hp).2.1.mono ?_; intro e2 w3 hq; have he2 := (R3.out _ _ _ _ hp hq).1; subst he2
  go_wp2_with fail
  refine hK.out _ _ (by exact (R3.out _ _ _ _ hp hq).2.1) (fun hHeld => ?_)
  clear hK K
  try simp only [List.getElem_toArray, List.getElem_cons_zero, List.getElem_cons_succ, Act.put, List.setIfInBounds_toArray, List.set_cons_zero, List.set_cons_succ]
  rotate_left
  exact AllReadyH.nil
  obtain ⟨_, hs3, t', r', hT3, hRel3⟩ := R3.out _ _ _ _ hp hq
  have hrh3 := HRH.out _ _ hC8 hT3.chg
  have ho3 := HOUT.out _ _ hC8 hT3.chg
  have u1 : ∀ W, Chg [] w3 W → Calls Tryz.prog 86 #[.slice (some ⟨g, 0, none⟩) n cap, .slice x.na n x.nc] W (Res W [] (.bool true)) := fun W hW => by
    exact HS.out W _ (ho3.nil_trans hW) (hrh3.1.chg0 hW)
  have u2 : ∀ W, Chg [] w3 W → Calls Tryz.prog 96 #[.slice (some ⟨g, 0, none⟩) n cap] W (Res W [] (.bool true)) := fun W hW => marked_calls W _ g cap n nl (hrh3.2.2.chg hW (by simp)) HNN.out.symm hcap (by omega)
  have s3 : ∀ W, Chg [] w3 W → SIn w.heap.size x.p x.na n x.nc W := fun W hW => HB.out W (((hC9.of_nil).trans hT3.chg (fun k hk => .inl hk)).nil_trans hW)
  refine wpAnyH_take (i := 11) (v := ?_) rfl (by kernel_rfl) (by kernel_rfl) (by kernel_rfl) (fun _ _ _ h => h) (Or.inl ⟨by rfl, ?_⟩) (by first | assumption | exact hHeldX) ?_
  rotate_left
  · intro w hSw
    (try dsimp only at hSw)
    go_simp
    try with_reducible rfl
  try simp only [List.getElem_toArray, List.getElem_cons_zero, List.getElem_cons_succ, Act.put, List.setIfInBounds_toArray, List.set_cons_zero, List.set_cons_succ]
  refine wpAnyH_take (i := 12) (v := ?_) rfl (by kernel_rfl) (by kernel_rfl) (by kernel_rfl) (fun _ _ _ h => h) (Or.inl ⟨by rfl, ?_⟩) (by first | assumption | exact hHeldX) ?_
  rotate_left
  · intro w hSw
    (try dsimp only at hSw)
    go_simp
    try with_reducible rfl
  try simp only [List.getElem_toArray, List.getElem_cons_zero, List.getElem_cons_succ, Act.put, List.setIfInBounds_toArray, List.set_cons_zero, List.set_cons_succ]
  refine wpAnyH_take (i := 13) (v := ?_) rfl (by kernel_rfl) (by kernel_rfl) (by kernel_rfl) (fun _ _ _ h => h) (Or.inl ⟨by rfl, ?_⟩) (by first | assumption | exact hHeldX) ?_
  rotate_left
  · intro w hSw
    (try dsimp only at hSw)
    go_simp
    try with_reducible rfl
  try simp only [List.getElem_toArray, List.getElem_cons_zero, List.getElem_cons_succ, Act.put, List.setIfInBounds_toArray, List.set_cons_zero, List.set_cons_succ]
  refine wpAnyH_take (i := 14) (v := ?_) rfl (by kernel_rfl) (by kernel_rfl) (by kernel_rfl) (fun _ _ _ h => h) (Or.inl ⟨by rfl, ?_⟩) (by first | assumption | exact hHeldX) ?_
  rotate_left
  · intro w hSw
    (try dsimp only at hSw)
    go_simp
    try with_reducible rfl
  try simp only [List.getElem_toArray, List.getElem_cons_zero, List.getElem_cons_succ, Act.put, List.setIfInBounds_toArray, List.set_cons_zero, List.set_cons_succ]
  refine wpAnyH_take (i := 15) (v := ?_) rfl (by kernel_rfl) (by kernel_rfl) (by kernel_rfl) (fun _ _ _ h => h) (Or.inl ⟨by rfl, ?_⟩) (by first | assumption | exact hHeldX) ?_
  rotate_left
  · intro w hSw
    (try dsimp only at hSw)
    obtain ⟨hSw1, hSw2, hSw3⟩ := hSw
    go_simp
    try with_reducible rfl
  try simp only [List.getElem_toArray, List.getElem_cons_zero, List.getElem_cons_succ, Act.put, List.setIfInBounds_toArray, List.set_cons_zero, List.set_cons_succ]
  refine wpAnyH_ready (rs := [16]) (by kernel_rfl) (by simp) ?_
  refine AllReadyH.cons rfl (fun K hK => ?_) ?_
  go_simp
  go_at_call 86; refine (u1 _ (Chg.refl _ _)).mono ?_; rintro e w4 ⟨rfl, hc4⟩
  go_wp2_with fail
  refine hK.out _ _ (by exact s3 _ hc4) (fun hHeld => ?_)
  clear hK K
  try simp only [List.getElem_toArray, List.getElem_cons_zero, List.getElem_cons_succ, Act.put, List.setIfInBounds_toArray, List.set_cons_zero, List.set_cons_succ]
  rotate_left
  exact AllReadyH.nil
  refine wpAnyH_take (i := 17) (v := ?_) rfl (by kernel_rfl) (by kernel_rfl) (by kernel_rfl) (fun _ _ _ h => h) (Or.inl ⟨by rfl, ?_⟩) (by first | assumption | exact hHeldX) ?_
  rotate_left
  · intro w hSw
    (try dsimp only at hSw)
    go_simp
    try with_reducible rfl
  try simp only [List.getElem_toArray, List.getElem_cons_zero, List.getElem_cons_succ, Act.put, List.setIfInBounds_toArray, List.set_cons_zero, List.set_cons_succ]
  refine wpAnyH_take (i := 18) (v := ?_) rfl (by kernel_rfl) (by kernel_rfl) (by kernel_rfl) (fun _ _ _ h => h) (Or.inl ⟨by rfl, ?_⟩) (by first | assumption | exact hHeldX) ?_
  rotate_left
  · intro w hSw
    (try dsimp only at hSw)
    go_simp
    try with_reducible rfl
  try simp only [List.getElem_toArray, List.getElem_cons_zero, List.getElem_cons_succ, Act.put, List.setIfInBounds_toArray, List.set_cons_zero, List.set_cons_succ]
  refine wpAnyH_take (i := 19) (v := ?_) rfl (by kernel_rfl) (by kernel_rfl) (by kernel_rfl) (fun _ _ _ h => h) (Or.inl ⟨by rfl, ?_⟩) (by first | assumption | exact hHeldX) ?_
  rotate_left
  · intro w hSw
    (try dsimp only at hSw)
    go_simp
    try with_reducible rfl
  try simp only [List.getElem_toArray, List.getElem_cons_zero, List.getElem_cons_succ, Act.put, List.setIfInBounds_toArray, List.set_cons_zero, List.set_cons_succ]
  refine wpAnyH_take (i := 20) (v := ?_) rfl (by kernel_rfl) (by kernel_rfl) (by kernel_rfl) (fun _ _ _ h => h) (Or.inl ⟨by rfl, ?_⟩) (by first | assumption | exact hHeldX) ?_
  rotate_left
  · intro w hSw
    (try dsimp only at hSw)
    go_simp
    try with_reducible rfl
  try simp only [List.getElem_toArray, List.getElem_cons_zero, List.getElem_cons_succ, Act.put, List.setIfInBounds_toArray, List.set_cons_zero, List.set_cons_succ]
  refine wpAnyH_ready (rs := [21]) (by kernel_rfl) (by simp) ?_
  refine AllReadyH.cons rfl (fun K hK => ?_) ?_
  go_simp
  go_at_call 96; refine (u2 _ hc4).mono ?_; rintro e w5 ⟨rfl, hc5⟩
  go_wp2_with fail
  refine hK.out _ _ (by exact s3 _ (hc4.nil_trans hc5)) (fun hHeld => ?_)
  clear hK K
  try simp only [List.getElem_toArray, List.getElem_cons_zero, List.getElem_cons_succ, Act.put, List.setIfInBounds_toArray, List.set_cons_zero, List.set_cons_succ]
  rotate_left
  exact AllReadyH.nil
  refine wpAnyH_take (i := 22) (v := ?_) rfl (by kernel_rfl) (by kernel_rfl) (by kernel_rfl) (fun _ _ _ h => h) (Or.inl ⟨by rfl, ?_⟩) (by first | assumption | exact hHeldX) ?_
  rotate_left
  · intro w hSw
    (try dsimp only at hSw)
    go_simp
    try with_reducible rfl
  try simp only [List.getElem_toArray, List.getElem_cons_zero, List.getElem_cons_succ, Act.put, List.setIfInBounds_toArray, List.set_cons_zero, List.set_cons_succ]
  refine wpAnyH_take (i := 23) (v := ?_) rfl (by kernel_rfl) (by kernel_rfl) (by kernel_rfl) (fun _ _ _ h => h) (Or.inl ⟨by rfl, ?_⟩) (by first | assumption | exact hHeldX) ?_
  rotate_left
  · intro w hSw
    (try dsimp only at hSw)
    go_simp
    try with_reducible rfl
  try simp only [List.getElem_toArray, List.getElem_cons_zero, List.getElem_cons_succ, Act.put, List.setIfInBounds_toArray, List.set_cons_zero, List.set_cons_succ]
  refine wpAnyH_done (by kernel_rfl) ?_ _
  refine NoPanic.normal ?_
  have hc35 := hc4.nil_trans hc5
  have hm5 := mark_calls w5 wb.heap.size _ nl (hrh3.2.1.chg hc35 (by simp)) (by rw [HNN.out]; omega) 5 (by omega)
  have hfin : ∀ W, Chg [g] w5 W → ActQ [] w0 b rb (m + 1 + n) (.returned (.bool true)) W := fun W hW => by
    have hT5 := hT3.chg0 hc35
    have hgl1 : g < w1.drew.heap.size := (own_lt hO2b.1 g (by simp [ob_some])).2
    have hgt : ∀ k ∈ [g], k ∉ t'.foot b := fun k hk hk2 => by
      simp at hk; subst hk
      rcases hT5.ownT k hk2 with q | q
      · exact hgT q
      · omega
    have hgr : ∀ k ∈ [g], k ∉ r'.foot rb := fun k hk hk2 => by
      simp at hk; subst hk
      rcases hT5.ownR k hk2 with q | q
      · exact hgT q
      · omega
    have hT0 : Two [] w0 w1.drew b rb t r := HT0.out.chg0 hC9
    have hT6 := hT0.comp hT5 (fun k hk => .inr (hlow k hk))
    refine ⟨rfl, t', r', hT6.far hW hgt hgr (fun k hk => .inr ?_), hRel3.up (by omega)⟩
    simp at hk
    have := hwc.size
    have := hc0.size
    omega
  have HF := Lib.hid hfin
  clear hfin hrh3 u1 u2 s3 hT3 hRel3
  go_wp2_with (go_at_call 87; refine hm5.mono ?_; rintro e w6 ⟨v6, rfl, hO6, hc6, hb6⟩)
  go_ret
  exact HF.out _ hc6
end
end Go.Proofs.YtpklkefnmoaaaaaGreatDoor

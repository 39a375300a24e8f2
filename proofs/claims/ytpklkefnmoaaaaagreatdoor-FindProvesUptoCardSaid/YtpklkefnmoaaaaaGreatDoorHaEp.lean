/- Texts put into one by pack.py: HaE. -/
import Derived.Deep.DeepCutAuto
import Derived.BigQuiet
import Derived.Deep.RegionHeld3
import Derived.Test.YtpklkefnmoaaaaaGreatDoorPkA
/- The hash: one step walked. -/
namespace Go.Proofs.YtpklkefnmoaaaaaGreatDoor
open Go.RowKit
set_option linter.unusedVariables false
set_option linter.unusedSimpArgs false

/-- A fact that no tactic looks into. -/
structure Shut (p : Prop) : Prop where
  out : p
/-- The constants lie where the program laid them. -/
structure HIs (w : World) : Prop where
  k : ∀ j, j < 64 → w.cell? ⟨2, j, none⟩ = some (.int .u32 (kTab.getD j 0))
  f : ∀ j, j < 32 → w.cell? ⟨0, j, none⟩ = some (.int .u8 (firstN.getD j 0))
theorem HIs.chg {w w' : World} {F : List Nat} (h : HIs w) (hc : Chg F w w') (h0 : 2 ∉ F) (h1 : 0 ∉ F) : HIs w' :=
  ⟨fun j hj => (hc.cell (World.block_lt_of_cell? _ _ (h.k j hj)) h0).trans (h.k j hj), fun j hj => (hc.cell (World.block_lt_of_cell? _ _ (h.f j hj)) h1).trans (h.f j hj)⟩
theorem HIs.chg0 {w w' : World} (h : HIs w) (hc : Chg [] w w') : HIs w' := h.chg hc (by simp) (by simp)

/-- What Big leaves. -/
def BigP (wr : World) (no x : Nat) (e : Ending) (w' : World) : Prop := ∃ g, e = .returned (.tuple #[.slice (some ⟨g, 0, none⟩) 4 4, .int .i64 0]) ∧ BigIs w' g 4 x 4 ∧ g ≠ no ∧ Chg [] wr w'
theorem one1_a8 (a b c d e f g h : Int) : one1 #[.int .u32 a, .int .u32 b, .int .u32 c, .int .u32 d, .int .u32 e, .int .u32 f, .int .u32 g, .int .u32 h] = true := by
  unfold one1
  rw [Array.all_eq_true_iff_forall_mem]
  intro v hv
  simp at hv
  rcases hv with rfl | rfl | rfl | rfl | rfl | rfl | rfl | rfl <;> rfl
attribute [local go_sem] bd_a8w one1_a8
set_option maxRecDepth 100000 in
set_option maxHeartbeats 80000000 in
theorem compress_calls (w : World) (wd : Int) (st blk : List Nat) (hst : st.length = 32) (hblk : blk.length = 64) (hs1 : ∀ x ∈ st, x < 256) (hb1 : ∀ x ∈ blk, x < 256) (hk : HIs w) :
    Calls Tryz.prog 236 #[.int .i64 wd, .agg (hV st), .agg (hV blk)] w fun e w' => e = .returned (.agg (hV (compressN wd st blk))) ∧ Chg [] w w' := by
  have hs2 := bytes_all st hs1
  have hb2 := bytes_all blk hb1
  have hI := CpIs.init w st blk
  obtain ⟨B, hB⟩ : ∃ B, B = w.heap.size := ⟨_, rfl⟩
  rw [← hB] at hI
  go_enter Tryz.func236, Tryz.ntmps236
  go_upto_region 2 with (fail)
  rw [← hB]
  have HB := Lib.hid hB
  clear hB
  generalize World.alloc _ (.cells zero_a64w 288) = w1 at *
  go_cut [29] from 29 to 29 (fun ii wx => ii = .int .i64 0 ∧ wx = w1)
  case first =>
    go_wp2
    go_meet
    exact ⟨rfl, rfl⟩
  case rest =>
  obtain ⟨rfl, hwe⟩ := hcut
  subst hwe
  go_step
  go_cut [] from 8 to 78 (fun wx => CpIs w wx B st blk (mW blk 64))
  case first =>
    go_upto_region 3 with (fail)
    go_loopg [29] 64 (fun g ii wx => ∃ t : Nat, t ≤ 64 ∧ g = 64 - t ∧ ii = .int .i64 t ∧ CpIs w wx B st blk (mW blk t ++ List.replicate (64 - t) 0))
    case atStart => exact ⟨0, by omega, by omega, rfl, hI⟩
    case round =>
      clear hI
      obtain ⟨t, ht, hgt, rfl, hC⟩ := hrel
      by_cases hlt : t < 64
      · have hlt' : t < 64 := hlt
        have hnx := hC.next hlt'
        have hlen := mW_length blk t
        have hsz := hC.sz
        by_cases h16 : t < 16
        · have h16' : t < 16 := h16
          have hwd := word_calls wr (B + 1) 0 64 64 blk t (by omega) (by omega) (by omega) hb2 (fun j hj => by rw [Nat.zero_add]; exact blk_cell hC.b j (hV_at blk j (by omega)))
          have hx : mWx blk (mW blk t) t = wordN blk t := by unfold mWx; rw [if_pos h16']
          rw [hx] at hnx
          have hcl := hC.word ht hlt'
          have hfz := blk_frozen hC.m t
          have hbl := blk_lt hC.m
          have HN := Lib.hid hnx
          clear hnx hx hC hst hblk hs1 hb1 hs2 hb2 hk
          go_wp2_with (go_at_call 268; refine hwd.mono ?_; rintro e wq ⟨rfl, hwq⟩; obtain rfl : wr = wq := hwq.symm)
          go_roundg (64 - (t + 1))
          case measure => omega
          case rel => exact ⟨t + 1, by omega, rfl, by go_num, HN.out⟩
        · have h16' : 16 ≤ t := by omega
          have hml := mW_lt blk hb2 t
          have hg := fun j (hj : j < t) => getD_app (mW blk t) (List.replicate (64 - t) 0) j (by rw [hlen]; exact hj)
          have y15 := hC.word ht (j := t - 15) (by omega)
          have y2 := hC.word ht (j := t - 2) (by omega)
          have y7 := hC.word ht (j := t - 7) (by omega)
          have y16 := hC.word ht (j := t - 16) (by omega)
          rw [hg _ (by omega)] at y15 y2 y7 y16
          have l15 := getD_lt _ _ hml (by decide) (t - 15)
          have l2 := getD_lt _ _ hml (by decide) (t - 2)
          have l7 := getD_lt _ _ hml (by decide) (t - 7)
          have l16 := getD_lt _ _ hml (by decide) (t - 16)
          have hx : mWx blk (mW blk t) t = (sg1 ((mW blk t).getD (t - 2) 0) + (mW blk t).getD (t - 7) 0 + sg0 ((mW blk t).getD (t - 15) 0) + (mW blk t).getD (t - 16) 0) % 4294967296 := by
            unfold mWx
            rw [if_neg (by omega)]
            unfold schedNext
            rw [hlen]
          rw [hx] at hnx
          have hcl := hC.word ht hlt'
          have hfz := blk_frozen hC.m t
          have hbl := blk_lt hC.m
          have HN := Lib.hid hnx
          clear hnx hx hC hst hblk hs1 hb1 hs2 hb2 hk hg hml
          generalize (mW blk t).getD (t - 15) 0 = a15 at *
          generalize (mW blk t).getD (t - 2) 0 = a2 at *
          generalize (mW blk t).getD (t - 7) 0 = a7 at *
          generalize (mW blk t).getD (t - 16) 0 = a16 at *
          have e0 := sg0V a15 l15
          have e1 := sg1V a2 l2
          have k0 := sg0_lt a15 l15
          have k1 := sg1_lt a2 l2
          generalize sg0 a15 = s0 at *
          generalize sg1 a2 = s1 at *
          have i15 : ((t : Int) - 15).toNat = t - 15 := by omega
          have i2 : ((t : Int) - 2).toNat = t - 2 := by omega
          have i7 : ((t : Int) - 7).toNat = t - 7 := by omega
          have i16 : ((t : Int) - 16).toNat = t - 16 := by omega
          go_upto_region 7 with (fail)
          go_quiet (fail)
          go_upto_region 10 with (go_at_call 269; (first | refine (rot7 _ l15 _).mono ?_ | refine (rot18 _ l15 _).mono ?_ | refine (rot17 _ l2 _).mono ?_ | refine (rot19 _ l2 _).mono ?_); rintro e wq ⟨rfl, hwq⟩; subst hwq)
          go_region
          all_goals
            have ev : ((s1 : Int) + a7 + s0 + a16) % 4294967296 = (((s1 + a7 + s0 + a16) % 4294967296 : Nat) : Int) := by omega
            rw [ev]
            clear i15 i2 i7 i16 y15 y2 y7 y16 ev
            go_wp2
            go_roundg (64 - (t + 1))
            case measure => omega
            case rel => exact ⟨t + 1, by omega, rfl, by go_num, HN.out.drewN _⟩
      · obtain rfl : t = 64 := by omega
        rw [Nat.sub_self, List.replicate_zero, List.append_nil] at hC
        clear hst hblk hs1 hb1 hs2 hb2 hk
        go_wp2
        go_meet
        exact hC
  case rest =>
  have hS := CsIs.init hcut
  have hsz := hcut.sz
  go_upto_region 13 with (fail)
  generalize World.alloc wc _ = w2 at *
  clear hcut hsz hI
  go_cut [79] from 79 to 79 (fun ii wx => ii = .int .i64 0 ∧ wx = w2)
  case first =>
    go_wp2
    go_meet
    exact ⟨rfl, rfl⟩
  case rest =>
  obtain ⟨rfl, hwe⟩ := hcut
  subst hwe
  go_step
  go_cut [] from 14 to 87 (fun wx => CsIs w wx B st (mW blk 64) (sW st 8))
  case first =>
    go_upto_region 14 with (fail)
    go_loopg [79] 8 (fun g ii wx => ∃ i : Nat, i ≤ 8 ∧ g = 8 - i ∧ ii = .int .i64 i ∧ CsIs w wx B st (mW blk 64) (sW st i ++ List.replicate (8 - i) 0))
    case atStart => exact ⟨0, by omega, by omega, rfl, hS⟩
    case round =>
      clear hS
      obtain ⟨i, hi, hgi, rfl, hC⟩ := hrel
      by_cases hlt : i < 8
      · have hlt' : i < 8 := hlt
        have hnx := hC.next hlt'
        have hwd := word_calls wr B 0 32 32 st i (by omega) (by omega) (by omega) hs2 (fun j hj => by rw [Nat.zero_add]; exact blk_cell hC.a j (hV_at st j (by omega)))
        have hcl := hC.cell (by rw [List.length_append, sW_length, List.length_replicate]; omega) hlt'
        have hfz := blk_frozen hC.s i
        have hbl := blk_lt hC.s
        have HN := Lib.hid hnx
        clear hnx hC hst hblk hs1 hb1 hs2 hb2 hk
        go_wp2_with (go_at_call 268; refine hwd.mono ?_; rintro e wq ⟨rfl, hwq⟩; obtain rfl : wr = wq := hwq.symm)
        go_roundg (8 - (i + 1))
        case measure => omega
        case rel => exact ⟨i + 1, by omega, rfl, by go_num, HN.out⟩
      · obtain rfl : i = 8 := by omega
        rw [Nat.sub_self, List.replicate_zero, List.append_nil] at hC
        clear hst hblk hs1 hb1 hs2 hb2 hk
        go_wp2
        go_meet
        exact hC
  case rest =>
  have hml := mW_length blk 64
  have hmb := mW_lt blk hb2 64
  have hsl := sW_length st 8
  have hsb := sW_lt st 8 hs2
  have hv := CvIs.init hcut
  have hszs := hcut.sz
  have hra := rng?_row hcut.s (by rw [wV_size, hsl])
  have hbs := blk_lt hcut.s
  generalize hms : mW blk 64 = ms at *
  generalize hss : sW st 8 = ss at *
  have HMS : Shut (mW blk 64 = ms) := ⟨hms⟩
  have HSS : Shut (sW st 8 = ss) := ⟨hss⟩
  clear hms hss
  go_upto_region 19 with (fail)
  generalize World.alloc wc _ = w3 at *
  clear hcut hszs hra hbs hS
  go_cut [89] from 89 to 89 (fun ii wx => ii = .int .i64 0 ∧ wx = w3)
  case first =>
    go_wp2
    go_meet
    exact ⟨rfl, rfl⟩
  case rest =>
  obtain ⟨rfl, hwe⟩ := hcut
  subst hwe
  go_step
  go_cut [] from 16 to 166 (fun wx => CvIs w wx B ms ss (rT ms ss 64))
  case first =>
    go_upto_region 20 with (fail)
    go_loopg [89] 64 (fun g ii wx => ∃ t : Nat, t ≤ 64 ∧ g = 64 - t ∧ ii = .int .i64 t ∧ CvIs w wx B ms ss (rT ms ss t))
    case atStart => exact ⟨0, by omega, by omega, rfl, hv⟩
    case round =>
      clear hv
      obtain ⟨t, ht, hgt, rfl, hC⟩ := hrel
      by_cases hlt : t < 64
      · have hlt' : t < 64 := hlt
        obtain ⟨r1, r2⟩ := rT_ok ms ss hsl hsb t
        have hlb := getD_lt _ _ r2 (by decide)
        have yk := (hk.chg0 hC.chg).k t hlt'
        have ym := hC.mcell hml hlt'
        have y0 := hC.vcell r1 (j := 0) (by omega)
        have y1 := hC.vcell r1 (j := 1) (by omega)
        have y2 := hC.vcell r1 (j := 2) (by omega)
        have y3 := hC.vcell r1 (j := 3) (by omega)
        have y4 := hC.vcell r1 (j := 4) (by omega)
        have y5 := hC.vcell r1 (j := 5) (by omega)
        have y6 := hC.vcell r1 (j := 6) (by omega)
        have y7 := hC.vcell r1 (j := 7) (by omega)
        have l0 := hlb 0
        have l1 := hlb 1
        have l2 := hlb 2
        have l3 := hlb 3
        have l4 := hlb 4
        have l5 := hlb 5
        have l6 := hlb 6
        have l7 := hlb 7
        have lk := kTab_lt t
        have lm := getD_lt _ _ hmb (by decide) t
        have hmy : may wr (B + 5) 0 8 = true := may_row 0 8 hC.v (by rw [wV_size, r1]; decide)
        have hbv := blk_lt hC.v
        have hx : rT ms ss (t + 1) = roundN (rT ms ss t) (kTab.getD t 0) (ms.getD t 0) := rfl
        have hnx := fun n => (hC.drewN n).set r1 (vs' := rT ms ss (t + 1)) rfl
        rw [hx] at hnx
        unfold roundN roundT1 roundT2 at hnx
        have HN := Lib.hid hnx
        unfold roundN roundT1 roundT2 at hx
        have HX : Shut _ := ⟨hx⟩
        clear hnx hx hC hst hblk hs1 hb1 hs2 hb2 hk hlb r1 r2 hml hmb hsl hsb
        generalize (rT ms ss t).getD 0 0 = a at *
        generalize (rT ms ss t).getD 1 0 = b at *
        generalize (rT ms ss t).getD 2 0 = c at *
        generalize (rT ms ss t).getD 3 0 = d at *
        generalize (rT ms ss t).getD 4 0 = e at *
        generalize (rT ms ss t).getD 5 0 = f at *
        generalize (rT ms ss t).getD 6 0 = g at *
        generalize (rT ms ss t).getD 7 0 = h at *
        generalize kTab.getD t 0 = kt at *
        generalize ms.getD t 0 = mt at *
        have e0 := bg0V a l0
        have e1 := bg1V e l4
        have k0 := bg0_lt a l0
        have k1 := bg1_lt e l4
        have ec := chV e f g l4 l5 l6
        have em := majV a b c l0 l1 l2
        have kc := ch_lt l4 l5 l6
        have km := maj_lt l0 l1 l2
        generalize bg0 a = g0 at *
        generalize bg1 e = g1 at *
        generalize chN e f g = ch at *
        generalize majN a b c = mj at *
        go_upto_region 22 with (fail)
        go_quiet (fail)
        obtain ⟨wq, hwq⟩ : ∃ wq, wq = wr.drewN nq := ⟨_, rfl⟩
        rw [← hwq]
        have z3 : wq.cell? ⟨B + 5, 3, none⟩ = some (.int .u32 (d : Nat)) := by rw [hwq]; exact y3
        have z7 : wq.cell? ⟨B + 5, 7, none⟩ = some (.int .u32 (h : Nat)) := by rw [hwq]; exact y7
        have zk : wq.cell? ⟨2, t, none⟩ = some (.int .u32 (kt : Nat)) := by rw [hwq]; exact yk
        have zm : wq.cell? ⟨B + 3, t, none⟩ = some (.int .u32 (mt : Nat)) := by rw [hwq]; exact ym
        have hmz : may wq (B + 5) 0 8 = true := by rw [hwq]; exact hmy
        have hbz : B + 5 < wq.heap.size := by rw [hwq]; exact hbv
        obtain ⟨n1, HQ⟩ : ∃ n1, Hid (wq = wr.drewN n1) := ⟨nq, Lib.hid hwq⟩
        clear hwq y0 y1 y2 y3 y4 y5 y6 y7 yk ym hmy hbv
        go_upto_region 23 with (fail)
        go_quiet ((first | (go_at_call 269; exact Calls.quiet_of_same (rot6 _ l4 _)) | (go_at_call 269; exact Calls.quiet_of_same (rot11 _ l4 _)) | (go_at_call 269; exact Calls.quiet_of_same (rot25 _ l4 _))))
        go_upto_region 24 with (fail)
        have et : ((((h : Int) + g1 + ch + kt) % 4294967296 + mt) % 4294967296) = (((h + g1 + ch + kt + mt) % 4294967296 : Nat) : Int) := by omega
        have t1 : (h + g1 + ch + kt + mt) % 4294967296 < 4294967296 := Nat.mod_lt _ (by decide)
        rw [et]
        clear et ec
        generalize (h + g1 + ch + kt + mt) % 4294967296 = T1 at *
        clear z7 zk zm k1 kc l7 lk lm
        go_upto_region 25 with (go_at_call 269; (first | refine (rot2 _ l0 _).mono ?_ | refine (rot13 _ l0 _).mono ?_ | refine (rot22 _ l0 _).mono ?_); rintro e wq ⟨rfl, hwq⟩; subst hwq)
        have et2 : (((g0 : Int) + mj) % 4294967296) = (((g0 + mj) % 4294967296 : Nat) : Int) := by omega
        have t2 : (g0 + mj) % 4294967296 < 4294967296 := Nat.mod_lt _ (by decide)
        rw [et2]
        clear et2 em
        generalize (g0 + mj) % 4294967296 = T2 at *
        clear k0 km
        go_wp2
        have e5 : (((T1 : Int) + T2) % 4294967296) = (((T1 + T2) % 4294967296 : Nat) : Int) := by omega
        have e6 : (((d : Int) + T1) % 4294967296) = (((d + T1) % 4294967296 : Nat) : Int) := by omega
        rw [e5, e6]
        go_roundg (64 - (t + 1))
        case measure => omega
        case rel =>
          refine ⟨t + 1, by omega, rfl, by go_num, ?_⟩
          have h9 := (HN.out n1).drewN nq
          rw [← HQ.out] at h9
          rw [HX.out]
          exact h9
      · obtain rfl : t = 64 := by omega
        clear hst hblk hs1 hb1 hs2 hb2 hk
        go_wp2
        go_meet
        exact hC
  case rest =>
  have ho := CoIs.init hcut
  obtain ⟨r1, r2⟩ := rT_ok ms ss hsl hsb 64
  clear hv hst hblk hs1 hb1 hs2 hb2 hk
  generalize hvs : rT ms ss 64 = vs at *
  have HVS : Shut (rT ms ss 64 = vs) := ⟨hvs⟩
  clear hvs
  have hszs := hcut.sz
  go_upto_region 28 with (fail)
  generalize World.alloc wc _ = w4 at *
  clear hcut hszs
  go_cut [167] from 167 to 167 (fun ii wx => ii = .int .i64 0 ∧ wx = w4)
  case first =>
    go_wp2
    go_meet
    exact ⟨rfl, rfl⟩
  case rest =>
  obtain ⟨rfl, hwe⟩ := hcut
  subst hwe
  go_step
  go_cut [] from 26 to 187 (fun wx => CoIs w wx B ss vs (oB (fun i => (ss.getD i 0 + vs.getD i 0) % 4294967296) 8))
  case first =>
    go_upto_region 29 with (fail)
    go_loopg [167] 8 (fun g ii wx => ∃ i : Nat, i ≤ 8 ∧ g = 8 - i ∧ ii = .int .i64 i ∧ CoIs w wx B ss vs (oB (fun i => (ss.getD i 0 + vs.getD i 0) % 4294967296) i ++ List.replicate (32 - 4 * i) 0))
    case atStart => exact ⟨0, by omega, by omega, rfl, ho⟩
    case round =>
      clear ho
      obtain ⟨i, hi, hgi, rfl, hC⟩ := hrel
      by_cases hlt : i < 8
      · have hlt' : i < 8 := hlt
        have ys := hC.scell hsl hlt'
        have yv := hC.vcell r1 hlt'
        have ls := getD_lt _ _ hsb (by decide) i
        have lv := getD_lt _ _ r2 (by decide) i
        have hB0 := hC.B0
        have hchg := hC.chg
        have hbo := blk_lt hC.o
        have hS : ∀ W : World, Chg [] wr W → W.cell? ⟨B + 4, i, none⟩ = some (.int .u32 (ss.getD i 0 : Nat)) ∧ W.cell? ⟨B + 5, i, none⟩ = some (.int .u32 (vs.getD i 0 : Nat)) := fun W hc => ⟨(hC.chg0 hc).scell hsl hlt', (hC.chg0 hc).vcell r1 hlt'⟩
        have hbig : ∀ W : World, Chg [] wr W → Calls Tryz.prog 211 #[.int .u64 (IntKind.u64.wrap (IntKind.u32.wrap ((ss.getD i 0 : Nat) + (vs.getD i 0 : Nat) : Int))), .int .i64 4] W (BigP wr (B + 6) ((ss.getD i 0 + vs.getD i 0) % 4294967296)) := fun W hc => by
          have h := big_calls W ((ss.getD i 0 + vs.getD i 0) % 4294967296) 4 (.inl rfl) (Nat.mod_lt _ (by decide))
          rw [show (((ss.getD i 0 + vs.getD i 0) % 4294967296 : Nat) : Int) = IntKind.u64.wrap (IntKind.u32.wrap ((ss.getD i 0 : Nat) + (vs.getD i 0 : Nat) : Int)) from by rw [IntKind.wrap_u32, IntKind.wrap_u64]; omega] at h
          exact h.mono fun e w' ⟨h1, h2, h3⟩ => ⟨W.heap.size, h1, h2, by have := hc.size; omega, hc.nil_trans h3⟩
        have HC := Lib.hid hC
        clear hC hml hmb hsl hsb r1 r2
        generalize hsi : ss.getD i 0 = si at *
        generalize hvi : vs.getD i 0 = vi at *
        have HSI : Shut (ss.getD i 0 = si) := ⟨hsi⟩
        have HVI : Shut (vs.getD i 0 = vi) := ⟨hvi⟩
        clear hsi hvi
        have i0 : (0 : Int) ≤ (i : Int) := by omega
        have i8 : (i : Int) < 8 := by omega
        go_upto_region 31 with (fail)
        go_region_held3 (fun W => W.cell? ⟨B + 4, i, none⟩ = some (.int .u32 (si : Nat)) ∧ W.cell? ⟨B + 5, i, none⟩ = some (.int .u32 (vi : Nat))) (first | exact hS _ (by assumption) | exact hS _ (Chg.refl _ _).drew)
          (first
            | (go_at_call 211; refine (hbig _ (Chg.refl _ _).drew).mono ?_; rintro e w' ⟨g, rfl, hg, hgB, hk⟩))
        have hC2 := HC.out.chg0 hk
        have hx : (si + vi) % 4294967296 = (fun i => (ss.getD i 0 + vs.getD i 0) % 4294967296) i := by
          show _ = (ss.getD i 0 + vs.getD i 0) % 4294967296
          rw [HSI.out, HVI.out]
        rw [hx] at hg
        obtain ⟨wy, hcp, hC3⟩ := hC2.copy hlt' hg hgB 3
        have hsl := slX_run 36 32 u_Hash (B + 6) 0 (4 * i) (by omega) w'
        rw [Nat.zero_add, show ((4 * i : Nat) : Int) = 4 * (i : Int) from by omega] at hsl
        have HC3 := Lib.hid hC3
        clear hC2 hx hC3 hS hbig hg hgB
        generalize 32 - 4 * i = m4 at *
        go_wp2
        go_roundg (8 - (i + 1))
        case measure => omega
        case rel => exact ⟨i + 1, by omega, rfl, by go_num, HC3.out⟩
      · obtain rfl : i = 8 := by omega
        have hC' := hC
        clear hC
        go_wp2
        go_meet
        simpa using hC'
  case rest =>
  have hol := oB_length (fun i => (ss.getD i 0 + vs.getD i 0) % 4294967296) 8
  have hob := oB_lt (fun i => (ss.getD i 0 + vs.getD i 0) % 4294967296) 8
  have hres : compressN wd st blk = cutN wd (oB (fun i => (ss.getD i 0 + vs.getD i 0) % 4294967296) 8) := by
    have q1 := mW_sched blk 48
    have q2 := rounds_all ms ss
    rw [HVS.out] at q2
    unfold compressN
    simp only
    rw [← q1, show 16 + 48 = 64 from rfl, HMS.out]
    have q3 : (List.range 8).map (wordN st) = ss := HSS.out
    rw [q3, q2]
    rfl
  have hcl := cut_length wd _ hol
  have hct := fun W => cut_calls W wd _ hol
  generalize oB (fun i => (ss.getD i 0 + vs.getD i 0) % 4294967296) 8 = os at *
  have hrn := hash_rng hcut.o hol
  have hmy := fun W (hc : Chg [] wc W) => may_row (o := 0) (n := 32) (hcut.chg0 hc).c (by rw [zeroHash_size]; omega)
  have hrb := blk_lt hcut.c
  have hch := hcut.chg
  have hb0 := hcut.B0
  have HR : Shut (compressN wd st blk = cutN wd os) := ⟨hres⟩
  clear hcut hml hmb hsl hsb r1 r2 hres hob hol
  have HB0 := Lib.hid hb0
  clear hb0
  go_wp2_with (go_at_call 235; refine (hct _).mono ?_; rintro e w' ⟨rfl, hk⟩; have hm2 := hmy _ hk; have hlen2 : (hV (cutN wd os)).size = 32 := by rw [hV_size, hcl])
  refine bodyPost_ret (res_Hash1 rfl _ _ rfl (rng?_setRng_same _ _ _ _ _ hm2 hlen2)) rfl ⟨by rw [HR.out], ?_⟩
  exact (hch.nil_trans hk).setRng (.inr (by rw [HB0.out]; omega)) _ _
end Go.Proofs.YtpklkefnmoaaaaaGreatDoor

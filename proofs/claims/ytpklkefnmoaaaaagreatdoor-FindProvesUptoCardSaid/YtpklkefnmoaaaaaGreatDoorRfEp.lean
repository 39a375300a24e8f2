/- Texts put into one by pack.py: RfE. -/
import Derived.Test.YtpklkefnmoaaaaaGreatDoorPkJ
/- The document's hash: one step. -/
namespace Go.Proofs.YtpklkefnmoaaaaaGreatDoor
open Go.RowKit
set_option linter.unusedVariables false
set_option linter.unusedSimpArgs false

theorem box_bs {w : World} {B n : Nat} {l : List Nat} {t : TypeId} (h : w.heap[B]? = some (.cells (hV l) t (0, 0))) (hl : l.length = n) (hn : n ≤ maxLen) (hb : ∀ x ∈ l, x < 256) : BsIs w (.slice (some ⟨B, 0, none⟩) n n) l := by
  subst hl
  refine ⟨hb, _, l.length, rfl, Nat.le_refl _, hn, .inr ⟨B, 0, rfl, blk_lt h, fun i hi => ?_⟩⟩
  rw [Nat.zero_add, blk_cell h i (hV_at l i hi)]
  simp [List.getD, hi]
structure RcI (w0 wx : World) (B T : Nat) (st : List Nat) : Prop where
  bst : wx.heap[B]? = some (.cells (hV st) 36 (0, 0))
  res : may wx (B + 2) 0 32 = true
  tab : ∀ i, i < 64 → wx.cell? ⟨T, 0 + i, none⟩ = some (.int .u64 (kTab.getD i 0 : Nat))
  tlt : T < wx.heap.size
  chg : Chg [] w0 wx
  B0 : w0.heap.size = B
theorem RcI.chg0 {w0 wx wy : World} {B T : Nat} {st : List Nat} (h : RcI w0 wx B T st) (hc : Chg [] wx wy) : RcI w0 wy B T st :=
  ⟨hc.at h.bst (by simp), may_chg hc h.res (by omega) (by simp), fun i hi => (hc.cell (p := ⟨T, 0 + i, none⟩) h.tlt (by simp)).trans (h.tab i hi), by have := hc.size; have := h.tlt; omega, h.chg.nil_trans hc, h.B0⟩
def TabP (w : World) (e : Ending) (w' : World) : Prop := ∃ T, e = .returned (.slice (some ⟨T, 0, none⟩) 64 64) ∧ (∀ i, i < 64 → w'.cell? ⟨T, 0 + i, none⟩ = some (.int .u64 (kTab.getD i 0 : Nat))) ∧ T < w'.heap.size ∧ Chg [] w w'
theorem r2table_any (w : World) : Calls Tryz.prog 289 #[] w (TabP w) := (r2table_calls w).mono fun e w' ⟨he, hw⟩ => by
  subst hw
  obtain ⟨b, o, cap, hv, hb, hr⟩ := tab_us w
  have h1 : w.heap.size = b ∧ 0 = o := by injection hv with h1 h2 h3; simp at h1; exact ⟨h1.1, h1.2⟩
  obtain ⟨rfl, rfl⟩ := h1
  exact ⟨w.heap.size, he, fun i hi => hr i hi, hb, (Chg.refl _ _).alloc _⟩
theorem UOwn.chg {w w' : World} {B : Nat} {v : Value} {l : List Nat} {F : List Nat} (h : UOwn w B v l) (hc : Chg F w w') (hF : ∀ k ∈ ob v, k ∉ F) : UOwn w' B v l := own_chg h hc hF
/-- Four bytes written from behind. -/
def in4 (pre : List Nat) (x i c : Nat) : List Nat := pre ++ List.replicate c 0 ++ (bytesN x).drop c ++ List.replicate (32 - 4 * (i + 1)) 0
theorem in4_start (pre : List Nat) (x i : Nat) (hi : i < 8) (hl : pre.length = 4 * i) : pre ++ List.replicate (32 - 4 * i) 0 = in4 pre x i 4 := by
  unfold in4
  rw [show (bytesN x).drop 4 = [] from rfl, List.append_nil, show 32 - 4 * i = 4 + (32 - 4 * (i + 1)) from by omega, ← List.replicate_append_replicate, List.append_assoc]
theorem in4_end (pre : List Nat) (x i : Nat) (hi : i < 8) (hl : pre.length = 4 * i) : in4 pre x i 0 = pre ++ bytesN x ++ List.replicate (32 - 4 * (i + 1)) 0 := by simp [in4]
theorem in4_length (pre : List Nat) (x i c : Nat) (hi : i < 8) (hl : pre.length = 4 * i) (hc : c ≤ 4) : (in4 pre x i c).length = 32 := by
  have : (bytesN x).length = 4 := rfl
  simp [in4, hl, this]
  omega
theorem in4_step (pre : List Nat) (x i k : Nat) (hi : i < 8) (hl : pre.length = 4 * i) (hk : k < 4) : (in4 pre x i (k + 1)).set (4 * i + k) (x / 256 ^ (3 - k) % 256) = in4 pre x i k := by
  have hb : (bytesN x).drop k = (x / 256 ^ (3 - k) % 256) :: (bytesN x).drop (k + 1) := by
    match k, hk with
    | 0, _ => rfl
    | 1, _ => rfl
    | 2, _ => rfl
    | 3, _ => simp [bytesN]
  unfold in4
  rw [hb, List.replicate_succ']
  simp only [List.append_assoc]
  rw [List.set_append_right _ _ (by omega), hl, Nat.add_sub_cancel_left, List.set_append_right _ _ (by simp)]
  simp
theorem mW_ne (blk : List Nat) (t : Nat) (h : 0 < t) : mW blk t ≠ [] := fun e => by have := mW_length blk t; rw [e] at this; simp at this; omega
theorem UOwn.copy {w : World} {v : Value} {l : List Nat} (h : UsIs w v l) (hl : l.length ≤ 1000) : ∃ v' w', (Builtin.append_ #[44, 44] 44 #[.slice (some ⟨w.heap.size, 0, none⟩) 0 0, v]).run Tryz.prog (w.alloc (.cells #[] 38)) = .ok v' w' ∧ UOwn w' w.heap.size v' l ∧ Chg [] w w' := by
  obtain ⟨i, hi, hz, hsz, hby⟩ := infoOfU i_u64
  have hc : Chg [] w (w.alloc (.cells #[] 38)) := (Chg.refl _ _).alloc _
  obtain ⟨b, o, cap, rfl, hb, hr⟩ := h.chg0 hc
  have h0 : (w.alloc (.cells #[] 38)).ownsRow w.heap.size 38 1 (.slice (some ⟨w.heap.size, 0, none⟩) 0 0) 0 (#[] : Array Value).toList := own_new w w.heap.size 38 1 0 #[] (Nat.le_refl _) rfl (by decide)
  obtain ⟨v', w', hrun, h2, h3, h4⟩ := run_append_any (P := Tryz.prog) (w.alloc (.cells #[] 38)) w.heap.size 44 44 38 i _ 1 8 u_u64s hi hz hsz hby rfl (by decide) _ 0 _ h0 (some ⟨b, o, none⟩) l.length cap (l.map fun (n : Nat) => Value.int .u64 (n : Int))
    ⟨by simp, fun _ => ⟨b, o, rfl, fun j u hu => by
      rw [List.getElem?_map] at hu
      obtain ⟨x, hx, rfl⟩ := Option.map_eq_some_iff.1 hu
      obtain ⟨hj, rfl⟩ := List.getElem?_eq_some_iff.1 hx
      rw [hr j hj]
      simp [List.getD, hj]⟩⟩ (fun u hu => by obtain ⟨n, _, rfl⟩ := List.mem_map.1 hu; rfl) (by unfold maxLen; omega) (by omega) (by simp)
  refine ⟨v', w', hrun, ?_, hc.trans h3 (fun k hk => .inr (by rw [ob_some] at hk; simp at hk; omega))⟩
  unfold UOwn
  rw [Nat.zero_add] at h2
  simpa using h2
/-- Eight numbers in a block of their own. -/
theorem eight_us (w : World) (a b c d e f g h : Nat) (t : TypeId) (B : Nat) (hB : w.heap[B]? = some (.cells #[.int .u64 a, .int .u64 b, .int .u64 c, .int .u64 d, .int .u64 e, .int .u64 f, .int .u64 g, .int .u64 h] t (0, 0))) :
    UsIs w (.slice (some ⟨B, 0, none⟩) 8 8) [a, b, c, d, e, f, g, h] := by
  refine ⟨B, 0, 8, rfl, blk_lt hB, fun i hi => ?_⟩
  rw [Nat.zero_add]
  refine blk_cell hB i ?_
  have hi' : i < 8 := hi
  match i, hi' with
  | 0, _ => rfl
  | 1, _ => rfl
  | 2, _ => rfl
  | 3, _ => rfl
  | 4, _ => rfl
  | 5, _ => rfl
  | 6, _ => rfl
  | 7, _ => rfl
  | i + 8, h => omega
attribute [local go_sem ↓] hold_apY
set_option maxRecDepth 100000 in
set_option maxHeartbeats 16000000 in
theorem r2compress_calls (w : World) (wd : Int) (st blk : List Nat) (hst : st.length = 32) (hblk : blk.length = 64) (hs1 : ∀ x ∈ st, x < 256) (hb1 : ∀ x ∈ blk, x < 256) :
    Calls Tryz.prog 267 #[.int .i64 wd, .agg (hV st), .agg (hV blk)] w (Res w [] (.agg (hV (compressN wd st blk)))) := by
  have hs2 := bytes_all st hs1
  have hb2 := bytes_all blk hb1
  obtain ⟨w0, rfl⟩ : ∃ w0 : World, w0 = w := ⟨_, rfl⟩
  obtain ⟨B, hB⟩ : ∃ B, B = w0.heap.size := ⟨_, rfl⟩
  have h0 := blk_new w0 (.cells (hV st) 36)
  have h1 := blk_new (w0.alloc (.cells (hV st) 36)) (.cells (hV blk) 260)
  have h2 := may_alloc_at ((w0.alloc (.cells (hV st) 36)).alloc (.cells (hV blk) 260)) _ 32 zeroHash 36 rfl zeroHash_size
  simp only [World.size_alloc] at h1 h2
  have h1' := blk_alloc h1 (.cells zeroHash 36)
  have h0' := blk_alloc (blk_alloc h0 (.cells (hV blk) 260)) (.cells zeroHash 36)
  have c0 : Chg [] w0 (((w0.alloc (.cells (hV st) 36)).alloc (.cells (hV blk) 260)).alloc (.cells zeroHash 36)) := (((Chg.refl _ _).alloc _).alloc _).alloc _
  clear h0 h1
  go_enter Tryz.func267, Tryz.ntmps267
  go_wp2_with fail
  rw [← hB] at h0' h1' h2 ⊢
  generalize ((w0.alloc (.cells (hV st) 36)).alloc (.cells (hV blk) 260)).alloc (.cells zeroHash 36) = w3 at *
  go_at_call 289
  refine (r2table_any w3).mono ?_
  rintro e w1 ⟨T, rfl, hT, hTl, hc1⟩
  have hR : RcI w0 w1 B T st := ⟨hc1.at h0' (by simp), may_chg hc1 h2 (by omega) (by simp), hT, hTl, c0.nil_trans hc1, hB.symm⟩
  have hbs := box_bs (hc1.at h1' (by simp)) hblk (by decide) hb1
  have hwd := r2words_calls w1 _ blk 16 hbs hblk (by omega)
  have HB := Lib.hid hB
  clear h0' h1' h2 c0 hT hTl hc1 hB hbs
  go_wp2_with fail
  go_at_call 290
  refine hwd.mono ?_
  rintro e w2 ⟨mv, rfl, hU, hc2⟩
  rw [← mW_first blk 16 (Nat.le_refl _)] at hU
  clear hwd
  go_wp2
  go_loopg [8, 9] 48 (fun g mm tt wx => ∃ t : Nat, 16 ≤ t ∧ t ≤ 64 ∧ g = 64 - t ∧ tt = .int .i64 t ∧ UOwn wx w1.heap.size mm (mW blk t) ∧ Chg [] w1 wx)
  case atStart => exact ⟨16, by omega, by omega, rfl, rfl, hU, hc2⟩
  case round =>
    clear hU
    obtain ⟨t, ht16, ht, hg, rfl, hO, hC⟩ := hrel
    have hus := hO.us (mW_ne blk t (by omega))
    have hml := mW_lt blk hb2 t
    have hlen := mW_length blk t
    have hlen0 := hlen
    by_cases hlt : t < 64
    · have hlt' := hlt
      obtain ⟨mb, mo, mcap, rfl, hmb, hmc⟩ := hus
      rw [hlen] at hmc ⊢
      have hcell := fun (W : World) (hW : Chg [] wr W) (j : Nat) (hj : j < t) => (hW.cell (p := ⟨mb, mo + j, none⟩) hmb (by simp)).trans (hmc j hj)
      have l15 := getD_lt _ _ hml (by decide) (t - 15)
      have l2 := getD_lt _ _ hml (by decide) (t - 2)
      have l7 := getD_lt _ _ hml (by decide) (t - 7)
      have l16 := getD_lt _ _ hml (by decide) (t - 16)
      have hx : mWx blk (mW blk t) t = (sg1 ((mW blk t).getD (t - 2) 0) + (mW blk t).getD (t - 7) 0 + sg0 ((mW blk t).getD (t - 15) 0) + (mW blk t).getD (t - 16) 0) % 4294967296 := by
        unfold mWx
        rw [if_neg (by omega)]
        unfold schedNext
        rw [hlen]
      have hsu : mW blk (t + 1) = mW blk t ++ [mWx blk (mW blk t) t] := rfl
      rw [hx] at hsu
      have hy := fun (W : World) (hW : Chg [] wr W) => And.intro (hcell W hW (t - 2) (by omega)) (And.intro (hcell W hW (t - 15) (by omega)) (And.intro (hcell W hW (t - 7) (by omega)) (hcell W hW (t - 16) (by omega))))
      have hpush := fun (x : Nat) (W : World) (hW : Chg [] wr W) => (UOwn.chg hO hW (by simp)).push x (by rw [hlen]; omega) (by have := hC.size; have := hW.size; omega) 44
      have hol := own_lt hO
      rw [hlen] at hO
      generalize (mW blk t).getD (t - 15) 0 = a15 at *
      generalize (mW blk t).getD (t - 2) 0 = a2 at *
      generalize (mW blk t).getD (t - 7) 0 = a7 at *
      generalize (mW blk t).getD (t - 16) 0 = a16 at *
      have k0 := sg0_lt a15 l15
      have k1 := sg1_lt a2 l2
      have R17 : ∀ W, Calls Tryz.prog 292 #[.int .u64 a2, .int .i64 17] W fun e w' => e = .returned (.int .u64 (rotrN a2 17 : Nat)) ∧ ∃ q, w' = W.drewN q := fun W => r2rotr_calls a2 17 l2 (by decide) W
      have R19 : ∀ W, Calls Tryz.prog 292 #[.int .u64 a2, .int .i64 19] W fun e w' => e = .returned (.int .u64 (rotrN a2 19 : Nat)) ∧ ∃ q, w' = W.drewN q := fun W => r2rotr_calls a2 19 l2 (by decide) W
      have R7 : ∀ W, Calls Tryz.prog 292 #[.int .u64 a15, .int .i64 7] W fun e w' => e = .returned (.int .u64 (rotrN a15 7 : Nat)) ∧ ∃ q, w' = W.drewN q := fun W => r2rotr_calls a15 7 l15 (by decide) W
      have R18 : ∀ W, Calls Tryz.prog 292 #[.int .u64 a15, .int .i64 18] W fun e w' => e = .returned (.int .u64 (rotrN a15 18 : Nat)) ∧ ∃ q, w' = W.drewN q := fun W => r2rotr_calls a15 18 l15 (by decide) W
      have S10 := fun W => r2shr10 a2 l2 W
      have S3 := fun W => r2shr3 a15 l15 W
      have X1 : ∀ W, Calls Tryz.prog 291 #[.int .u64 (rotrN a2 17 : Nat), .int .u64 (rotrN a2 19 : Nat), .int .u64 (a2 / 1024 : Nat)] W fun e w' => e = .returned (.int .u64 (sg1 a2 : Nat)) ∧ w' = W :=
        fun W => r2xor_calls _ _ _ (rotr_lt a2 17 l2 (by omega)) (rotr_lt a2 19 l2 (by omega)) (by omega) W
      have X0 : ∀ W, Calls Tryz.prog 291 #[.int .u64 (rotrN a15 7 : Nat), .int .u64 (rotrN a15 18 : Nat), .int .u64 (a15 / 8 : Nat)] W fun e w' => e = .returned (.int .u64 (sg0 a15 : Nat)) ∧ w' = W :=
        fun W => r2xor_calls _ _ _ (rotr_lt a15 7 l15 (by omega)) (rotr_lt a15 18 l15 (by omega)) (by omega) W
      generalize rotrN a2 17 = p17 at *
      generalize rotrN a2 19 = p19 at *
      generalize rotrN a15 7 = p7 at *
      generalize rotrN a15 18 = p18 at *
      generalize a2 / 1024 = d2 at *
      generalize a15 / 8 = d15 at *
      generalize sg0 a15 = s0 at *
      generalize sg1 a2 = s1 at *
      have i15 : ((t : Int) - 15).toNat = t - 15 := by omega
      have i2 : ((t : Int) - 2).toNat = t - 2 := by omega
      have i7 : ((t : Int) - 7).toNat = t - 7 := by omega
      have i16 : ((t : Int) - 16).toNat = t - 16 := by omega
      have n15 : (0 : Int) ≤ (t : Int) - 15 := by omega
      have n2 : (0 : Int) ≤ (t : Int) - 2 := by omega
      have n7 : (0 : Int) ≤ (t : Int) - 7 := by omega
      have n16 : (0 : Int) ≤ (t : Int) - 16 := by omega
      have HY := Lib.hid hy
      have HP := Lib.hid hpush
      have HSU := Lib.hid hsu
      have HG := Lib.hid hg
      obtain ⟨y2, _⟩ := hy wr (Chg.refl _ _)
      have HOL := Lib.hid hol
      clear hy hpush hsu hg hx hcell hmc hml hO hol hlen hs2 hb2 hst hblk hs1 hb1
      have ww2 : IntKind.i64.wrap ((t : Int) - 2) = (t : Int) - 2 := IntWalk.i64_in _ (by omega)
      have ww15 : IntKind.i64.wrap ((t : Int) - 15) = (t : Int) - 15 := IntWalk.i64_in _ (by omega)
      have ww7 : IntKind.i64.wrap ((t : Int) - 7) = (t : Int) - 7 := IntWalk.i64_in _ (by omega)
      have ww16 : IntKind.i64.wrap ((t : Int) - 16) = (t : Int) - 16 := IntWalk.i64_in _ (by omega)
      go_upto_region 6 with (fail)
      go_quiet ((first | (go_at_call 292; with_reducible exact Calls.quiet_of (R17 _)) | (go_at_call 292; with_reducible exact Calls.quiet_of (R19 _)) | (go_at_call 293; exact Calls.quiet_of_same (S10 _)) | (go_at_call 291; exact Calls.quiet_of_same (X1 _))))
      have c6 : Chg [] wr (wr.drewN nq) := (Chg.refl _ _).drewN _
      obtain ⟨_, y15, _⟩ := HY.out _ c6
      clear y2 R17 R19 S10 X1
      generalize wr.drewN nq = w6 at *
      go_upto_region 7 with (fail)
      go_quiet ((first | (go_at_call 292; with_reducible exact Calls.quiet_of (R7 _)) | (go_at_call 292; with_reducible exact Calls.quiet_of (R18 _)) | (go_at_call 293; exact Calls.quiet_of_same (S3 _)) | (go_at_call 291; exact Calls.quiet_of_same (X0 _))))
      have c7 : Chg [] wr (w6.drewN nq) := c6.drewN _
      clear y15 R7 R18 S3 X0 c6
      generalize w6.drewN nq = w7 at *
      have hS : ∀ W, Chg [] w7 W → W.cell? ⟨mb, mo + (t - 7), none⟩ = some (.int .u64 (a7 : Nat)) ∧ W.cell? ⟨mb, mo + (t - 16), none⟩ = some (.int .u64 (a16 : Nat)) := fun W hW => (HY.out W (c7.nil_trans hW)).2.2
      have hx1 : IntKind.u64.wrap ((s1 : Int) + a7) = (s1 : Int) + a7 := by rw [IntKind.wrap_u64]; omega
      have hx2 : IntKind.u64.wrap ((s1 : Int) + a7 + s0) = (s1 : Int) + a7 + s0 := by rw [IntKind.wrap_u64]; omega
      have hx3 : IntKind.u64.wrap ((s1 : Int) + a7 + s0 + a16) = (s1 : Int) + a7 + s0 + a16 := by rw [IntKind.wrap_u64]; omega
      have hx4 : Int.tmod ((s1 : Int) + a7 + s0 + a16) 4294967296 = (((s1 + a7 + s0 + a16) % 4294967296 : Nat) : Int) := by rw [Int.tmod_eq_emod_of_nonneg (by omega)]; omega
      have hx5 : IntKind.u64.wrap (((s1 + a7 + s0 + a16) % 4294967296 : Nat) : Int) = (((s1 + a7 + s0 + a16) % 4294967296 : Nat) : Int) := by rw [IntKind.wrap_u64]; omega
      generalize hxx : (s1 + a7 + s0 + a16) % 4294967296 = x at *
      clear hxx
      obtain ⟨y7, y16⟩ := hS w7 (Chg.refl _ _)
      have c8 : Chg [] wr w7.drew := c7.drew
      obtain ⟨v9, w9, hrun0, hO9, hc9, hob⟩ := HP.out x w7.drew c8
      rw [hlen0] at hrun0
      have hrun : (apY #[44, 44] 44 #[.slice (some ⟨mb, mo, none⟩) t mcap, .slice (some ⟨w7.heap.size, 0, none⟩) 1 1]).run Tryz.prog ((w7.alloc (.cells #[.int .u64 x] 38)).drew) = .ok v9 w9 := hrun0
      have HW9 : Chg [] w1 w9 := (hC.nil_trans c8).trans hc9 (fun k hk => by have := HOL.out k hk; omega)
      have HO9 := Lib.hid hO9
      have u7 : (t : Int) - 7 < (t : Int) := by omega
      have u16 : (t : Int) - 16 < (t : Int) := by omega
      clear hO9 hob hc9 hS hrun0 HP
      go_upto_region 8 with (fail)
      go_region
      all_goals
        go_wp2
        go_roundg (64 - (t + 1))
        case measure => rw [HG.out]; omega
        case rel => exact ⟨t + 1, by omega, by omega, rfl, by go_num, by rw [HSU.out]; exact HO9.out, HW9⟩
    · obtain rfl : t = 64 := by omega
      have hR4 := hR.chg0 hC
      have hms := mW_sched blk 48
      rw [show 16 + 48 = 64 from rfl] at hms
      obtain ⟨wo, rfl⟩ : ∃ wo : World, wo = wr := ⟨_, rfl⟩
      obtain ⟨mb, mo, mcap, rfl, hmb, hmc⟩ := hus
      rw [hlen] at hmc ⊢
      have hbs := box_bs hR4.bst hst (by decide) hs1
      have hwd := r2words_calls wo _ st 8 hbs hst (by omega)
      have hsW := sW_lt st 8 hs2
      have hsl := sW_length st 8
      have hrT := rT_ok (mW blk 64) (sW st 8) hsl hsW
      have HML := Lib.hid hml
      have HSW := Lib.hid hsW
      have HMS := Lib.hid hms
      have HR4 := Lib.hid hR4
      clear hO hg hml hbs hs2 hb2 hs1 hb1 hst hblk hR hC hms hR4 hlen hlen0 hsW
      go_wp2_with fail
      go_at_call 290
      refine hwd.mono ?_
      rintro e w5 ⟨vv, rfl, hV, hc5⟩
      have hVs : UsIs w5 vv (sW st 8) := hV.us (by intro e; have := hsl; rw [show (List.range 8).map (wordN st) = sW st 8 from rfl] at e; rw [e] at this; simp at this)
      obtain ⟨sv, w6, hr6, hS6, hc6⟩ := UOwn.copy hVs (by rw [hsl]; omega)
      have hSs : UsIs w6 sv (sW st 8) := hS6.us (by intro e; have := hsl; rw [e] at this; simp at this)
      have hVs6 := hVs.chg0 hc6
      have c56 := hc5.nil_trans hc6
      have hch0 := c56
      obtain ⟨vb, vo, vcap, rfl, hvb, hvc⟩ := hVs6
      rw [hsl] at hvc hr6 ⊢
      clear hwd hV hVs hS6 hc5 hc6
      go_wp2_with (at_builtin; refine Lib.wpList_append_run _ rfl _ _ _ _ rfl _ _ rfl rfl _ _ hr6 ?_)
      clear hr6
      go_loopg [13, 14] 64 (fun g ss tt wx => ∃ t : Nat, t ≤ 64 ∧ g = 64 - t ∧ tt = .int .i64 t ∧ UsIs wx ss (rT (mW blk 64) (sW st 8) t) ∧ Chg [] w6 wx)
      case atStart => exact ⟨0, by omega, by omega, rfl, hSs, Chg.refl _ _⟩
      case round =>
        clear hSs
        obtain ⟨t, ht, hg, rfl, hS, hC⟩ := hrel
        obtain ⟨hvl, hvx⟩ := hrT t
        by_cases hlt : t < 64
        · have hlt' := hlt
          have hnx : rT (mW blk 64) (sW st 8) (t + 1) = roundN (rT (mW blk 64) (sW st 8) t) (kTab.getD t 0) ((mW blk 64).getD t 0) := rfl
          have hR6 := HR4.out.chg0 (c56.nil_trans hC)
          have yk := fun (W : World) (hW : Chg [] wr W) => (hW.cell (p := ⟨T, 0 + t, none⟩) hR6.tlt (by simp)).trans (hR6.tab t hlt')
          have ym := fun (W : World) (hW : Chg [] wr W) => ((c56.nil_trans hC).nil_trans hW |>.cell (p := ⟨mb, mo + t, none⟩) hmb (by simp)).trans (hmc t hlt')
          obtain ⟨sb, so, scap, rfl, hsb, hsc⟩ := hS
          rw [hvl] at hsc ⊢
          have ys := fun (W : World) (hW : Chg [] wr W) (j : Nat) (hj : j < 8) => (hW.cell (p := ⟨sb, so + j, none⟩) hsb (by simp)).trans (hsc j hj)
          have b0 := getD_lt _ _ hvx (by decide) 0
          have b1 := getD_lt _ _ hvx (by decide) 1
          have b2 := getD_lt _ _ hvx (by decide) 2
          have b3 := getD_lt _ _ hvx (by decide) 3
          have b4 := getD_lt _ _ hvx (by decide) 4
          have b5 := getD_lt _ _ hvx (by decide) 5
          have b6 := getD_lt _ _ hvx (by decide) 6
          have b7 := getD_lt _ _ hvx (by decide) 7
          have bk := kTab_lt t
          have bm := getD_lt _ _ HML.out (by decide) t
          have hY := fun (W : World) (hW : Chg [] wr W) => And.intro (ys W hW 0 (by omega)) (And.intro (ys W hW 1 (by omega)) (And.intro (ys W hW 2 (by omega)) (And.intro (ys W hW 3 (by omega)) (And.intro (ys W hW 4 (by omega)) (And.intro (ys W hW 5 (by omega)) (And.intro (ys W hW 6 (by omega)) (And.intro (ys W hW 7 (by omega)) (And.intro (yk W hW) (ym W hW)))))))))
          unfold roundN at hnx
          have hT1 : roundT1 (rT (mW blk 64) (sW st 8) t) (kTab.getD t 0) ((mW blk 64).getD t 0) = ((rT (mW blk 64) (sW st 8) t).getD 7 0 + bg1 ((rT (mW blk 64) (sW st 8) t).getD 4 0) + chN ((rT (mW blk 64) (sW st 8) t).getD 4 0) ((rT (mW blk 64) (sW st 8) t).getD 5 0) ((rT (mW blk 64) (sW st 8) t).getD 6 0) + kTab.getD t 0 + (mW blk 64).getD t 0) % 4294967296 := rfl
          have hT2 : roundT2 (rT (mW blk 64) (sW st 8) t) = (bg0 ((rT (mW blk 64) (sW st 8) t).getD 0 0) + majN ((rT (mW blk 64) (sW st 8) t).getD 0 0) ((rT (mW blk 64) (sW st 8) t).getD 1 0) ((rT (mW blk 64) (sW st 8) t).getD 2 0)) % 4294967296 := rfl
          generalize roundT1 (rT (mW blk 64) (sW st 8) t) (kTab.getD t 0) ((mW blk 64).getD t 0) = T1 at *
          generalize roundT2 (rT (mW blk 64) (sW st 8) t) = T2 at *
          rw [Nat.add_zero] at hY
          rw [Nat.zero_add] at hY
          have HNX := Lib.hid hnx
          have HG := Lib.hid hg
          clear hnx hg ys yk ym hsc hvl hvx hR6
          generalize (rT (mW blk 64) (sW st 8) t).getD 0 0 = v0 at *
          generalize (rT (mW blk 64) (sW st 8) t).getD 1 0 = v1 at *
          generalize (rT (mW blk 64) (sW st 8) t).getD 2 0 = v2 at *
          generalize (rT (mW blk 64) (sW st 8) t).getD 3 0 = v3 at *
          generalize (rT (mW blk 64) (sW st 8) t).getD 4 0 = v4 at *
          generalize (rT (mW blk 64) (sW st 8) t).getD 5 0 = v5 at *
          generalize (rT (mW blk 64) (sW st 8) t).getD 6 0 = v6 at *
          generalize (rT (mW blk 64) (sW st 8) t).getD 7 0 = v7 at *
          generalize kTab.getD t 0 = kt at *
          generalize (mW blk 64).getD t 0 = mt at *
          have HY := Lib.hid hY
          clear hY
          have R6 : ∀ W, Calls Tryz.prog 292 #[.int .u64 v4, .int .i64 6] W fun e w' => e = .returned (.int .u64 (rotrN v4 6 : Nat)) ∧ ∃ q, w' = W.drewN q := fun W => r2rotr_calls v4 6 b4 (by decide) W
          have R11 : ∀ W, Calls Tryz.prog 292 #[.int .u64 v4, .int .i64 11] W fun e w' => e = .returned (.int .u64 (rotrN v4 11 : Nat)) ∧ ∃ q, w' = W.drewN q := fun W => r2rotr_calls v4 11 b4 (by decide) W
          have R25 : ∀ W, Calls Tryz.prog 292 #[.int .u64 v4, .int .i64 25] W fun e w' => e = .returned (.int .u64 (rotrN v4 25 : Nat)) ∧ ∃ q, w' = W.drewN q := fun W => r2rotr_calls v4 25 b4 (by decide) W
          have R2 : ∀ W, Calls Tryz.prog 292 #[.int .u64 v0, .int .i64 2] W fun e w' => e = .returned (.int .u64 (rotrN v0 2 : Nat)) ∧ ∃ q, w' = W.drewN q := fun W => r2rotr_calls v0 2 b0 (by decide) W
          have R13 : ∀ W, Calls Tryz.prog 292 #[.int .u64 v0, .int .i64 13] W fun e w' => e = .returned (.int .u64 (rotrN v0 13 : Nat)) ∧ ∃ q, w' = W.drewN q := fun W => r2rotr_calls v0 13 b0 (by decide) W
          have R22 : ∀ W, Calls Tryz.prog 292 #[.int .u64 v0, .int .i64 22] W fun e w' => e = .returned (.int .u64 (rotrN v0 22 : Nat)) ∧ ∃ q, w' = W.drewN q := fun W => r2rotr_calls v0 22 b0 (by decide) W
          have X1 : ∀ W, Calls Tryz.prog 291 #[.int .u64 (rotrN v4 6 : Nat), .int .u64 (rotrN v4 11 : Nat), .int .u64 (rotrN v4 25 : Nat)] W fun e w' => e = .returned (.int .u64 (bg1 v4 : Nat)) ∧ w' = W := fun W => r2xor_calls _ _ _ (rotr_lt v4 6 b4 (by omega)) (rotr_lt v4 11 b4 (by omega)) (rotr_lt v4 25 b4 (by omega)) W
          have X0 : ∀ W, Calls Tryz.prog 291 #[.int .u64 (rotrN v0 2 : Nat), .int .u64 (rotrN v0 13 : Nat), .int .u64 (rotrN v0 22 : Nat)] W fun e w' => e = .returned (.int .u64 (bg0 v0 : Nat)) ∧ w' = W := fun W => r2xor_calls _ _ _ (rotr_lt v0 2 b0 (by omega)) (rotr_lt v0 13 b0 (by omega)) (rotr_lt v0 22 b0 (by omega)) W
          have CH := fun W => r2ch_calls v4 v5 v6 b4 b5 b6 W
          have MJ := fun W => r2maj_calls v0 v1 v2 b0 b1 b2 W
          have q1 := bg1_lt v4 b4
          have q0 := bg0_lt v0 b0
          have qc := ch_lt b4 b5 b6
          have qj := maj_lt b0 b1 b2
          generalize rotrN v4 6 = p6 at *
          generalize rotrN v4 11 = p11 at *
          generalize rotrN v4 25 = p25 at *
          generalize rotrN v0 2 = p2 at *
          generalize rotrN v0 13 = p13 at *
          generalize rotrN v0 22 = p22 at *
          generalize bg1 v4 = g1 at *
          generalize bg0 v0 = g0 at *
          generalize chN v4 v5 v6 = cc at *
          generalize majN v0 v1 v2 = jj at *
          have e1 : IntKind.u64.wrap ((v7 : Int) + g1) = (v7 : Int) + g1 := by rw [IntKind.wrap_u64]; omega
          have e2 : IntKind.u64.wrap ((v7 : Int) + g1 + cc) = (v7 : Int) + g1 + cc := by rw [IntKind.wrap_u64]; omega
          have e3 : IntKind.u64.wrap ((v7 : Int) + g1 + cc + kt) = (v7 : Int) + g1 + cc + kt := by rw [IntKind.wrap_u64]; omega
          have e4 : IntKind.u64.wrap ((v7 : Int) + g1 + cc + kt + mt) = (v7 : Int) + g1 + cc + kt + mt := by rw [IntKind.wrap_u64]; omega
          have e5 : Int.tmod ((v7 : Int) + g1 + cc + kt + mt) 4294967296 = (T1 : Int) := by rw [Int.tmod_eq_emod_of_nonneg (by omega)]; omega
          have e6 : IntKind.u64.wrap (T1 : Int) = (T1 : Int) := by rw [IntKind.wrap_u64]; omega
          have e7 : IntKind.u64.wrap ((g0 : Int) + jj) = (g0 : Int) + jj := by rw [IntKind.wrap_u64]; omega
          have e8 : Int.tmod ((g0 : Int) + jj) 4294967296 = (T2 : Int) := by rw [Int.tmod_eq_emod_of_nonneg (by omega)]; omega
          have e9 : IntKind.u64.wrap (T2 : Int) = (T2 : Int) := by rw [IntKind.wrap_u64]; omega
          have hT1b : T1 < 4294967296 := by omega
          have hT2b : T2 < 4294967296 := by omega
          have f1 : IntKind.u64.wrap ((T1 : Int) + T2) = (T1 : Int) + T2 := by rw [IntKind.wrap_u64]; omega
          have f2 : Int.tmod ((T1 : Int) + T2) 4294967296 = (((T1 + T2) % 4294967296 : Nat) : Int) := by rw [Int.tmod_eq_emod_of_nonneg (by omega)]; omega
          have f3 : IntKind.u64.wrap ((v3 : Int) + T1) = (v3 : Int) + T1 := by rw [IntKind.wrap_u64]; omega
          have f4 : Int.tmod ((v3 : Int) + T1) 4294967296 = (((v3 + T1) % 4294967296 : Nat) : Int) := by rw [Int.tmod_eq_emod_of_nonneg (by omega)]; omega
          have f5 : IntKind.u64.wrap (((T1 + T2) % 4294967296 : Nat) : Int) = (((T1 + T2) % 4294967296 : Nat) : Int) := by rw [IntKind.wrap_u64]; omega
          have f6 : IntKind.u64.wrap (((v3 + T1) % 4294967296 : Nat) : Int) = (((v3 + T1) % 4294967296 : Nat) : Int) := by rw [IntKind.wrap_u64]; omega
          have hv64 : (t : Int) < 64 := by omega
          have hv0 : (0 : Int) ≤ (t : Int) := by omega
          clear hT1 hT2
          generalize (T1 + T2) % 4294967296 = n0 at *
          generalize (v3 + T1) % 4294967296 = n4 at *
          obtain ⟨_, _, _, _, y4, _⟩ := HY.out wr (Chg.refl _ _)
          go_upto_region 14 with (fail)
          go_quiet ((first | (go_at_call 292; with_reducible exact Calls.quiet_of (R6 _)) | (go_at_call 292; with_reducible exact Calls.quiet_of (R11 _)) | (go_at_call 292; with_reducible exact Calls.quiet_of (R25 _)) | (go_at_call 291; exact Calls.quiet_of_same (X1 _))))
          have d14 : Chg [] wr (wr.drewN nq) := (Chg.refl _ _).drewN _
          clear y4 R6 R11 R25 X1
          generalize wr.drewN nq = w14 at *
          obtain ⟨_, _, _, _, y4, y5, y6, y7, yk, ym⟩ := HY.out w14 d14
          go_upto_region 15 with (fail)
          go_quiet ((go_at_call 294; exact Calls.quiet_of_same (CH _)))
          have d15 : Chg [] wr (w14.drewN nq) := d14.drewN _
          clear y4 y5 y6 y7 yk ym CH d14
          generalize w14.drewN nq = w15 at *
          obtain ⟨y0, _⟩ := HY.out w15 d15
          go_upto_region 16 with (fail)
          go_quiet ((first | (go_at_call 292; with_reducible exact Calls.quiet_of (R2 _)) | (go_at_call 292; with_reducible exact Calls.quiet_of (R13 _)) | (go_at_call 292; with_reducible exact Calls.quiet_of (R22 _)) | (go_at_call 291; exact Calls.quiet_of_same (X0 _))))
          have d16 : Chg [] wr (w15.drewN nq) := d15.drewN _
          clear y0 R2 R13 R22 X0 d15
          generalize w15.drewN nq = w16 at *
          obtain ⟨y0, y1, y2, _⟩ := HY.out w16 d16
          go_upto_region 17 with (fail)
          go_quiet ((go_at_call 295; exact Calls.quiet_of_same (MJ _)))
          have d17 : Chg [] wr (w16.drewN nq) := d16.drewN _
          clear y0 y1 y2 MJ d16
          generalize w16.drewN nq = w17 at *
          have hS : ∀ W, Chg [] w17 W → W.cell? ⟨sb, so, none⟩ = some (.int .u64 (v0 : Nat)) ∧ W.cell? ⟨sb, so + 1, none⟩ = some (.int .u64 (v1 : Nat)) ∧ W.cell? ⟨sb, so + 2, none⟩ = some (.int .u64 (v2 : Nat)) ∧ W.cell? ⟨sb, so + 3, none⟩ = some (.int .u64 (v3 : Nat)) ∧ W.cell? ⟨sb, so + 4, none⟩ = some (.int .u64 (v4 : Nat)) ∧ W.cell? ⟨sb, so + 5, none⟩ = some (.int .u64 (v5 : Nat)) ∧ W.cell? ⟨sb, so + 6, none⟩ = some (.int .u64 (v6 : Nat)) := fun W hW => by
            obtain ⟨z0, z1, z2, z3, z4, z5, z6, _⟩ := HY.out W (d17.nil_trans hW)
            exact ⟨z0, z1, z2, z3, z4, z5, z6⟩
          have hbx := blk_new w17.drew (.cells #[.int .u64 n0, .int .u64 v0, .int .u64 v1, .int .u64 v2, .int .u64 n4, .int .u64 v4, .int .u64 v5, .int .u64 v6] 38)
          have hus8 := eight_us _ n0 v0 v1 v2 n4 v4 v5 v6 _ _ hbx
          have HU8 := Lib.hid hus8
          clear hbx hus8
          go_upto_region 18 with (fail)
          go_region_held3 (fun W => W.cell? ⟨sb, so, none⟩ = some (.int .u64 (v0 : Nat)) ∧ W.cell? ⟨sb, so + 1, none⟩ = some (.int .u64 (v1 : Nat)) ∧ W.cell? ⟨sb, so + 2, none⟩ = some (.int .u64 (v2 : Nat)) ∧ W.cell? ⟨sb, so + 3, none⟩ = some (.int .u64 (v3 : Nat)) ∧ W.cell? ⟨sb, so + 4, none⟩ = some (.int .u64 (v4 : Nat)) ∧ W.cell? ⟨sb, so + 5, none⟩ = some (.int .u64 (v5 : Nat)) ∧ W.cell? ⟨sb, so + 6, none⟩ = some (.int .u64 (v6 : Nat))) (first | exact hS _ (Chg.refl _ _).drew | exact hS _ ((Chg.refl _ _).alloc _).drew) (fail)
          all_goals
            go_wp2
            go_roundg (64 - (t + 1))
            case measure => rw [HG.out]; omega
            case rel => exact ⟨t + 1, by omega, rfl, by go_num, by rw [HNX.out]; exact HU8.out, (hC.nil_trans d17).alloc _ |>.drew⟩
        · obtain rfl : t = 64 := by omega
          obtain ⟨wp, rfl⟩ : ∃ wp : World, wp = wr := ⟨_, rfl⟩
          have hR6 := HR4.out.chg0 (c56.nil_trans hC)
          have hE : compressN wd st blk = cutN wd (oB (fun i => ((sW st 8).getD i 0 + (rT (mW blk 64) (sW st 8) 64).getD i 0) % 4294967296) 8) := by
            rw [← rounds_all, HMS.out]
            rfl
          obtain ⟨sb, so, scap, rfl, hsb, hsc⟩ := hS
          rw [hvl] at hsc ⊢
          have b0 := fun i => getD_lt _ _ hvx (by decide : 0 < 4294967296) i
          have b1 := fun i => getD_lt _ _ (show ∀ x ∈ sW st 8, x < 4294967296 from HSW.out) (by decide : 0 < 4294967296) i
          have ys := fun (W : World) (hW : Chg [] wp W) (j : Nat) (hj : j < 8) => (hW.cell (p := ⟨sb, so + j, none⟩) hsb (by simp)).trans (hsc j hj)
          have yv := fun (W : World) (hW : Chg [] wp W) (j : Nat) (hj : j < 8) => ((hC.nil_trans hW).cell (p := ⟨vb, vo + j, none⟩) hvb (by simp)).trans (hvc j hj)
          obtain ⟨X, hX⟩ : ∃ X : Nat → Nat, X = fun i => ((sW st 8).getD i 0 + (rT (mW blk 64) (sW st 8) 64).getD i 0) % 4294967296 := ⟨_, rfl⟩
          rw [← hX] at hE
          have hXi : ∀ i, X i = ((sW st 8).getD i 0 + (rT (mW blk 64) (sW st 8) 64).getD i 0) % 4294967296 := fun i => by rw [hX]
          have hcw := hch0.nil_trans hC
          have HE := Lib.hid hE
          have HR6 := Lib.hid hR6
          have HYS := Lib.hid ys
          have HYV := Lib.hid yv
          have HXI := Lib.hid hXi
          have HB0 := Lib.hid b0
          have HB1 := Lib.hid b1
          have hbx : (wp.alloc (.cells zeroHash 36)).heap[wp.heap.size]? = some (.cells (hV (oB X 0 ++ List.replicate (32 - 4 * 0) 0)) 36 (0, 0)) := blk_new wp _
          clear hE hX hXi ys yv hR6 hsc hvl hvx hg hvc hmc b0 b1
          generalize rT (mW blk 64) (sW st 8) 64 = rr at *
          generalize sW st 8 = vv at *
          go_wp2
          go_loopg [20] 8 (fun g ii wx => ∃ i : Nat, i ≤ 8 ∧ g = 8 - i ∧ ii = .int .i64 i ∧ wx.heap[wp.heap.size]? = some (.cells (hV (oB X i ++ List.replicate (32 - 4 * i) 0)) 36 (0, 0)) ∧ Chg [] wp wx)
          case atStart => exact ⟨0, by omega, by omega, rfl, hbx, (Chg.refl _ _).alloc _⟩
          case round =>
            clear hbx
            obtain ⟨i, hi, hg, rfl, hbx, hCx⟩ := hrel
            by_cases hlt : i < 8
            · have hlt' := hlt
              have y1 := HYV.out wr hCx i hlt'
              have y2 := HYS.out wr hCx i hlt'
              have l1 := HB1.out i
              have l2 := HB0.out i
              have hxi := HXI.out i
              have hol := oB_length X i
              have hnx := oB_next X i
              generalize vv.getD i 0 = a1 at *
              generalize rr.getD i 0 = a2 at *
              generalize X i = x at *
              have hx32 : x < 4294967296 := by omega
              have e1 : IntKind.u64.wrap ((a1 : Int) + a2) = (a1 : Int) + a2 := by rw [IntKind.wrap_u64]; omega
              have e2 : Int.tmod ((a1 : Int) + a2) 4294967296 = (x : Int) := by rw [Int.tmod_eq_emod_of_nonneg (by omega)]; omega
              have e3 : IntKind.u64.wrap (x : Int) = (x : Int) := by rw [IntKind.wrap_u64]; omega
              have n0 : (0 : Int) ≤ (i : Int) := by omega
              have n8 : (i : Int) < 8 := by omega
              have HG := Lib.hid hg
              have HNX := Lib.hid hnx
              have HOL := Lib.hid hol
              clear hg hxi hnx hol
              go_upto_region 23 with (fail)
              go_quiet (fail)
              have hbq : (wr.drewN nq).heap[wp.heap.size]? = some (.cells (hV (oB X i ++ List.replicate (32 - 4 * i) 0)) 36 (0, 0)) := hbx
              have hCq : Chg [] wp (wr.drewN nq) := hCx.drewN _
              have hin0 := in4_start (oB X i) x i hlt' HOL.out
              rw [hin0] at hbq
              clear y1 y2 e1 e2 e3 hin0 hbx hCx
              generalize wr.drewN nq = wq at *
              generalize oB X i = pre at *
              go_wp2
              go_loopg [21, 22] 4 (fun g xx jj wx => ∃ c : Nat, c ≤ 4 ∧ g = c ∧ jj = .int .i64 ((c : Int) - 1) ∧ xx = .int .u64 (x / 256 ^ (4 - c) : Nat) ∧ wx.heap[wp.heap.size]? = some (.cells (hV (in4 pre x i c)) 36 (0, 0)) ∧ Chg [] wp wx)
              case atStart => exact ⟨4, by omega, rfl, rfl, by simp, hbq, hCq⟩
              case round =>
                clear hbq hCq
                obtain ⟨c, hc, hgc, rfl, rfl, hbx, hCx⟩ := hrel
                cases c with
                | zero =>
                  rw [in4_end pre x i hlt' HOL.out, ← HNX.out] at hbx
                  clear hgc
                  go_wp2
                  go_roundg (8 - (i + 1))
                  case measure => rw [HG.out]; omega
                  case rel => exact ⟨i + 1, by omega, rfl, by go_num, hbx, hCx⟩
                | succ k =>
                  have hk4 : k < 4 := hc
                  have hst := in4_step pre x i k hlt' HOL.out hk4
                  have hil := in4_length pre x i (k + 1) hlt' HOL.out (by omega)
                  rw [show (((k + 1 : Nat) : Int) - 1) = (k : Int) from by omega, show 4 - (k + 1) = 3 - k from by omega]
                  have hdv : x / 256 ^ (4 - k) = x / 256 ^ (3 - k) / 256 := by rw [Nat.div_div_eq_div_mul, ← Nat.pow_succ, show (3 - k).succ = 4 - k from by omega]
                  have hxl : x / 256 ^ (3 - k) ≤ x := Nat.div_le_self _ _
                  have hcell := blk_cell hbx (4 * i + k) (hV_at (in4 pre x i (k + 1)) (4 * i + k) (by omega))
                  have hfr := blk_frozen hbx (4 * i + k)
                  have hnb := blk_set hbx (4 * i + k) (.int .u8 (x / 256 ^ (3 - k) % 256 : Nat))
                  rw [hV_set, hst] at hnb
                  have hcx := hCx.setCell (p := ⟨wp.heap.size, 4 * i + k, none⟩) (.inr (Nat.le_refl _)) (.int .u8 (x / 256 ^ (3 - k) % 256 : Nat))
                  have hbl := blk_lt hbx
                  generalize x / 256 ^ (3 - k) = x' at *
                  have hm : ((x' : Int)) % 256 = ((x' % 256 : Nat) : Int) := by omega
                  have hmb : x' % 256 < 256 := Nat.mod_lt _ (by decide)
                  generalize x' % 256 = bb at *
                  have hq : (4 * (i : Int) + k).toNat = 4 * i + k := by omega
                  have q0 : (0 : Int) ≤ 4 * (i : Int) + k := by omega
                  have q1 : 4 * (i : Int) + k < 32 := by omega
                  have HNB := Lib.hid hnb
                  have HCX := Lib.hid hcx
                  have HDV := Lib.hid hdv
                  have HGC := Lib.hid hgc
                  clear hst hil hnb hcx hdv hbx hCx hgc
                  go_wp2
                  go_roundg k
                  case measure => rw [HGC.out]; omega
                  case rel => exact ⟨k, by omega, rfl, by go_num, by rw [HDV.out]; go_num, HNB.out, HCX.out⟩
            · obtain rfl : i = 8 := by omega
              have hbb := HE.out
              have hol := oB_length X 8
              have hlt8 := oB_lt X 8
              rw [show 32 - 4 * 8 = 0 from rfl, List.replicate_zero, List.append_nil] at hbx
              have hcut := r2cut_calls wr wd (oB X 8) hol hlt8
              have hrx := hash_rng hbx hol
              have hbl := blk_lt hbx
              have hrr := HR6.out.chg0 hCx
              have hms := hrr.res
              have hmay := fun (W : World) (hW : Chg [] wr W) => may_chg hW hms (by omega) (by simp)
              have hcl := cut_length wd (oB X 8) hol
              have hci := hV_is _ hcl (cut_lt wd (oB X 8) hlt8)
              rw [← hbb] at hcut hci hcl
              have hs1 := hci.1
              have hs2 := hci.one
              have hs32 : (hV (oB X 8)).size = 32 := by rw [hV_size]; exact hol
              have ho2 := (hV_is _ hol hlt8).one
              have hB0 := hrr.B0
              have hBl : w0.heap.size ≤ B + 2 := by omega
              have hcfin := hrr.chg
              clear hbb hlt8 hrr hg HE HXI HYS HYV HB0 HB1 hB0 hol
              generalize compressN wd st blk = CC at *
              generalize oB X 8 = out at *
              go_wp2_with (go_at_call 288; refine hcut.mono ?_; rintro e w9 ⟨rfl, hc9⟩; have hm9 := hmay _ hc9)
              refine bodyPost_ret (res_Hash1 rfl _ _ rfl (rng?_setRng_same _ _ _ _ _ hm9 hs1)) rfl ⟨rfl, ?_⟩
              exact (hcfin.nil_trans hc9).setRng (.inr hBl) _ _
end Go.Proofs.YtpklkefnmoaaaaaGreatDoor

/- The loom: the closure that goes through the workers. -/
import Derived.Test.YtfmdghijbkddpaaLm
namespace Go.Proofs.Ytfmdghijbkddpaa
open Go.RowKit
set_option linter.unusedVariables false
set_option linter.unusedSimpArgs false

def EachI (w : World) (ob : Nat) (v : Value) (ms add : List Mv) (wr : World) : Prop :=
  ∃ v', OutIs wr ob v' (ms ++ add) ∧ Chg (ob :: v.ownBlock.toList) w wr ∧ (∀ g, v'.ownBlock = some g → v.ownBlock = some g ∨ w.heap.size ≤ g)
def EachP (w : World) (ob : Nat) (v : Value) (ms add : List Mv) (e : Ending) (w' : World) : Prop := e = .returned (.tuple #[]) ∧ EachI w ob v ms add w'

theorem EachI.step {w wr W0 w6 : World} {ob : Nat} {v v' v2 : Value} {ms add : List Mv} {m : Mv} (hout : OutIs wr ob v' (ms ++ add)) (hch : Chg (ob :: v.ownBlock.toList) w wr) (hown : ∀ g, v'.ownBlock = some g → v.ownBlock = some g ∨ w.heap.size ≤ g) (hob : ob < w.heap.size)
    (h0 : Chg [] wr W0) (hrow : RowIs w6 31 3 v2 ((ms ++ add).length + 1) (mCells (ms ++ add ++ [m]))) (h6 : Chg v'.ownBlock.toList W0 w6) (hat : v2.ownBlock = v'.ownBlock ∨ v2.ownBlock = some W0.heap.size) (hob6 : w6.heap[ob]? = some (.cells #[v'] 28 (0, 0))) :
    EachI w ob v ms (add ++ [m]) (w6.setCell ⟨ob, 0, none⟩ v2) := by
  have hv2 : ∀ g, v2.ownBlock = some g → v.ownBlock = some g ∨ w.heap.size ≤ g := by
    intro g hg
    rcases hat with e | e
    · exact hown g (e ▸ hg)
    · rw [e] at hg
      simp at hg
      have := hch.size
      have := h0.size
      right; omega
  have hne : v2.ownBlock ≠ some ob := by
    intro hg
    rcases hat with e | e
    · rw [e] at hg; exact hout.2.2 hg
    · rw [e] at hg
      simp at hg
      have := hch.size
      have := h0.size
      omega
  refine ⟨v2, ⟨blk_set hob6 0 v2, ?_, hne⟩, ?_, hv2⟩
  · rw [← List.append_assoc]
    have := hrow.chg ((Chg.refl [ob] w6).setCell (p := ⟨ob, 0, none⟩) (by simp) v2) (by intro g hg e; simp at e; subst e; exact hne hg)
    rw [show (ms ++ add ++ [m]).length = (ms ++ add).length + 1 from by simp; omega]
    exact this
  · refine ((hch.nil_trans h0).trans h6 ?_).setCell (by simp) _
    intro g hg
    simp at hg
    rcases hown g hg with e | e
    · left; simp [e]
    · right; exact e

theorem LmIs.worker {w : World} {b : Nat} {s : LS} {q : LV} (h : LmIs w b s q) {k : Nat} (hk : k < s.ws.length) : ∃ g o cap, q.wv = .slice (some ⟨g, o, none⟩) s.ws.length cap ∧ w.cell? ⟨g, o + k * 2, none⟩ = some (.int .i64 s.ws[k].1) ∧ w.cell? ⟨g, o + k * 2 + 1, none⟩ = some (.int .i64 s.ws[k].2) := by
  obtain ⟨g, o, cap, hv, _, _⟩ := h.2.2.1.ptr (by omega)
  have hr := h.2.2.1
  rw [hv] at hr
  obtain ⟨h1, h2⟩ := wCells_at s.ws k hk
  exact ⟨g, o, cap, hv, hr.cell h1, by have := hr.cell h2; rw [← Nat.add_assoc] at this; exact this⟩

set_option maxRecDepth 100000 in
set_option maxHeartbeats 1000000 in
theorem each_give (w : World) (b lb ob : Nat) (s : LS) (q : LV) (v : Value) (ms : List Mv) (gb : Nat) (g : Int) (hgb : w.cell? ⟨gb, 0, none⟩ = some (.int .i64 g)) (hgF : gb ∉ ob :: v.ownBlock.toList)(hst : LmIs w b s q) (hlb : w.cell? ⟨lb, 0, none⟩ = some (.pointer (some ⟨b, 0, none⟩))) (hout : OutIs w ob v ms) (hms : ms.length ≤ 90000) (hF : ∀ k ∈ lb :: q.foot b, k ∉ ob :: v.ownBlock.toList) :
    Calls Try.prog 35 #[.int .i64 2, .func (.func 37) #[] #[], .func (.func 39) #[] #[.pointer (some ⟨gb, 0, none⟩)], .pointer (some ⟨lb, 0, none⟩), .pointer (some ⟨ob, 0, none⟩)] w (EachP w ob v ms (eachOf 2 isIdle (fun _ => g) s.ws 0)) := by
  have hb5 : w.cell? ⟨b, 5, none⟩ = some q.wv := blk_cell hst.1 5 rfl
  have hwl : s.ws.length ≤ 64 := hst.2.2.2.2.2.ws
  obtain ⟨wa, wcap, hwv, _⟩ := hst.2.2.1.slice
  have hwk := fun (k : Nat) (hk : k < s.ws.length) => hst.worker hk
  rw [hwv] at hb5 hwk
  have hobl := blk_lt hout.1
  have hlbl := World.block_lt_of_cell? _ _ hlb
  go_enter Try.func35, Try.ntmps35
  go_wp2
  go_loopg [15] s.ws.length (fun n i wr => ∃ k : Nat, k ≤ s.ws.length ∧ n = s.ws.length - k ∧ i = .int .i64 k ∧ EachI w ob v ms (eachOf 2 isIdle (fun _ => g) (s.ws.take k) 0) wr)
  case atStart => exact ⟨0, Nat.zero_le _, by omega, rfl, v, by simpa [eachOf] using hout, Chg.refl _ _, fun g hg => .inl hg⟩
  case round =>
    obtain ⟨k, hk, hgk, rfl, v', hout', hch, hown⟩ := hrel
    by_cases hlt : k < s.ws.length
    · have hlt' : k < s.ws.length := hlt
      obtain ⟨wg, wo, wc, hwe, hw0, hw1⟩ := hwk k hlt'
      simp only [Value.slice.injEq, true_and] at hwe
      obtain ⟨rfl, rfl⟩ := hwe
      have hwf : wg ∉ ob :: v.ownBlock.toList := hF wg (by simp [LV.foot, hwv, Value.ownBlock])
      have hwgl := World.block_lt_of_cell? _ _ hw0
      have hw0' : wr.cell? ⟨wg, wo + k * 2, none⟩ = some (.int .i64 s.ws[k].1) := by rw [hch.cell (p := ⟨wg, wo + k * 2, none⟩) hwgl hwf]; exact hw0
      have hw1' : wr.cell? ⟨wg, wo + k * 2 + 1, none⟩ = some (.int .i64 s.ws[k].2) := by rw [hch.cell (p := ⟨wg, wo + k * 2 + 1, none⟩) hwgl hwf]; exact hw1
      have htake := eachOf_take 2 isIdle (fun _ => g) s.ws k hlt'
      have hst1 := (hst.2.2.2.2.2.st s.ws[k] (List.getElem_mem hlt'))
      have hadd : (eachOf 2 isIdle (fun _ => g) (s.ws.take k) 0).length ≤ 64 := Nat.le_trans (eachOf_length _ _ _ _ _) (by rw [List.length_take]; omega)
      have hwgl' : wg < wr.heap.size := by have := hch.size; simp only at hwgl; omega
      have hgbr : wr.cell? ⟨gb, 0, none⟩ = some (.int .i64 g) := by rw [hch.cell (p := ⟨gb, 0, none⟩) (World.block_lt_of_cell? _ _ hgb) hgF]; exact hgb
      generalize s.ws[k] = x at *
      generalize eachOf 2 isIdle (fun _ => g) (s.ws.take k) 0 = add at *
      have HT := Lib.hid htake
      have hwvH := Lib.hid hwv
      clear htake hwk hw0 hw1 hst hout hwf hwv hb5
      have his := waits_calls x
      cases hx : isIdle x with
      | false =>
        simp only [hx] at his
        have HX := Lib.hid hx
        clear hx
        go_wp2_with (go_at_call 37; refine (his _).mono ?_; rintro e w3 ⟨rfl, rfl⟩)
        go_roundg (s.ws.length - (k + 1))
        case measure => omega
        case rel =>
          refine ⟨k + 1, by omega, rfl, by go_num, v', ?_, (hch.alloc _).alloc _, hown⟩
          rw [HT.out, HX.out]
          have c0 : Chg [] wr ((wr.alloc (.cells #[.int .i64 x.1, .int .i64 x.2] 56)).alloc (.cells #[.int .i64 x.1, .int .i64 x.2] 56)) := ((Chg.refl _ _).alloc _).alloc _
          refine ⟨c0.at hout'.1 (by simp), ?_, hout'.2.2⟩
          have := hout'.2.1.chg0 c0
          simpa using this
      | true =>
        simp only [hx] at his
        have HX := Lib.hid hx
        clear hx
        go_wp2_with (go_at_call 37; refine (his _).mono ?_; rintro e w3 ⟨rfl, rfl⟩)
        generalize hW5 : World.alloc _ _ = w5
        have hc5 : Chg [] wr w5 := by rw [← hW5]; exact ((Chg.refl _ _).alloc _).alloc _
        have hbx0 : w5.cell? ⟨wr.heap.size, 0, none⟩ = some (.int .i64 x.1) := by rw [← hW5, World.cell?_alloc_lt _ _ _ (by simp)]; exact blk_cell (blk_new wr _) 0 rfl
        have hbx1 : w5.cell? ⟨wr.heap.size, 1, none⟩ = some (.int .i64 x.2) := by rw [← hW5, World.cell?_alloc_lt _ _ _ (by simp)]; exact blk_cell (blk_new wr _) 1 rfl
        have hbl : wr.heap.size < w5.heap.size := by rw [← hW5]; simp; omega
        have hob5 := hc5.at hout'.1 (by simp)
        have hob5c : w5.cell? ⟨ob, 0, none⟩ = some v' := blk_cell hob5 0 rfl
        have hob5l := blk_lt hob5
        clear hW5
        have hW0 : Chg [] w5 ((w5.alloc (.cells #[.int .i64 x.1, .int .i64 x.2] 56)).alloc (.cells #[.int .i64 2, .int .i64 k, .int .i64 ((fun _ => g) x)] 31)).drew := (((Chg.refl _ _).alloc _).alloc _).drew
        have hM0 := blk_drew (blk_new (w5.alloc (.cells #[.int .i64 x.1, .int .i64 x.2] 56)) (.cells #[.int .i64 2, .int .i64 k, .int .i64 ((fun _ => g) x)] 31))
        rw [World.size_alloc] at hM0
        have hout0 : OutIs ((w5.alloc (.cells #[.int .i64 x.1, .int .i64 x.2] 56)).alloc (.cells #[.int .i64 2, .int .i64 k, .int .i64 ((fun _ => g) x)] 31)).drew ob v' (ms ++ add) :=
          ⟨hW0.at hob5 (by simp), (hout'.2.1.chg0 hc5).chg0 hW0, hout'.2.2⟩
        obtain ⟨v2, w6, hap, hrow2, hch2, hat2, ⟨a2, cap2, hv2⟩, hobc, hobf, hob6⟩ := hout0.app (by simp; omega) ⟨2, k, (fun _ => g) x⟩ (w5.heap.size + 1) hM0
        simp only [hv2] at hap
        have HV2 := Lib.hid hv2
        clear hv2
        have hgb5 : w5.drew.cell? ⟨gb, 0, none⟩ = some (.int .i64 g) := by rw [World.cell?_drew, hc5.cell (p := ⟨gb, 0, none⟩) (World.block_lt_of_cell? _ _ hgbr) (by simp)]; exact hgbr
        have hjob := gj_calls x.1 x.2 g gb w5.drew hgb5
        go_region_with (go_at_call 39; refine hjob.mono ?_; rintro e w' ⟨rfl, rfl⟩)
        all_goals
          go_wp2
          go_roundg (s.ws.length - (k + 1))
          case measure => omega
          case rel =>
            refine ⟨k + 1, by omega, rfl, by go_num, ?_⟩
            rw [HT.out, HX.out]
            have E := EachI.step hout' hch hown hobl (hc5.nil_trans hW0) hrow2 hch2 hat2 hob6
            rw [HV2.out, List.length_append] at E
            rw [if_pos rfl]
            exact E
    · obtain rfl : k = s.ws.length := by omega
      go_wp2
      go_end0
      refine ⟨rfl, v', ?_, hch, hown⟩
      rw [List.take_length] at hout'
      exact hout'
set_option maxRecDepth 100000 in
set_option maxHeartbeats 1000000 in
theorem each_leave (w : World) (b lb ob : Nat) (s : LS) (q : LV) (v : Value) (ms : List Mv) (hst : LmIs w b s q) (hlb : w.cell? ⟨lb, 0, none⟩ = some (.pointer (some ⟨b, 0, none⟩))) (hout : OutIs w ob v ms) (hms : ms.length ≤ 90000) (hF : ∀ k ∈ lb :: q.foot b, k ∉ ob :: v.ownBlock.toList) :
    Calls Try.prog 35 #[.int .i64 4, .func (.func 37) #[] #[], .func (.func 36) #[] #[], .pointer (some ⟨lb, 0, none⟩), .pointer (some ⟨ob, 0, none⟩)] w (EachP w ob v ms (eachOf 4 isIdle (fun _ => 0) s.ws 0)) := by
  have hb5 : w.cell? ⟨b, 5, none⟩ = some q.wv := blk_cell hst.1 5 rfl
  have hwl : s.ws.length ≤ 64 := hst.2.2.2.2.2.ws
  obtain ⟨wa, wcap, hwv, _⟩ := hst.2.2.1.slice
  have hwk := fun (k : Nat) (hk : k < s.ws.length) => hst.worker hk
  rw [hwv] at hb5 hwk
  have hobl := blk_lt hout.1
  have hlbl := World.block_lt_of_cell? _ _ hlb
  go_enter Try.func35, Try.ntmps35
  go_wp2
  go_loopg [15] s.ws.length (fun n i wr => ∃ k : Nat, k ≤ s.ws.length ∧ n = s.ws.length - k ∧ i = .int .i64 k ∧ EachI w ob v ms (eachOf 4 isIdle (fun _ => 0) (s.ws.take k) 0) wr)
  case atStart => exact ⟨0, Nat.zero_le _, by omega, rfl, v, by simpa [eachOf] using hout, Chg.refl _ _, fun g hg => .inl hg⟩
  case round =>
    obtain ⟨k, hk, hgk, rfl, v', hout', hch, hown⟩ := hrel
    by_cases hlt : k < s.ws.length
    · have hlt' : k < s.ws.length := hlt
      obtain ⟨wg, wo, wc, hwe, hw0, hw1⟩ := hwk k hlt'
      simp only [Value.slice.injEq, true_and] at hwe
      obtain ⟨rfl, rfl⟩ := hwe
      have hwf : wg ∉ ob :: v.ownBlock.toList := hF wg (by simp [LV.foot, hwv, Value.ownBlock])
      have hwgl := World.block_lt_of_cell? _ _ hw0
      have hw0' : wr.cell? ⟨wg, wo + k * 2, none⟩ = some (.int .i64 s.ws[k].1) := by rw [hch.cell (p := ⟨wg, wo + k * 2, none⟩) hwgl hwf]; exact hw0
      have hw1' : wr.cell? ⟨wg, wo + k * 2 + 1, none⟩ = some (.int .i64 s.ws[k].2) := by rw [hch.cell (p := ⟨wg, wo + k * 2 + 1, none⟩) hwgl hwf]; exact hw1
      have htake := eachOf_take 4 isIdle (fun _ => 0) s.ws k hlt'
      have hst1 := (hst.2.2.2.2.2.st s.ws[k] (List.getElem_mem hlt'))
      have hadd : (eachOf 4 isIdle (fun _ => 0) (s.ws.take k) 0).length ≤ 64 := Nat.le_trans (eachOf_length _ _ _ _ _) (by rw [List.length_take]; omega)
      have hwgl' : wg < wr.heap.size := by have := hch.size; simp only at hwgl; omega
      skip
      generalize s.ws[k] = x at *
      generalize eachOf 4 isIdle (fun _ => 0) (s.ws.take k) 0 = add at *
      have HT := Lib.hid htake
      have hwvH := Lib.hid hwv
      clear htake hwk hw0 hw1 hst hout hwf hwv hb5
      have his := waits_calls x
      cases hx : isIdle x with
      | false =>
        simp only [hx] at his
        have HX := Lib.hid hx
        clear hx
        go_wp2_with (go_at_call 37; refine (his _).mono ?_; rintro e w3 ⟨rfl, rfl⟩)
        go_roundg (s.ws.length - (k + 1))
        case measure => omega
        case rel =>
          refine ⟨k + 1, by omega, rfl, by go_num, v', ?_, (hch.alloc _).alloc _, hown⟩
          rw [HT.out, HX.out]
          have c0 : Chg [] wr ((wr.alloc (.cells #[.int .i64 x.1, .int .i64 x.2] 56)).alloc (.cells #[.int .i64 x.1, .int .i64 x.2] 56)) := ((Chg.refl _ _).alloc _).alloc _
          refine ⟨c0.at hout'.1 (by simp), ?_, hout'.2.2⟩
          have := hout'.2.1.chg0 c0
          simpa using this
      | true =>
        simp only [hx] at his
        have HX := Lib.hid hx
        clear hx
        go_wp2_with (go_at_call 37; refine (his _).mono ?_; rintro e w3 ⟨rfl, rfl⟩)
        generalize hW5 : World.alloc _ _ = w5
        have hc5 : Chg [] wr w5 := by rw [← hW5]; exact ((Chg.refl _ _).alloc _).alloc _
        have hbx0 : w5.cell? ⟨wr.heap.size, 0, none⟩ = some (.int .i64 x.1) := by rw [← hW5, World.cell?_alloc_lt _ _ _ (by simp)]; exact blk_cell (blk_new wr _) 0 rfl
        have hbx1 : w5.cell? ⟨wr.heap.size, 1, none⟩ = some (.int .i64 x.2) := by rw [← hW5, World.cell?_alloc_lt _ _ _ (by simp)]; exact blk_cell (blk_new wr _) 1 rfl
        have hbl : wr.heap.size < w5.heap.size := by rw [← hW5]; simp; omega
        have hob5 := hc5.at hout'.1 (by simp)
        have hob5c : w5.cell? ⟨ob, 0, none⟩ = some v' := blk_cell hob5 0 rfl
        have hob5l := blk_lt hob5
        clear hW5
        have hW0 : Chg [] w5 ((w5.alloc (.cells #[.int .i64 x.1, .int .i64 x.2] 56)).alloc (.cells #[.int .i64 4, .int .i64 k, .int .i64 ((fun _ => 0) x)] 31)).drew := (((Chg.refl _ _).alloc _).alloc _).drew
        have hM0 := blk_drew (blk_new (w5.alloc (.cells #[.int .i64 x.1, .int .i64 x.2] 56)) (.cells #[.int .i64 4, .int .i64 k, .int .i64 ((fun _ => 0) x)] 31))
        rw [World.size_alloc] at hM0
        have hout0 : OutIs ((w5.alloc (.cells #[.int .i64 x.1, .int .i64 x.2] 56)).alloc (.cells #[.int .i64 4, .int .i64 k, .int .i64 ((fun _ => 0) x)] 31)).drew ob v' (ms ++ add) :=
          ⟨hW0.at hob5 (by simp), (hout'.2.1.chg0 hc5).chg0 hW0, hout'.2.2⟩
        obtain ⟨v2, w6, hap, hrow2, hch2, hat2, ⟨a2, cap2, hv2⟩, hobc, hobf, hob6⟩ := hout0.app (by simp; omega) ⟨4, k, (fun _ => 0) x⟩ (w5.heap.size + 1) hM0
        simp only [hv2] at hap
        have HV2 := Lib.hid hv2
        clear hv2
        skip
        have hjob := none_calls x.1 x.2 w5.drew
        go_region_with (go_at_call 36; refine hjob.mono ?_; rintro e w' ⟨rfl, rfl⟩)
        all_goals
          go_wp2
          go_roundg (s.ws.length - (k + 1))
          case measure => omega
          case rel =>
            refine ⟨k + 1, by omega, rfl, by go_num, ?_⟩
            rw [HT.out, HX.out]
            have E := EachI.step hout' hch hown hobl (hc5.nil_trans hW0) hrow2 hch2 hat2 hob6
            rw [HV2.out, List.length_append] at E
            rw [if_pos rfl]
            exact E
    · obtain rfl : k = s.ws.length := by omega
      go_wp2
      go_end0
      refine ⟨rfl, v', ?_, hch, hown⟩
      rw [List.take_length] at hout'
      exact hout'
set_option maxRecDepth 100000 in
set_option maxHeartbeats 1000000 in
theorem each_ans (w : World) (b lb ob : Nat) (s : LS) (q : LV) (v : Value) (ms : List Mv) (hst : LmIs w b s q) (hlb : w.cell? ⟨lb, 0, none⟩ = some (.pointer (some ⟨b, 0, none⟩))) (hout : OutIs w ob v ms) (hms : ms.length ≤ 90000) (hF : ∀ k ∈ lb :: q.foot b, k ∉ ob :: v.ownBlock.toList) :
    Calls Try.prog 35 #[.int .i64 5, .func (.func 40) #[] #[], .func (.func 41) #[] #[], .pointer (some ⟨lb, 0, none⟩), .pointer (some ⟨ob, 0, none⟩)] w (EachP w ob v ms (eachOf 5 isBusy (fun x => x.2) s.ws 0)) := by
  have hb5 : w.cell? ⟨b, 5, none⟩ = some q.wv := blk_cell hst.1 5 rfl
  have hwl : s.ws.length ≤ 64 := hst.2.2.2.2.2.ws
  obtain ⟨wa, wcap, hwv, _⟩ := hst.2.2.1.slice
  have hwk := fun (k : Nat) (hk : k < s.ws.length) => hst.worker hk
  rw [hwv] at hb5 hwk
  have hobl := blk_lt hout.1
  have hlbl := World.block_lt_of_cell? _ _ hlb
  go_enter Try.func35, Try.ntmps35
  go_wp2
  go_loopg [15] s.ws.length (fun n i wr => ∃ k : Nat, k ≤ s.ws.length ∧ n = s.ws.length - k ∧ i = .int .i64 k ∧ EachI w ob v ms (eachOf 5 isBusy (fun x => x.2) (s.ws.take k) 0) wr)
  case atStart => exact ⟨0, Nat.zero_le _, by omega, rfl, v, by simpa [eachOf] using hout, Chg.refl _ _, fun g hg => .inl hg⟩
  case round =>
    obtain ⟨k, hk, hgk, rfl, v', hout', hch, hown⟩ := hrel
    by_cases hlt : k < s.ws.length
    · have hlt' : k < s.ws.length := hlt
      obtain ⟨wg, wo, wc, hwe, hw0, hw1⟩ := hwk k hlt'
      simp only [Value.slice.injEq, true_and] at hwe
      obtain ⟨rfl, rfl⟩ := hwe
      have hwf : wg ∉ ob :: v.ownBlock.toList := hF wg (by simp [LV.foot, hwv, Value.ownBlock])
      have hwgl := World.block_lt_of_cell? _ _ hw0
      have hw0' : wr.cell? ⟨wg, wo + k * 2, none⟩ = some (.int .i64 s.ws[k].1) := by rw [hch.cell (p := ⟨wg, wo + k * 2, none⟩) hwgl hwf]; exact hw0
      have hw1' : wr.cell? ⟨wg, wo + k * 2 + 1, none⟩ = some (.int .i64 s.ws[k].2) := by rw [hch.cell (p := ⟨wg, wo + k * 2 + 1, none⟩) hwgl hwf]; exact hw1
      have htake := eachOf_take 5 isBusy (fun x => x.2) s.ws k hlt'
      have hst1 := (hst.2.2.2.2.2.st s.ws[k] (List.getElem_mem hlt'))
      have hadd : (eachOf 5 isBusy (fun x => x.2) (s.ws.take k) 0).length ≤ 64 := Nat.le_trans (eachOf_length _ _ _ _ _) (by rw [List.length_take]; omega)
      have hwgl' : wg < wr.heap.size := by have := hch.size; simp only at hwgl; omega
      skip
      generalize s.ws[k] = x at *
      generalize eachOf 5 isBusy (fun x => x.2) (s.ws.take k) 0 = add at *
      have HT := Lib.hid htake
      have hwvH := Lib.hid hwv
      clear htake hwk hw0 hw1 hst hout hwf hwv hb5
      have his := busy_calls x
      cases hx : isBusy x with
      | false =>
        simp only [hx] at his
        have HX := Lib.hid hx
        clear hx
        go_wp2_with (go_at_call 40; refine (his _).mono ?_; rintro e w3 ⟨rfl, rfl⟩)
        go_roundg (s.ws.length - (k + 1))
        case measure => omega
        case rel =>
          refine ⟨k + 1, by omega, rfl, by go_num, v', ?_, (hch.alloc _).alloc _, hown⟩
          rw [HT.out, HX.out]
          have c0 : Chg [] wr ((wr.alloc (.cells #[.int .i64 x.1, .int .i64 x.2] 56)).alloc (.cells #[.int .i64 x.1, .int .i64 x.2] 56)) := ((Chg.refl _ _).alloc _).alloc _
          refine ⟨c0.at hout'.1 (by simp), ?_, hout'.2.2⟩
          have := hout'.2.1.chg0 c0
          simpa using this
      | true =>
        simp only [hx] at his
        have HX := Lib.hid hx
        clear hx
        go_wp2_with (go_at_call 40; refine (his _).mono ?_; rintro e w3 ⟨rfl, rfl⟩)
        generalize hW5 : World.alloc _ _ = w5
        have hc5 : Chg [] wr w5 := by rw [← hW5]; exact ((Chg.refl _ _).alloc _).alloc _
        have hbx0 : w5.cell? ⟨wr.heap.size, 0, none⟩ = some (.int .i64 x.1) := by rw [← hW5, World.cell?_alloc_lt _ _ _ (by simp)]; exact blk_cell (blk_new wr _) 0 rfl
        have hbx1 : w5.cell? ⟨wr.heap.size, 1, none⟩ = some (.int .i64 x.2) := by rw [← hW5, World.cell?_alloc_lt _ _ _ (by simp)]; exact blk_cell (blk_new wr _) 1 rfl
        have hbl : wr.heap.size < w5.heap.size := by rw [← hW5]; simp; omega
        have hob5 := hc5.at hout'.1 (by simp)
        have hob5c : w5.cell? ⟨ob, 0, none⟩ = some v' := blk_cell hob5 0 rfl
        have hob5l := blk_lt hob5
        clear hW5
        have hW0 : Chg [] w5 ((w5.alloc (.cells #[.int .i64 x.1, .int .i64 x.2] 56)).alloc (.cells #[.int .i64 5, .int .i64 k, .int .i64 ((fun x => x.2) x)] 31)).drew := (((Chg.refl _ _).alloc _).alloc _).drew
        have hM0 := blk_drew (blk_new (w5.alloc (.cells #[.int .i64 x.1, .int .i64 x.2] 56)) (.cells #[.int .i64 5, .int .i64 k, .int .i64 ((fun x => x.2) x)] 31))
        rw [World.size_alloc] at hM0
        have hout0 : OutIs ((w5.alloc (.cells #[.int .i64 x.1, .int .i64 x.2] 56)).alloc (.cells #[.int .i64 5, .int .i64 k, .int .i64 ((fun x => x.2) x)] 31)).drew ob v' (ms ++ add) :=
          ⟨hW0.at hob5 (by simp), (hout'.2.1.chg0 hc5).chg0 hW0, hout'.2.2⟩
        obtain ⟨v2, w6, hap, hrow2, hch2, hat2, ⟨a2, cap2, hv2⟩, hobc, hobf, hob6⟩ := hout0.app (by simp; omega) ⟨5, k, (fun x => x.2) x⟩ (w5.heap.size + 1) hM0
        simp only [hv2] at hap
        have HV2 := Lib.hid hv2
        clear hv2
        skip
        have hjob := bj_calls x w5.drew
        go_region_with (go_at_call 41; refine hjob.mono ?_; rintro e w' ⟨rfl, rfl⟩)
        all_goals
          go_wp2
          go_roundg (s.ws.length - (k + 1))
          case measure => omega
          case rel =>
            refine ⟨k + 1, by omega, rfl, by go_num, ?_⟩
            rw [HT.out, HX.out]
            have E := EachI.step hout' hch hown hobl (hc5.nil_trans hW0) hrow2 hch2 hat2 hob6
            rw [HV2.out, List.length_append] at E
            rw [if_pos rfl]
            exact E
    · obtain rfl : k = s.ws.length := by omega
      go_wp2
      go_end0
      refine ⟨rfl, v', ?_, hch, hown⟩
      rw [List.take_length] at hout'
      exact hout'
set_option maxRecDepth 100000 in
set_option maxHeartbeats 1000000 in
theorem each_quit (w : World) (b lb ob : Nat) (s : LS) (q : LV) (v : Value) (ms : List Mv) (hst : LmIs w b s q) (hlb : w.cell? ⟨lb, 0, none⟩ = some (.pointer (some ⟨b, 0, none⟩))) (hout : OutIs w ob v ms) (hms : ms.length ≤ 90000) (hF : ∀ k ∈ lb :: q.foot b, k ∉ ob :: v.ownBlock.toList) :
    Calls Try.prog 35 #[.int .i64 6, .func (.func 42) #[] #[], .func (.func 36) #[] #[], .pointer (some ⟨lb, 0, none⟩), .pointer (some ⟨ob, 0, none⟩)] w (EachP w ob v ms (eachOf 6 notLeft (fun _ => 0) s.ws 0)) := by
  have hb5 : w.cell? ⟨b, 5, none⟩ = some q.wv := blk_cell hst.1 5 rfl
  have hwl : s.ws.length ≤ 64 := hst.2.2.2.2.2.ws
  obtain ⟨wa, wcap, hwv, _⟩ := hst.2.2.1.slice
  have hwk := fun (k : Nat) (hk : k < s.ws.length) => hst.worker hk
  rw [hwv] at hb5 hwk
  have hobl := blk_lt hout.1
  have hlbl := World.block_lt_of_cell? _ _ hlb
  go_enter Try.func35, Try.ntmps35
  go_wp2
  go_loopg [15] s.ws.length (fun n i wr => ∃ k : Nat, k ≤ s.ws.length ∧ n = s.ws.length - k ∧ i = .int .i64 k ∧ EachI w ob v ms (eachOf 6 notLeft (fun _ => 0) (s.ws.take k) 0) wr)
  case atStart => exact ⟨0, Nat.zero_le _, by omega, rfl, v, by simpa [eachOf] using hout, Chg.refl _ _, fun g hg => .inl hg⟩
  case round =>
    obtain ⟨k, hk, hgk, rfl, v', hout', hch, hown⟩ := hrel
    by_cases hlt : k < s.ws.length
    · have hlt' : k < s.ws.length := hlt
      obtain ⟨wg, wo, wc, hwe, hw0, hw1⟩ := hwk k hlt'
      simp only [Value.slice.injEq, true_and] at hwe
      obtain ⟨rfl, rfl⟩ := hwe
      have hwf : wg ∉ ob :: v.ownBlock.toList := hF wg (by simp [LV.foot, hwv, Value.ownBlock])
      have hwgl := World.block_lt_of_cell? _ _ hw0
      have hw0' : wr.cell? ⟨wg, wo + k * 2, none⟩ = some (.int .i64 s.ws[k].1) := by rw [hch.cell (p := ⟨wg, wo + k * 2, none⟩) hwgl hwf]; exact hw0
      have hw1' : wr.cell? ⟨wg, wo + k * 2 + 1, none⟩ = some (.int .i64 s.ws[k].2) := by rw [hch.cell (p := ⟨wg, wo + k * 2 + 1, none⟩) hwgl hwf]; exact hw1
      have htake := eachOf_take 6 notLeft (fun _ => 0) s.ws k hlt'
      have hst1 := (hst.2.2.2.2.2.st s.ws[k] (List.getElem_mem hlt'))
      have hadd : (eachOf 6 notLeft (fun _ => 0) (s.ws.take k) 0).length ≤ 64 := Nat.le_trans (eachOf_length _ _ _ _ _) (by rw [List.length_take]; omega)
      have hwgl' : wg < wr.heap.size := by have := hch.size; simp only at hwgl; omega
      skip
      generalize s.ws[k] = x at *
      generalize eachOf 6 notLeft (fun _ => 0) (s.ws.take k) 0 = add at *
      have HT := Lib.hid htake
      have hwvH := Lib.hid hwv
      clear htake hwk hw0 hw1 hst hout hwf hwv hb5
      have his := notl_calls x
      cases hx : notLeft x with
      | false =>
        simp only [hx] at his
        have HX := Lib.hid hx
        clear hx
        go_wp2_with (go_at_call 42; refine (his _).mono ?_; rintro e w3 ⟨rfl, rfl⟩)
        go_roundg (s.ws.length - (k + 1))
        case measure => omega
        case rel =>
          refine ⟨k + 1, by omega, rfl, by go_num, v', ?_, (hch.alloc _).alloc _, hown⟩
          rw [HT.out, HX.out]
          have c0 : Chg [] wr ((wr.alloc (.cells #[.int .i64 x.1, .int .i64 x.2] 56)).alloc (.cells #[.int .i64 x.1, .int .i64 x.2] 56)) := ((Chg.refl _ _).alloc _).alloc _
          refine ⟨c0.at hout'.1 (by simp), ?_, hout'.2.2⟩
          have := hout'.2.1.chg0 c0
          simpa using this
      | true =>
        simp only [hx] at his
        have HX := Lib.hid hx
        clear hx
        go_wp2_with (go_at_call 42; refine (his _).mono ?_; rintro e w3 ⟨rfl, rfl⟩)
        generalize hW5 : World.alloc _ _ = w5
        have hc5 : Chg [] wr w5 := by rw [← hW5]; exact ((Chg.refl _ _).alloc _).alloc _
        have hbx0 : w5.cell? ⟨wr.heap.size, 0, none⟩ = some (.int .i64 x.1) := by rw [← hW5, World.cell?_alloc_lt _ _ _ (by simp)]; exact blk_cell (blk_new wr _) 0 rfl
        have hbx1 : w5.cell? ⟨wr.heap.size, 1, none⟩ = some (.int .i64 x.2) := by rw [← hW5, World.cell?_alloc_lt _ _ _ (by simp)]; exact blk_cell (blk_new wr _) 1 rfl
        have hbl : wr.heap.size < w5.heap.size := by rw [← hW5]; simp; omega
        have hob5 := hc5.at hout'.1 (by simp)
        have hob5c : w5.cell? ⟨ob, 0, none⟩ = some v' := blk_cell hob5 0 rfl
        have hob5l := blk_lt hob5
        clear hW5
        have hW0 : Chg [] w5 ((w5.alloc (.cells #[.int .i64 x.1, .int .i64 x.2] 56)).alloc (.cells #[.int .i64 6, .int .i64 k, .int .i64 ((fun _ => 0) x)] 31)).drew := (((Chg.refl _ _).alloc _).alloc _).drew
        have hM0 := blk_drew (blk_new (w5.alloc (.cells #[.int .i64 x.1, .int .i64 x.2] 56)) (.cells #[.int .i64 6, .int .i64 k, .int .i64 ((fun _ => 0) x)] 31))
        rw [World.size_alloc] at hM0
        have hout0 : OutIs ((w5.alloc (.cells #[.int .i64 x.1, .int .i64 x.2] 56)).alloc (.cells #[.int .i64 6, .int .i64 k, .int .i64 ((fun _ => 0) x)] 31)).drew ob v' (ms ++ add) :=
          ⟨hW0.at hob5 (by simp), (hout'.2.1.chg0 hc5).chg0 hW0, hout'.2.2⟩
        obtain ⟨v2, w6, hap, hrow2, hch2, hat2, ⟨a2, cap2, hv2⟩, hobc, hobf, hob6⟩ := hout0.app (by simp; omega) ⟨6, k, (fun _ => 0) x⟩ (w5.heap.size + 1) hM0
        simp only [hv2] at hap
        have HV2 := Lib.hid hv2
        clear hv2
        skip
        have hjob := none_calls x.1 x.2 w5.drew
        go_region_with (go_at_call 36; refine hjob.mono ?_; rintro e w' ⟨rfl, rfl⟩)
        all_goals
          go_wp2
          go_roundg (s.ws.length - (k + 1))
          case measure => omega
          case rel =>
            refine ⟨k + 1, by omega, rfl, by go_num, ?_⟩
            rw [HT.out, HX.out]
            have E := EachI.step hout' hch hown hobl (hc5.nil_trans hW0) hrow2 hch2 hat2 hob6
            rw [HV2.out, List.length_append] at E
            rw [if_pos rfl]
            exact E
    · obtain rfl : k = s.ws.length := by omega
      go_wp2
      go_end0
      refine ⟨rfl, v', ?_, hch, hown⟩
      rw [List.take_length] at hout'
      exact hout'
end Go.Proofs.Ytfmdghijbkddpaa

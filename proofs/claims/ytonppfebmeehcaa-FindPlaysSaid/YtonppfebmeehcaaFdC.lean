/- A find: Add walked. -/
import Derived.Test.YtonppfebmeehcaaFdB
import Derived.BigRegion
import Derived.RegionTactic
import Derived.Deep.Cut
import Derived.Deep.RegionHeld3
import Derived.BigQuiet
import Derived.Deep.LoopGhost
namespace Go.Proofs.Ytonppfebmeehcaa
open Go.RowKit
set_option linter.unusedVariables false
set_option linter.unusedSimpArgs false

theorem idxOf_append (k x : HK) (ls : List HK) : idxOf k (ls ++ [x]) = if x = k then idxOf k ls ++ [ls.length] else idxOf k ls := by
  unfold idxOf
  rw [List.length_append, List.length_singleton, List.range_succ, List.filter_append]
  have h1 : (List.range ls.length).filter (fun i => decide ((ls ++ [x])[i]? = some k)) = (List.range ls.length).filter (fun i => decide (ls[i]? = some k)) := by
    apply List.filter_congr
    intro i hi
    rw [List.getElem?_append_left (by simpa using hi)]
  rw [h1]
  by_cases h : x = k
  · rw [if_pos h]; simp [h]
  · rw [if_neg h]; simp [h]
theorem idxOf_length (k : HK) (ls : List HK) : (idxOf k ls).length ≤ ls.length := by
  unfold idxOf
  have := List.length_filter_le (fun i => decide (ls[i]? = some k)) (List.range ls.length)
  rwa [List.length_range] at this
theorem idxOf_none (k : HK) (ls : List HK) (h : k ∉ ls) : idxOf k ls = [] := by
  unfold idxOf
  rw [List.filter_eq_nil_iff]
  intro i hi
  simp only [decide_eq_true_eq]
  intro e
  exact h (List.mem_iff_getElem?.2 ⟨i, e⟩)
theorem UOwn.pushAt {w : World} {B : Nat} {v : Value} {l : List Nat} (h : UOwn w B v l) (x g : Nat) (hg : w.heap[g]? = some (.cells #[.int .u64 x] 31 (0, 0))) (hlen : l.length ≤ 1099511627776) (hB : B ≤ w.heap.size) (ty : TypeId) :
    ∃ v' w', (Builtin.append_ #[36, 36] ty #[v, .slice (some ⟨g, 0, none⟩) 1 1]).run Try.prog w = .ok v' w' ∧ UOwn w' B v' (l ++ [x]) ∧ Chg (ob v) w w' ∧ (∀ k ∈ ob v', k ∈ ob v ∨ w.heap.size ≤ k) := by
  obtain ⟨i, hi, hz, hsz, hby⟩ := infoOfU i_u64
  obtain ⟨v', w', hr, h2, h3, h4⟩ := run_append_any (P := Try.prog) w B 36 ty 31 i _ 1 8 u_u64s hi hz hsz hby rfl (by decide) v l.length _ h (some ⟨g, 0, none⟩) 1 1 [.int .u64 x]
    ⟨rfl, fun _ => ⟨g, 0, rfl, fun j u hu => by
      have : j = 0 := by
        cases j with
        | zero => rfl
        | succ j => simp at hu
      subst this
      simp at hu
      subst hu
      exact blk_cell hg 0 rfl⟩⟩ (by intro u hu; simp at hu; subst hu; rfl) (by unfold maxLen; omega) (by omega) hB
  refine ⟨v', w', hr, ?_, h3, h4⟩
  unfold UOwn
  rw [List.length_append, List.map_append]
  exact h2
theorem FdIs.cur {w : World} {b : Nat} {f : FS} (h : FdIs w b f) (k : HK) : UOwn w 0 ((mget f.mp k).getD (.slice none 0 0)) (idxOf k f.ls) := by
  cases hm : mget f.mp k with
  | none =>
    have : k ∉ f.ls := fun hk => by have := h.has k hk; rw [hm] at this; cases this
    rw [idxOf_none k _ this]
    exact UOwn.nil _ _
  | some v => exact (h.val k v (mget_mem hm)).1
theorem mem_put {K : Type} [DecidableEq K] {m : List (K × Value)} {a k : K} {x v : Value} (h : (k, v) ∈ mput m a x) : (k = a ∧ v = x) ∨ (k ≠ a ∧ (k, v) ∈ m) := by
  unfold mput at h
  split at h
  · obtain ⟨y, hy, e⟩ := List.mem_map.1 h
    by_cases hya : y.1 = a
    · rw [if_pos hya] at e
      injection e with e1 e2
      exact .inl ⟨e1.symm, e2.symm⟩
    · rw [if_neg hya] at e
      subst e
      exact .inr ⟨hya, hy⟩
  · rename_i hn
    rcases List.mem_append.1 h with q | q
    · refine .inr ⟨fun e => hn ?_, q⟩
      cases hm : mget m a with
      | some _ => rfl
      | none => exact absurd e ((mget_none_iff m a).1 hm _ q)
    · simp at q
      exact .inl q
def apY (ts : Array TypeId) (ty : TypeId) (xs : Array Value) : Sem Value := Builtin.append_ ts ty xs
theorem hold_apY (ts : Array TypeId) (ty : TypeId) (xs : Array Value) : Builtin.append_ ts ty xs = apY ts ty xs := rfl
def meY (t : TypeId) (m k : Value) : Sem Value := Instr.mapEntry t m k
theorem hold_meY (t : TypeId) (m k : Value) : Instr.mapEntry t m k = meY t m k := rfl
def esY (t : TypeId) (m s v : Value) : Sem Unit := Instr.entryStore t m s v
theorem hold_esY (t : TypeId) (m s v : Value) : Instr.entryStore t m s v = esY t m s v := rfl
attribute [local go_sem ↓] hold_apY hold_meY hold_esY
/-- The find's own blocks. -/
def FS.foot (f : FS) (b : Nat) : List Nat := b :: f.m :: (ob f.lv ++ f.mp.flatMap fun x => ob x.2)
theorem FS.foot_val {f : FS} {b : Nat} {k : HK} {v : Value} (h : (k, v) ∈ f.mp) {x : Nat} (hx : x ∈ ob v) : x ∈ f.foot b :=
  List.mem_cons_of_mem _ (List.mem_cons_of_mem _ (List.mem_append.2 (.inr (List.mem_flatMap.2 ⟨(k, v), h, hx⟩))))
theorem FS.foot_row {f : FS} {b x : Nat} (hx : x ∈ ob f.lv) : x ∈ f.foot b := List.mem_cons_of_mem _ (List.mem_cons_of_mem _ (List.mem_append.2 (.inl hx)))
theorem FS.foot_map {f : FS} {b : Nat} : f.m ∈ f.foot b := List.mem_cons_of_mem _ (List.mem_cons_self)
theorem FS.foot_head {f : FS} {b : Nat} : b ∈ f.foot b := List.mem_cons_self
theorem FS.foot_cur {f : FS} {b : Nat} {k : HK} {x : Nat} (hx : x ∈ ob ((mget f.mp k).getD (.slice none 0 0))) : x ∈ f.foot b := by
  cases hm : mget f.mp k with
  | none => rw [hm] at hx; simp [ob_nil] at hx
  | some v => rw [hm] at hx; exact FS.foot_val (mget_mem hm) hx
theorem FS.foot_cases {f : FS} {b x : Nat} (hx : x ∈ f.foot b) : x = b ∨ x = f.m ∨ x ∈ ob f.lv ∨ ∃ k v, (k, v) ∈ f.mp ∧ x ∈ ob v := by
  rcases List.mem_cons.1 hx with q | q
  · exact .inl q
  rcases List.mem_cons.1 q with q | q
  · exact .inr (.inl q)
  rcases List.mem_append.1 q with q | q
  · exact .inr (.inr (.inl q))
  obtain ⟨⟨k, v⟩, h1, h2⟩ := List.mem_flatMap.1 q
  exact .inr (.inr (.inr ⟨k, v, h1, h2⟩))
theorem FdIs.lt {w : World} {b : Nat} {f : FS} (h : FdIs w b f) : ∀ x ∈ f.foot b, x < w.heap.size := by
  intro x hx
  rcases FS.foot_cases hx with rfl | rfl | q | ⟨k, v, h1, h2⟩
  · exact blk_lt h.mem
  · exact h.map.lt
  · exact (own_lt h.row.1 _ q).2
  · exact (own_lt (h.val k v h1).1 x h2).2
theorem FdIs.chg {w w' : World} {b : Nat} {f : FS} {F : List Nat} (h : FdIs w b f) (hc : Chg F w w') (hF : ∀ x ∈ f.foot b, x ∉ F) : FdIs w' b f :=
  ⟨hc.at h.mem (hF _ FS.foot_head), h.row.chg hc (fun x hx => hF _ (FS.foot_row hx)), h.map.chg hc (hF _ FS.foot_map), fun k v hk => ⟨own_chg (h.val k v hk).1 hc (fun x hx => hF _ (FS.foot_val hk hx)), (h.val k v hk).2⟩, h.has, h.bm, h.bl, h.ml, h.vb, h.vv⟩
def AddP (w : World) (b : Nat) (f : FS) (k : HK) (e : Ending) (w' : World) : Prop := ∃ f', e = .returned (.int .u64 (f.ls.length : Nat)) ∧ FdIs w' b f' ∧ f'.ls = f.ls ++ [k] ∧ Chg (f.foot b) w w' ∧ ∀ x ∈ f'.foot b, x ∈ f.foot b ∨ w.heap.size ≤ x
set_option maxRecDepth 100000 in
set_option maxHeartbeats 4000000 in
theorem dAdd_calls (w : World) (b : Nat) (f : FS) (h : FdIs w b f) (hl : f.ls.length ≤ 100000) (k : HK) : Calls Try.prog 10 #[.pointer (some ⟨b, 0, none⟩), .agg k.1] w (AddP w b f k) := by
  obtain ⟨w0, rfl⟩ : ∃ w0 : World, w0 = w := ⟨_, rfl⟩
  have hk1 := k.2.1
  have hk2 := k.2.one
  have h1 := h.chg0 ((Chg.refl [] w0).alloc (.cells k.1 30))
  have hsz := dSize_calls _ b f h1 (by omega)
  have hbx := rng?_row (blk_new w0 (.cells k.1 30)) hk1
  have hLn : w0.heap.size < (w0.alloc (.cells k.1 30)).heap.size := by simp
  have c0 : (w0.alloc (.cells k.1 30)).cell? ⟨b, 0, none⟩ = some f.lv := blk_cell h1.mem 0 rfl
  have c1 : (w0.alloc (.cells k.1 30)).cell? ⟨b, 1, none⟩ = some (.map (some f.m)) := blk_cell h1.mem 1 rfl
  have c0b : ((w0.alloc (.cells k.1 30)).alloc (.cells k.1 30)).cell? ⟨b, 0, none⟩ = some f.lv := blk_cell (((Chg.refl [] (w0.alloc (.cells k.1 30))).alloc _).at h1.mem (by simp)) 0 rfl
  have hb := blk_lt h1.mem
  have hpush := (h1.row.chg ((Chg.refl [] (w0.alloc (.cells k.1 30))).drew) (by simp)).push k.1 k.2 (by rw [List.length_map]; omega) (Nat.zero_le _) 26
  obtain ⟨v2, w2, hr2, hO2, hc2, hb2⟩ := hpush
  obtain ⟨a2, cap2, hv2⟩ := hO2.shape
  rw [show (f.ls.map (·.1) ++ [k.1]).length = f.ls.length + 1 from by simp] at hv2
  subst hv2
  have hrun : (apY #[26, 26] 26 #[f.lv, .slice (some ⟨(w0.alloc (.cells k.1 30)).heap.size, 0, none⟩) 1 1]).run Try.prog (((w0.alloc (.cells k.1 30)).alloc (.cells k.1 30)).drew) = .ok (.slice a2 (f.ls.length + 1) cap2) w2 := hr2
  rw [World.size_alloc] at hrun
  have d0 : w2.cell? ⟨b, 0, none⟩ = some f.lv := by
    have := hc2.at (((Chg.refl [] (w0.alloc (.cells k.1 30))).drew).at h1.mem (by simp)) h.bl
    exact blk_cell this 0 rfl
  have d1 : w2.frozen? ⟨b, 0, none⟩ = false := by
    have := hc2.at (((Chg.refl [] (w0.alloc (.cells k.1 30))).drew).at h1.mem (by simp)) h.bl
    exact blk_frozen this 0
  go_enter Try.func10, Try.ntmps10
  go_upto_region 2 with (go_at_call 22; refine hsz.mono ?_; rintro e w3 ⟨rfl, hw3⟩; obtain rfl : _ = w3 := hw3.symm)
  go_region
  clear hrun hr2 c0 c1 c0b d0 d1 hb hsz
  have e0 : (w2.setCell ⟨b, 0, none⟩ (.slice a2 (f.ls.length + 1) cap2)).heap[b]? = some (.cells #[.slice a2 (f.ls.length + 1) cap2, .map (some f.m)] 72 (0, 0)) := by
    have := hc2.at (((Chg.refl [] (w0.alloc (.cells k.1 30))).drew).at h1.mem (by simp)) h.bl
    exact blk_set this 0 _
  have c02 : Chg (b :: ob f.lv) (w0.alloc (.cells k.1 30)) (w2.setCell ⟨b, 0, none⟩ (.slice a2 (f.ls.length + 1) cap2)) := by
    have q1 : Chg (b :: ob f.lv) (w0.alloc (.cells k.1 30)) (w0.alloc (.cells k.1 30)).drew := (Chg.refl _ _).drew
    have q2 : Chg (b :: ob f.lv) (w0.alloc (.cells k.1 30)).drew w2 := hc2.mono (fun x hx _ => List.mem_cons_of_mem _ hx)
    exact (q1.trans q2 (fun x hx => .inl hx)).setCell (.inl (List.mem_cons_self)) _
  have e1 : MapIs encH (w2.setCell ⟨b, 0, none⟩ (.slice a2 (f.ls.length + 1) cap2)) f.m f.mp := h1.map.chg c02 (by intro hm; rcases List.mem_cons.1 hm with q | q; exact h.bm q.symm; exact h.ml q)
  have e2 : HOwn (w2.setCell ⟨b, 0, none⟩ (.slice a2 (f.ls.length + 1) cap2)) 0 (.slice a2 (f.ls.length + 1) cap2) (f.ls.map (·.1) ++ [k.1]) := hO2.chg ((Chg.refl [b] w2).setCell (.inl (by simp)) _) (by
    intro x hx hxb
    have : x = b := by simpa using hxb
    subst this
    rcases hb2 x hx with q | q
    · exact h.bl q
    · have := blk_lt h1.mem
      exact absurd this (Nat.not_lt.2 q))
  have e3 : ∀ k' v, (k', v) ∈ f.mp → UOwn (w2.setCell ⟨b, 0, none⟩ (.slice a2 (f.ls.length + 1) cap2)) 0 v (idxOf k' f.ls) := fun k' v hk' => own_chg (h1.val k' v hk').1 c02 (by
    intro x hx hxb
    rcases List.mem_cons.1 hxb with q | q
    · subst q; exact (h.vb k' v hk').1 hx
    · exact (h.vb k' v hk').2.2 x hx q)
  have e4 := rng?_chg c02 hbx (by omega) (by
    intro hx
    rcases List.mem_cons.1 hx with q | q
    · have := blk_lt h.mem; omega
    · have := own_lt h.row.1 _ q; omega)
  have e5 : w0.heap.size < (w2.setCell ⟨b, 0, none⟩ (.slice a2 (f.ls.length + 1) cap2)).heap.size := by have := c02.size; omega
  generalize w2.setCell ⟨b, 0, none⟩ (.slice a2 (f.ls.length + 1) cap2) = w4 at *
  have g1 : w4.cell? ⟨b, 1, none⟩ = some (.map (some f.m)) := blk_cell e0 1 rfl
  have gb := blk_lt e0
  obtain ⟨o5, st, hme, hEA⟩ := (e1.chg (((Chg.refl [] w4).alloc (.cells #[.int .u64 (f.ls.length : Nat)] 31)).drew) (by simp)).ent encH_law u_maph z_u64s k
  have hme2 : (meY 70 (.map (some f.m)) (.agg k.1)).run Try.prog ((w4.alloc (.cells #[.int .u64 (f.ls.length : Nat)] 31)).drew) = .ok (.tuple #[(mget f.mp k).getD (.slice none 0 0), .int .i64 (st : Nat)]) (setMap ((w4.alloc (.cells #[.int .u64 (f.ls.length : Nat)] 31)).drew) f.m o5) := hme
  have g2 : (w4.alloc (.cells #[.int .u64 (f.ls.length : Nat)] 31)).cell? ⟨b, 1, none⟩ = some (.map (some f.m)) := blk_cell (((Chg.refl [] w4).alloc _).at e0 (by simp)) 1 rfl
  have g3 := rng?_chg ((Chg.refl [] w4).alloc (.cells #[.int .u64 (f.ls.length : Nat)] 31)) e4 (by omega) (by simp)
  have hcm : b ∉ ob ((mget f.mp k).getD (.slice none 0 0)) ∧ f.m ∉ ob ((mget f.mp k).getD (.slice none 0 0)) ∧ ∀ x ∈ ob ((mget f.mp k).getD (.slice none 0 0)), x ∉ ob f.lv := by
    cases hm : mget f.mp k with
    | none => simp [ob_nil]
    | some v => exact h.vb k v (mget_mem hm)
  have hcu : UOwn w4 0 ((mget f.mp k).getD (.slice none 0 0)) (idxOf k f.ls) := own_chg (h1.cur k) c02 (by
    intro x hx hxb
    rcases List.mem_cons.1 hxb with q | q
    · subst q; exact hcm.1 hx
    · exact hcm.2.2 x hx q)
  have hc6 : Chg [f.m] w4 (setMap ((w4.alloc (.cells #[.int .u64 (f.ls.length : Nat)] 31)).drew) f.m o5) := ((((Chg.refl [f.m] w4).alloc _).drew).trans (setMap_chg _ f.m o5) (fun x hx => .inl hx))
  have hg6 : (setMap ((w4.alloc (.cells #[.int .u64 (f.ls.length : Nat)] 31)).drew) f.m o5).heap[w4.heap.size]? = some (.cells #[.int .u64 (f.ls.length : Nat)] 31 (0, 0)) :=
    (setMap_chg _ f.m o5).at (((Chg.refl [] _).drew).at (blk_new w4 _) (by simp)) (by have := e1.lt; simp; omega)
  obtain ⟨v7, w7, hr7, hO7, hc7, hb7⟩ := UOwn.pushAt (own_chg hcu hc6 (by intro x hx hxb; rw [List.mem_singleton] at hxb; subst hxb; exact hcm.2.1 hx)) f.ls.length w4.heap.size hg6 (by have := idxOf_length k f.ls; omega) (Nat.zero_le _) 36
  have hr7' : (apY #[36, 36] 36 #[(mget f.mp k).getD (.slice none 0 0), .slice (some ⟨w4.heap.size, 0, none⟩) 1 1]).run Try.prog (setMap ((w4.alloc (.cells #[.int .u64 (f.ls.length : Nat)] 31)).drew) f.m o5) = .ok v7 w7 := hr7
  obtain ⟨o8, hs8, hM8⟩ := (hEA.chg hc7 hcm.2.1).store (P := Try.prog) (t := 70) v7
  have hs8' : (esY 70 (.map (some f.m)) (.int .i64 (st : Int)) v7).run Try.prog w7 = .ok () (setMap w7 f.m o8) := hs8
  have HB2 := Lib.hid hb2
  have HB7 := Lib.hid hb7
  have HC6 := Lib.hid hc6
  have HC7 := Lib.hid hc7
  clear hO2 hb2 hc2 h1 hbx hLn
  go_upto_region 3 with (fail)
  go_region
  go_wp2
  go_ret
  have hcF : Chg (f.m :: ob ((mget f.mp k).getD (.slice none 0 0))) w4 (setMap w7 f.m o8) :=
    ((HC6.out.mono (G := f.m :: ob ((mget f.mp k).getD (.slice none 0 0))) (fun x hx _ => by rw [List.mem_singleton] at hx; subst hx; exact List.mem_cons_self)).trans HC7.out (fun x hx => .inl (List.mem_cons_of_mem _ hx))).trans (setMap_chg w7 f.m o8) (fun x hx => .inl (by rw [List.mem_singleton] at hx; subst hx; exact List.mem_cons_self))
  have hcl : ∀ x ∈ ob ((mget f.mp k).getD (.slice none 0 0)), x < w0.heap.size := by
    cases hm : mget f.mp k with
    | none => simp [ob_nil]
    | some v => exact fun x hx => (own_lt (h.val k v (mget_mem hm)).1 x hx).2
  have hz0 : w0.heap.size ≤ (w0.alloc (.cells k.1 30)).drew.heap.size := (((Chg.refl [] w0).alloc _).drew).size
  have hz6 := HC6.out.size
  have hml := h.map.lt
  have hbl := blk_lt h.mem
  have hll := own_lt e2.1
  have hcv : ∀ k' v, (k', v) ∈ f.mp → k' ≠ k → ∀ x ∈ ob v, x ∉ ob ((mget f.mp k).getD (.slice none 0 0)) := by
    intro k' v hk' hne
    cases hm : mget f.mp k with
    | none => simp [ob_nil]
    | some v0 => exact h.vv k' v k v0 hk' (mget_mem hm) hne
  have hlv : ∀ x ∈ ob (.slice a2 (f.ls.length + 1) cap2), x ≠ b ∧ x ≠ f.m ∧ x ∉ ob ((mget f.mp k).getD (.slice none 0 0)) ∧ ∀ k' v, (k', v) ∈ f.mp → x ∉ ob v := by
    intro x hx
    rcases HB2.out x hx with q | q
    · exact ⟨fun e => h.bl (e ▸ q), fun e => h.ml (e ▸ q), fun e => hcm.2.2 x e q, fun k' v hk' e => (h.vb k' v hk').2.2 x e q⟩
    · exact ⟨by omega, by omega, fun e => by have := hcl x e; omega, fun k' v hk' e => by have := (own_lt (h.val k' v hk').1 x e).2; omega⟩
  have h77 : ∀ x ∈ ob v7, x ≠ b ∧ x ≠ f.m ∧ x ∉ ob (.slice a2 (f.ls.length + 1) cap2) ∧ ∀ k' v, (k', v) ∈ f.mp → k' ≠ k → x ∉ ob v := by
    intro x hx
    rcases HB7.out x hx with q | q
    · exact ⟨fun e => hcm.1 (e ▸ q), fun e => hcm.2.1 (e ▸ q), fun e => (hlv x e).2.2.1 q, fun k' v hk' hne e => hcv k' v hk' hne x e q⟩
    · exact ⟨by omega, by omega, fun e => by have := (hll x e).2; omega, fun k' v hk' _ e => by have := (own_lt (h.val k' v hk').1 x e).2; omega⟩
  refine ⟨⟨.slice a2 (f.ls.length + 1) cap2, f.m, f.ls ++ [k], mput (mput f.mp k ((mget f.mp k).getD (.slice none 0 0))) k v7⟩, rfl, ⟨?_, ?_, hM8, ?_, ?_, h.bm, ?_, ?_, ?_, ?_⟩, rfl, ?_, ?_⟩
  · exact hcF.at e0 (by intro hx; rcases List.mem_cons.1 hx with q | q; exact h.bm q; exact hcm.1 q)
  · have := e2.chg hcF (by intro x hx hxF; rcases List.mem_cons.1 hxF with q | q; exact (hlv x hx).2.1 q; exact (hlv x hx).2.2.1 q)
    show HOwn _ 0 _ ((f.ls ++ [k]).map (·.1))
    rw [List.map_append]
    exact this
  · intro k' v hk'
    rcases mem_put hk' with ⟨rfl, rfl⟩ | ⟨hne, hk2⟩
    · refine ⟨?_, by simp⟩
      show UOwn _ 0 _ (idxOf k' (f.ls ++ [k']))
      rw [idxOf_append, if_pos rfl]
      exact own_chg hO7 (setMap_chg w7 f.m o8) (by intro x hx hxF; rw [List.mem_singleton] at hxF; exact (h77 x hx).2.1 hxF)
    · rcases mem_put hk2 with ⟨rfl, _⟩ | ⟨_, hk3⟩
      · exact absurd rfl hne
      · refine ⟨?_, by have := (h.val k' v hk3).2; simp [this]⟩
        show UOwn _ 0 _ (idxOf k' (f.ls ++ [k]))
        rw [idxOf_append, if_neg (fun e => hne e.symm)]
        exact own_chg (e3 k' v hk3) hcF (by intro x hx hxF; rcases List.mem_cons.1 hxF with q | q; exact (h.vb k' v hk3).2.1 (q ▸ hx); exact hcv k' v hk3 hne x hx q)
  · intro k' hk'
    show (mget (mput (mput f.mp k _) k v7) k').isSome = true
    rw [mget_put, mget_put]
    by_cases hkk : k' = k
    · rw [if_pos hkk]; rfl
    · rw [if_neg hkk, if_neg hkk]
      rcases List.mem_append.1 hk' with q | q
      · exact h.has k' q
      · exact absurd (by simpa using q) hkk
  · exact fun e => (hlv b e).1 rfl
  · exact fun e => (hlv f.m e).2.1 rfl
  · intro k' v hk'
    rcases mem_put hk' with ⟨rfl, rfl⟩ | ⟨hne, hk2⟩
    · exact ⟨fun e => (h77 b e).1 rfl, fun e => (h77 f.m e).2.1 rfl, fun x hx => (h77 x hx).2.2.1⟩
    · rcases mem_put hk2 with ⟨rfl, _⟩ | ⟨_, hk3⟩
      · exact absurd rfl hne
      · exact ⟨(h.vb k' v hk3).1, (h.vb k' v hk3).2.1, fun x hx e => (hlv x e).2.2.2 k' v hk3 hx⟩
  · intro k' v' k2 v2' hk' hk2' hne x hx hx2
    rcases mem_put hk' with ⟨rfl, rfl⟩ | ⟨n1, q1⟩
    · rcases mem_put hk2' with ⟨rfl, rfl⟩ | ⟨n2, q2⟩
      · exact hne rfl
      · rcases mem_put q2 with ⟨rfl, _⟩ | ⟨_, q3⟩
        · exact hne rfl
        · exact (h77 x hx).2.2.2 k2 v2' q3 n2 hx2
    · rcases mem_put q1 with ⟨rfl, _⟩ | ⟨_, q4⟩
      · exact absurd rfl n1
      · rcases mem_put hk2' with ⟨rfl, rfl⟩ | ⟨n2, q2⟩
        · exact (h77 x hx2).2.2.2 k' v' q4 n1 hx
        · rcases mem_put q2 with ⟨rfl, _⟩ | ⟨_, q3⟩
          · exact absurd rfl n2
          · exact h.vv k' v' k2 v2' q4 q3 hne x hx hx2
  · have t1 : Chg (f.foot b) w0 w4 := ((Chg.refl _ w0).alloc _).trans c02 (fun x hx => .inl (by
      rcases List.mem_cons.1 hx with q | q
      · rw [q]; exact FS.foot_head
      · exact FS.foot_row q))
    exact t1.trans hcF (fun x hx => .inl (by
      rcases List.mem_cons.1 hx with q | q
      · rw [q]; exact FS.foot_map
      · exact FS.foot_cur q))
  · intro x hx
    rcases FS.foot_cases hx with q | q | q | ⟨k', v', q, q2⟩
    · exact .inl (by rw [q]; exact FS.foot_head)
    · exact .inl (by rw [q]; exact FS.foot_map)
    · rcases HB2.out x q with r | r
      · exact .inl (FS.foot_row r)
      · exact .inr (by omega)
    · rcases mem_put q with ⟨rfl, rfl⟩ | ⟨hne, hk2⟩
      · rcases HB7.out x q2 with r | r
        · exact .inl (FS.foot_cur r)
        · exact .inr (by omega)
      · rcases mem_put hk2 with ⟨rfl, _⟩ | ⟨_, hk3⟩
        · exact absurd rfl hne
        · exact .inl (FS.foot_val hk3 q2)
end Go.Proofs.Ytonppfebmeehcaa

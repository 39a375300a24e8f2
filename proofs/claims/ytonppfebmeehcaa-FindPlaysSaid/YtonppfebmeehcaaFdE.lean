/- A find: slices.Clone at numbers, At walked; Leaf. -/
import Derived.Test.YtonppfebmeehcaaFdD
import Derived.Lib.SliceRun
import Derived.WalkSpells
namespace Go.Proofs.Ytonppfebmeehcaa
open Go.RowKit
set_option linter.unusedVariables false
set_option linter.unusedSimpArgs false

theorem UOwn.chgU {w w' : World} {B : Nat} {v : Value} {l : List Nat} {F : List Nat} (h : UOwn w B v l) (hc : Chg F w w') (hF : ∀ k ∈ ob v, k ∉ F) : UOwn w' B v l := own_chg h hc hF
theorem UOwn.shapeU {w : World} {B : Nat} {v : Value} {l : List Nat} (h : UOwn w B v l) : ∃ a cap, v = .slice a l.length cap := by
  rcases h.2 with ⟨rfl, h0⟩ | ⟨g, cap, cur, rfl, _⟩
  · exact ⟨none, 0, by rw [h0]⟩
  · exact ⟨_, _, rfl⟩
theorem UOwn.cellU {w : World} {B : Nat} {a : Option Addr} {n cap : Nat} {l : List Nat} (h : UOwn w B (.slice a n cap) l) {i : Nat} (hi : i < l.length) : n = l.length ∧ ∃ g, a = some ⟨g, 0, none⟩ ∧ g < w.heap.size ∧ w.cell? ⟨g, i, none⟩ = some (.int .u64 (l[i] : Nat)) := by
  rcases h.2 with ⟨h1, h0⟩ | ⟨g, cap', cur, h1, hb, hh, hnc, hm, hcs, ht⟩
  · omega
  · injection h1 with e1 e2 e3
    subst e1 e2 e3
    refine ⟨rfl, g, rfl, blk_lt hh, blk_cell hh i ?_⟩
    have e := congrArg (fun x => x[i]?) ht
    simp only [List.getElem?_take, Nat.mul_one, if_pos hi, List.getElem?_map, List.getElem?_eq_getElem hi, Option.map_some] at e
    simpa using e
theorem UOwn.appendU {w : World} {B : Nat} {v : Value} {l l2 : List Nat} {a : Option Addr} {cap : Nat} (h : UOwn w B v l) (hl : Rd w 1 a l2.length (l2.map fun (n : Nat) => Value.int .u64 (n : Int))) (hlen : l.length + l2.length ≤ 4294967296) (hB : B ≤ w.heap.size) (ty : TypeId) :
    ∃ v' w', (Builtin.append_ #[36, 36] ty #[v, .slice a l2.length cap]).run Try.prog w = .ok v' w' ∧ UOwn w' B v' (l ++ l2) ∧ Chg (ob v) w w' ∧ (∀ k ∈ ob v', k ∈ ob v ∨ w.heap.size ≤ k) := by
  obtain ⟨i, hi, hz, hsz, hby⟩ := infoOfU i_u64
  obtain ⟨v', w', hr, h2, h3, h4⟩ := run_append_any (P := Try.prog) w B 36 ty 31 i _ 1 8 u_u64s hi hz hsz hby rfl (by decide) v l.length _ h a l2.length cap _ hl
    (fun u hu => by
      obtain ⟨x, _, rfl⟩ := List.mem_map.1 hu
      rfl) (by unfold maxLen; omega) (by omega) hB
  refine ⟨v', w', hr, ?_, h3, h4⟩
  unfold UOwn
  rw [List.length_append, List.map_append]
  exact h2
def CloneP (w : World) (l : List Nat) (e : Ending) (w' : World) : Prop := ∃ v', e = .returned v' ∧ UOwn w' w.heap.size v' l ∧ Chg [] w w'
theorem cloneU_calls (w : World) (B : Nat) (v : Value) (l : List Nat) (h : UOwn w B v l) (hl : l.length ≤ 1000000) : Calls Try.prog 40 #[v] w (CloneP w l) := by
  have qT : ∀ (w : World) (a : Option Addr) (n c n' c' : Nat), (binOp .eql 36 (.slice a n c) (.slice none n' c')).run Try.prog w = .ok (.bool a.isNone) w := fun w a n c n' c' => Lib.run_eql_slice_nil w _ _ a n c n' c' u_u64s
  rcases h.2 with ⟨rfl, hl0⟩ | ⟨g, cap, cur, rfl, hg, hgb, hnc, hcm, hcs, htake⟩
  · have hn : l = [] := List.eq_nil_of_length_eq_zero hl0
    subst hn
    clear h
    go_enter Try.func40, Try.ntmps40
    go_wp2
    go_ret
    exact ⟨_, rfl, UOwn.nil _ _, Chg.refl _ _⟩
  · have hc0 : Chg [] w (w.alloc (.cells #[] 31)) := (Chg.refl _ _).alloc _
    have hE : UOwn (w.alloc (.cells #[] 31)) w.heap.size (.slice (some ⟨w.heap.size, 0, none⟩) 0 0) [] := own_new w w.heap.size 31 1 0 #[] (Nat.le_refl _) rfl (Nat.zero_le _)
    obtain ⟨v', w', a1, a2, a3, a4⟩ := hE.appendU (own_rd (own_chg h hc0 (by simp))) (by simp; omega) hc0.size 36 (cap := cap)
    have hP : CloneP w l (.returned v') w' := ⟨v', rfl, by simpa using a2, hc0.trans a3 (fun x hx => .inr (own_lt hE x hx).1)⟩
    have HP := Lib.hid hP
    clear a2 a3 a4 hE hc0 h hP hgb hcs htake hcm
    go_enter Try.func40, Try.ntmps40
    go_wp2_with (at_builtin; refine Lib.wpList_append_run _ rfl _ _ _ _ rfl _ _ rfl rfl _ _ a1 ?_)
    go_ret
    exact HP.out
theorem FdIs.look {w : World} {b : Nat} {f : FS} (h : FdIs w b f) (k : HK) : (Instr.lookup 70 (.map (some f.m)) (.agg k.1) false).run Try.prog w = .ok ((mget f.mp k).getD (.slice none 0 0)) w := by
  have := h.map.look encH_law u_maph z_u64s k false
  simpa [encH] using this
def luY (t : TypeId) (m k : Value) (c : Bool) : Sem Value := Instr.lookup t m k c
theorem hold_luY (t : TypeId) (m k : Value) (c : Bool) : Instr.lookup t m k c = luY t m k c := rfl
attribute [local go_sem ↓] hold_luY
set_option maxRecDepth 100000 in
theorem dAt_calls (w : World) (b : Nat) (f : FS) (h : FdIs w b f) (hl : f.ls.length ≤ 100000) (k : HK) : Calls Try.prog 13 #[.pointer (some ⟨b, 0, none⟩), .agg k.1] w (CloneP w (idxOf k f.ls)) := by
  have hk1 := k.2.1
  have hk2 := k.2.one
  have h1 := h.chg0 ((Chg.refl [] w).alloc (.cells k.1 30))
  have hbx := rng?_row (blk_new w (.cells k.1 30)) hk1
  have hLn : w.heap.size < (w.alloc (.cells k.1 30)).heap.size := by simp
  have c1 : (w.alloc (.cells k.1 30)).cell? ⟨b, 1, none⟩ = some (.map (some f.m)) := blk_cell h1.mem 1 rfl
  have hb := blk_lt h1.mem
  have hlk : (luY 70 (.map (some f.m)) (.agg k.1) false).run Try.prog ((w.alloc (.cells k.1 30)).drew) = .ok ((mget f.mp k).getD (.slice none 0 0)) ((w.alloc (.cells k.1 30)).drew) := (h1.chg0 ((Chg.refl [] _).drew)).look k
  have hcl := cloneU_calls ((w.alloc (.cells k.1 30)).drew) 0 _ _ ((h1.chg0 ((Chg.refl [] _).drew)).cur k) (by have := idxOf_length k f.ls; omega)
  have hsz : w.heap.size ≤ ((w.alloc (.cells k.1 30)).drew).heap.size := (((Chg.refl [] w).alloc _).drew).size
  have hcc : Chg [] w ((w.alloc (.cells k.1 30)).drew) := ((Chg.refl [] w).alloc _).drew
  have HCL := Lib.hid hcl
  clear hcl h h1
  generalize idxOf k f.ls = l at *
  generalize (mget f.mp k).getD (.slice none 0 0) = u at *
  go_enter Try.func13, Try.ntmps13
  go_wp2
  go_region_with (go_at_call 40; refine HCL.out.mono ?_; rintro e w3 ⟨v', rfl, h3, hc3⟩)
  all_goals
    go_wp2
    go_ret
    exact ⟨_, rfl, own_mono h3 hsz, hcc.nil_trans hc3⟩
end Go.Proofs.Ytonppfebmeehcaa

/- The contracts of both, drop, reduced, of rotations, places and turns, for all trees. -/
import Derived.Test.YtceabidnjlpkeaaTreeB
import Derived.Deep.LoopGhost
namespace Go.Proofs.Ytceabidnjlpkeaa
open Go.RowKit Go.Proofs.YtceabidnjlpkeaaW.PrintWords
set_option linter.unusedVariables false
set_option linter.unusedSimpArgs false

theorem rd_get (l : List Int) (k : Nat) (h : k < l.length) : rd l (k : Int) = l[k] := by
  simp [rd, List.getD_eq_getElem?_getD, List.getElem?_eq_getElem h]

/-- What slices.Index tells. -/
def IdxR (w : World) (x : Int) (l : List Int) (e : Ending) (w' : World) : Prop :=
  (∃ i : Int, e = .returned (.int .i64 i) ∧ (0 ≤ i ↔ x ∈ l)) ∧ ∃ n, w' = w.drewN n

set_option maxHeartbeats 3200000 in
set_option maxRecDepth 1000000 in
theorem indexInt_any (A : Option Addr) (c : Nat) (l : List Int) (x : Int) (w : World) (hC : Kd.C (Kd.int .i64) w A l.length l) (hm : l.length ≤ 1000000000) :
    Calls Try.prog 89 #[.slice A l.length c, .int .i64 x] w (IdxR w x l) := by
  have hm' : (l.length : Int) ≤ 1000000000 := by omega
  have HC := Lib.hid hC
  clear hC
  go_enter Try.func89, Try.ntmps89
  go_wp2_with fail
  go_loop [8] (fun i => ∃ k : Nat, k ≤ l.length ∧ i = .int .i64 k ∧ Hid (x ∉ l.take k)) (fun i => l.length - (intOf i).toNat)
  case atStart => exact ⟨0, Nat.zero_le _, rfl, by simp [Hid]⟩
  case round =>
    obtain ⟨k, hk, rfl, hnot⟩ := hrel
    by_cases hlt : k < l.length
    · obtain ⟨ad, rfl, hcell⟩ := Kd.at_int HC.out (k : Int) (by omega) (by omega)
      simp only [Int.toNat_natCast] at hcell
      by_cases he : x = rd l (k : Int)
      · have he1 : (x == rd l (k : Int)) = true := by simpa using he
        have he2 := Lib.hid he
        clear he
        go_wp2
        go_ret
        refine ⟨⟨(k : Int), rfl, ?_⟩, 0, rfl⟩
        have := he2.out
        rw [rd_get l k hlt] at this
        rw [this]
        simp
      · have he1 : (x == rd l (k : Int)) = false := by simpa using he
        have he2 := Lib.hid he
        clear he
        go_wp2
        go_round
        case rel =>
          refine ⟨k + 1, by omega, by go_num, ?_⟩
          have := he2.out
          rw [rd_get l k hlt] at this
          show x ∉ l.take (k + 1)
          rw [List.take_succ_eq_append_getElem hlt, List.mem_append, List.mem_singleton]
          rintro (h | h)
          · exact hnot.out h
          · exact this h
        case measure => simp [intOf]; omega
    · have hk2 : k = l.length := by omega
      have hk3 := Lib.hid hk2
      clear hk2
      go_wp2
      go_ret
      refine ⟨⟨-1, rfl, ?_⟩, 0, rfl⟩
      have := hnot.out
      rw [hk3.out, List.take_length] at this
      simp [this]

set_option maxHeartbeats 3200000 in
set_option maxRecDepth 1000000 in
theorem containsInt_any (A : Option Addr) (c : Nat) (l : List Int) (x : Int) (w : World) (hC : Kd.C (Kd.int .i64) w A l.length l) (hm : l.length ≤ 1000000000) :
    Calls Try.prog 68 #[.slice A l.length c, .int .i64 x] w fun e w' => e = .returned (.bool (decide (x ∈ l))) ∧ ∃ n, w' = w.drewN n := by
  have HC := Lib.hid hC
  clear hC
  go_enter Try.func68, Try.ntmps68
  go_wp2_with fail
  refine (indexInt_any _ _ _ _ _ HC.out hm).mono ?_
  rintro e w' ⟨⟨i, rfl, hi⟩, n, rfl⟩
  have HI := Lib.hid hi
  clear hi
  go_wp2
  go_ret
  refine ⟨?_, n, rfl⟩
  have := HI.out
  simp [this]

/-- The left leaves with which both trees have exposed carets. -/
def bothT (p : T × T) : List Int := (p.1.exp 0).filter fun k => decide (k ∈ p.2.exp 0)

set_option maxHeartbeats 6400000 in
set_option maxRecDepth 1000000 in
theorem both_any (p : T × T) (v : Value) (w : World) (h : PP w p v) (h1 : p.1.carets ≤ 1000000) (h2 : p.2.carets ≤ 1000000) :
    Calls Try.prog 37 #[v] w (RowR (Kd.int .i64) 3 w (bothT p)) := by
  obtain ⟨a, b, rfl, ha, hb⟩ := h
  obtain ⟨A, rfl⟩ := ha.ptr
  obtain ⟨B, rfl⟩ := hb.ptr
  have e1 := T.exp_length p.1 0
  have e2 := T.exp_length p.2 0
  have C1 := fun w h => Lib.hid (exposed_any p.1 w (.pointer A) 0 h h1 (by omega) (by omega))
  have C2 := fun w h => Lib.hid (exposed_any p.2 w (.pointer B) 0 h h2 (by omega) (by omega))
  go_enter Try.func37, Try.ntmps37
  go_wp2_with fail
  refine (C2 _ (hb.alloc _)).out.mono ?_
  rintro e w1 ⟨v1, rfl, hR1, hB1⟩
  obtain ⟨A1, c1, rfl, hc1, hC1⟩ := Kd.R_reads hR1
  have k0 := pw_cell_below hB1 (show (w.alloc (Obj.cells #[Value.pointer A, Value.pointer B] 54)).cell? ⟨w.heap.size, 0, none⟩ = some (.pointer A) by simp)
  go_wp2_with fail
  refine (C1 _ ((ha.alloc _).below hB1)).out.mono ?_
  rintro e w2 ⟨v2, rfl, hR2, hB2⟩
  obtain ⟨A2, c2, rfl, hc2, hC2⟩ := Kd.R_reads hR2
  have HC1 := Lib.hid (Kd.C_below hC1 hB2)
  have HC2 := Lib.hid hC2
  have HB12 := Lib.hid ((below_alloc (Below.refl w.heap.size w) (Obj.cells #[Value.pointer A, Value.pointer B] 54)).trans ((hB1.trans (hB2.mono hB1.size)).mono (by simp)))
  clear hC1 hC2 hR1 hR2 hB1 hB2 k0 ha hb C1 C2
  obtain ⟨l1, hl1⟩ : ∃ l, l = p.1.exp 0 := ⟨_, rfl⟩
  obtain ⟨l2, hl2⟩ : ∃ l, l = p.2.exp 0 := ⟨_, rfl⟩
  have HF := Lib.hid (show bothT p = l1.filter fun k => decide (k ∈ l2) by rw [hl1, hl2]; rfl)
  simp only [← hl1, ← hl2] at *
  clear hl1 hl2
  have n1 : l1.length ≤ 1000000 := by omega
  have n2 : l2.length ≤ 1000000 := by omega
  have n1' : (l1.length : Int) ≤ 1000000 := by omega
  go_wp2_with fail
  go_loopw [3, 14] (fun v i wr => ∃ k : Nat, k ≤ l1.length ∧ i = .int .i64 k ∧ Hid (Kd.R (Kd.int .i64) 3 wr w2.heap.size (fun _ => True) v ((l1.take k).filter fun k => decide (k ∈ l2))) ∧ Hid (Below w2.heap.size w2 wr))
    (fun _ i _ => l1.length - (intOf i).toNat)
  case atStart => exact ⟨0, Nat.zero_le _, rfl, Kd.R_nil _ _ _ _ _, Below.refl _ _⟩
  case round =>
    obtain ⟨k, hk, rfl, hR, hB⟩ := hrel
    by_cases hlt : k < l1.length
    · obtain ⟨ad, rfl, hcell⟩ := Kd.at_int (Kd.C_below HC2.out hB.out) (k : Int) (by omega) (by omega)
      simp only [Int.toNat_natCast] at hcell
      have hfl : ((l1.take k).filter fun k => decide (k ∈ l2)).length ≤ 1000000 := Nat.le_trans (List.length_filter_le _ _) (by rw [List.length_take]; omega)
      have hrd := rd_get l1 k hlt
      have htk : l1.take (k + 1) = l1.take k ++ [rd l1 (k : Int)] := by rw [hrd, List.take_succ_eq_append_getElem hlt]
      have HT := Lib.hid htk
      clear hrd htk
      have HCC := Lib.hid (containsInt_any A1 c1 l2 (rd l1 (k : Int)) _ (Kd.C_below HC1.out hB.out) (by omega))
      by_cases hm : rd l1 (k : Int) ∈ l2
      · have hd : decide (rd l1 (k : Int) ∈ l2) = true := by simpa using hm
        have hfe : ((l1.take (k + 1)).filter fun k => decide (k ∈ l2)) = ((l1.take k).filter fun k => decide (k ∈ l2)) ++ [rd l1 (k : Int)] := by rw [HT.out, List.filter_append]; simp [hm]
        have HFE := Lib.hid hfe
        clear hm hfe
        go_wp2_with fail
        refine HCC.out.mono ?_
        rintro e wc ⟨rfl, nc, rfl⟩
        go_wp2_with (at_builtin; refine Kd.R_append (Kd.int .i64) (w0 := w2) w2.heap.size rfl (.tmp 21) (.tmp 23) 68 3 (.int .i64 0) 8 rfl Try.underlying68 info_int rfl (by decide) (by omega) _ _ (rd l1 (k : Int)) [.int .i64 (rd l1 (k : Int))] (fun _ => True) (fun _ => False) rfl rfl rfl (fun _ h => h.elim) (fun _ _ => trivial) (Kd.R_drewN hR.out _) (pw_below_drewN hB.out _) hB.out.size (by omega) ?_; intro v3 w3 hR3 hB3 hg3 hat3)
        go_roundw
        case rel => exact ⟨k + 1, by omega, by go_num, by rw [HFE.out]; exact hR3, hB3⟩
        case measure => simp [intOf]; omega
      · have hd : decide (rd l1 (k : Int) ∈ l2) = false := by simpa using hm
        have hfe : ((l1.take (k + 1)).filter fun k => decide (k ∈ l2)) = ((l1.take k).filter fun k => decide (k ∈ l2)) := by rw [HT.out, List.filter_append]; simp [hm]
        have HFE := Lib.hid hfe
        clear hm hfe
        go_wp2_with fail
        refine HCC.out.mono ?_
        rintro e wc ⟨rfl, nc, rfl⟩
        go_wp2
        go_roundw
        case rel => exact ⟨k + 1, by omega, by go_num, by rw [HFE.out]; exact Kd.R_drewN hR.out _, pw_below_drewN hB.out _⟩
        case measure => simp [intOf]; omega
    · have hk2 : k = l1.length := by omega
      have hk3 := Lib.hid hk2
      clear hk2
      go_wp2
      go_ret
      refine ⟨_, rfl, ?_, HB12.out.trans (hB.out.mono HB12.out.size)⟩
      have := hR.out
      rw [hk3.out, List.take_length] at this
      rw [HF.out]
      exact Kd.R_lower this HB12.out.size

end Go.Proofs.Ytceabidnjlpkeaa

namespace Go.Proofs.Ytceabidnjlpkeaa
open Go.RowKit Go.Proofs.YtceabidnjlpkeaaW.PrintWords
set_option linter.unusedVariables false
set_option linter.unusedSimpArgs false

/-- A pair without a common exposed caret. -/
def dropT (p : T × T) (k : Int) : T × T := (p.1.wo k, p.2.wo k)

set_option maxHeartbeats 6400000 in
set_option maxRecDepth 1000000 in
theorem drop_any (p : T × T) (k : Int) (v : Value) (w : World) (h : PP w p v) (h1 : p.1.carets ≤ 1000000) (h2 : p.2.carets ≤ 1000000) (hk1 : k ∈ p.1.exp 0) (hk2 : k ∈ p.2.exp 0) :
    Calls Try.prog 53 #[v, .int .i64 k] w (PairV w (dropT p k)) := by
  obtain ⟨a, b, rfl, ha, hb⟩ := h
  obtain ⟨A, rfl⟩ := ha.ptr
  obtain ⟨B, rfl⟩ := hb.ptr
  have C1 := fun w h => Lib.hid (without_any p.1 w (.pointer A) k h h1 hk1)
  have C2 := fun w h => Lib.hid (without_any p.2 w (.pointer B) k h h2 hk2)
  clear hk1 hk2
  have q0 : ((w.alloc (Obj.cells #[Value.pointer A, Value.pointer B] 54)).alloc (Obj.cells #[Value.pointer none, Value.pointer none] 54)).cell? ⟨w.heap.size, 0, none⟩ = some (.pointer A) := pw_cell_below (below_alloc (Below.refl _ _) _) (by simp)
  have q1 : ((w.alloc (Obj.cells #[Value.pointer A, Value.pointer B] 54)).alloc (Obj.cells #[Value.pointer none, Value.pointer none] 54)).cell? ⟨w.heap.size, 1, none⟩ = some (.pointer B) := pw_cell_below (below_alloc (Below.refl _ _) _) (by simp)
  go_enter Try.func53, Try.ntmps53
  go_wp2_with fail
  go_region_held3 (fun w' => w'.cell? ⟨w.heap.size, 0, none⟩ = some (Value.pointer A) ∧ w'.cell? ⟨w.heap.size, 1, none⟩ = some (Value.pointer B)) (go_keep)
    (first
    | (go_at_call_of 77 (Value.pointer A); refine (C1 _ ?_).out.mono ?_; exact ((ha.alloc _).alloc _).drewN 1; rintro e w2 ⟨v2, rfl, hP2, hB2⟩; obtain ⟨A2, rfl⟩ := hP2.ptr; obtain ⟨hc2, hf2⟩ := bcell hB2; have k0 := pw_cell_below hB2 (cell_drewN q0 1); have k1 := pw_cell_below hB2 (cell_drewN q1 1))
    | (go_at_call_of 77 (Value.pointer B); refine (C2 _ ?_).out.mono ?_; exact ((((hb.alloc _).alloc _).drewN 1).below hB2); rintro e w3 ⟨v3, rfl, hP3, hB3⟩; obtain ⟨A3, rfl⟩ := hP3.ptr; obtain ⟨hc3, hf3⟩ := bcell (hB2.trans (hB3.mono hB2.size)); have k2 := pw_cell_below hB3 k0; have k3 := pw_cell_below hB3 k1))
  go_wp2
  have hB23 := hB2.trans (hB3.mono hB2.size)
  have hz : w.heap.size + 1 < w3.heap.size := by have := hB23.size; simp at this; omega
  have hg : Ty w3 (w.heap.size + 1) 54 := by simpa using (Ty.new (w.alloc (Obj.cells #[Value.pointer A, Value.pointer B] 54)) #[Value.pointer none, Value.pointer none] 54 (0, 0)).drew.below hB23
  refine bodyPost_ret (v := .agg #[.pointer A2, .pointer A3]) (by simp [results, Try.results53, go_sem, hc3, hz]) rfl ⟨_, rfl, ⟨_, _, rfl, ((hP2.below hB3).set hg (by decide) _ _).set (hg.setCell _ _) (by decide) _ _, (hP3.set hg (by decide) _ _).set (hg.setCell _ _) (by decide) _ _⟩, ?_⟩
  exact ((below_drew (below_alloc (below_alloc (Below.refl w.heap.size w) _) _)).trans (hB23.mono (by simp; omega))).setCell (by simp) _ |>.setCell (by simp) _

/-- How a pair is reduced, in n steps at most. -/
def redN : Nat → T × T → T × T
  | 0, p => p
  | n + 1, p => match bothT p with
    | [] => p
    | k :: _ => redN n (dropT p k)

/-- The reduced pair. -/
def redT (p : T × T) : T × T := redN p.1.carets p

theorem T.wo_carets (t : T) : ∀ k, k ∈ t.exp 0 → (t.wo k).carets + 1 = t.carets := by
  induction t with
  | nil => intro k h; simp [T.exp] at h
  | node l r hl hr =>
    intro k h
    by_cases hn : l = .nil ∧ r = .nil
    · obtain ⟨rfl, rfl⟩ := hn
      simp [T.wo, T.carets]
    · obtain ⟨h1, h2⟩ := T.exp_parts hn h
      simp only [T.wo, if_neg hn]
      by_cases hge : (l.carets : Int) + 1 ≤ k
      · rw [if_pos hge]
        have := hr _ (h1 hge)
        simp [T.carets]; omega
      · rw [if_neg hge]
        have := hl _ (h2 hge)
        simp [T.carets]; omega

theorem bothT_mem {p : T × T} {k : Int} (h : k ∈ bothT p) : k ∈ p.1.exp 0 ∧ k ∈ p.2.exp 0 := by
  simpa [bothT] using h

theorem redT_step {p : T × T} {k : Int} {l : List Int} (h : bothT p = k :: l) : redT p = redT (dropT p k) ∧ (dropT p k).1.carets + 1 = p.1.carets ∧ (dropT p k).2.carets + 1 = p.2.carets := by
  obtain ⟨h1, h2⟩ := bothT_mem (p := p) (k := k) (by rw [h]; simp)
  have e1 := T.wo_carets _ _ h1
  have e2 := T.wo_carets _ _ h2
  refine ⟨?_, e1, e2⟩
  unfold redT
  rw [← e1]
  simp only [redN, h]
  rfl

theorem redT_end {p : T × T} (h : bothT p = []) : redT p = p := by
  unfold redT
  cases hn : p.1.carets with
  | zero => rfl
  | succ n => simp [redN, h]

theorem cells2 {w : World} {g ty : Nat} {a b : Value} (h : w.heap[g]? = some (Obj.cells #[a, b] ty (0, 0))) :
    w.cell? ⟨g, 0, none⟩ = some a ∧ w.cell? ⟨g, 1, none⟩ = some b ∧ w.frozen? ⟨g, 0, none⟩ = false ∧ w.frozen? ⟨g, 1, none⟩ = false := by
  refine ⟨by simp [World.cell?, h], by simp [World.cell?, h], by simp [World.frozen?, h], by simp [World.frozen?, h]⟩

theorem heap_set2 {w : World} {g ty : Nat} {a b x y : Value} (h : w.heap[g]? = some (Obj.cells #[a, b] ty (0, 0))) :
    ((w.setCell ⟨g, 0, none⟩ x).setCell ⟨g, 1, none⟩ y).heap[g]? = some (Obj.cells #[x, y] ty (0, 0)) := by
  simp [World.setCell, Array.getElem?_modify, h]
theorem heap_set2_far {w : World} {g k : Nat} {x y : Value} {o : Obj} (h : w.heap[k]? = some o) (hne : k ≠ g) :
    ((w.setCell ⟨g, 0, none⟩ x).setCell ⟨g, 1, none⟩ y).heap[k]? = some o := by
  rw [Below.heap_setCell _ _ _ _ hne, Below.heap_setCell _ _ _ _ hne]; exact h

set_option maxHeartbeats 6400000 in
set_option maxRecDepth 1000000 in
theorem reduced_any (p : T × T) (v : Value) (w : World) (h : PP w p v) (h1 : p.1.carets ≤ 1000000) (h2 : p.2.carets ≤ 1000000) :
    Calls Try.prog 21 #[v] w (PairV w (redT p)) := by
  obtain ⟨a, b, rfl, ha, hb⟩ := h
  obtain ⟨A, rfl⟩ := ha.ptr
  obtain ⟨B, rfl⟩ := hb.ptr
  go_enter Try.func21, Try.ntmps21
  go_wp2_with fail
  go_loopg [3] p.1.carets (fun kq v3 wr => ∃ (q : T × T) (C D : Option Addr), Hid (wr.heap[w.heap.size]? = some (Obj.cells #[.pointer C, .pointer D] 54 (0, 0))) ∧ Hid (wr.heap[w.heap.size + 1]? = some (Obj.cells #[.pointer none, .pointer none] 54 (0, 0))) ∧ Hid (PT wr q.1 (.pointer C)) ∧ Hid (PT wr q.2 (.pointer D)) ∧ Hid (redT q = redT p ∧ q.1.carets = kq ∧ q.1.carets ≤ 1000000 ∧ q.2.carets ≤ 1000000) ∧ Hid (Below w.heap.size w wr))
  case atStart =>
    refine ⟨p, A, B, ?_, ?_, (ha.alloc _).alloc _, (hb.alloc _).alloc _, ⟨rfl, rfl, h1, h2⟩, below_alloc (below_alloc (Below.refl _ _) _) _⟩
    · show ((w.heap.push _).push _)[w.heap.size]? = _
      simp [Array.getElem?_push]
    · show ((w.heap.push _).push _)[w.heap.size + 1]? = _
      rw [Array.getElem?_push, if_pos (by simp)]
  case round =>
    obtain ⟨q, C, D, hb0, hb1, hp1, hp2, hq, hB⟩ := hrel
    obtain ⟨c0, c1, f0, f1⟩ := cells2 hb0.out
    obtain ⟨d0, d1, g0, g1⟩ := cells2 hb1.out
    have HB := Lib.hid (both_any q (.agg #[.pointer C, .pointer D]) wr ⟨_, _, rfl, hp1.out, hp2.out⟩ hq.out.2.2.1 hq.out.2.2.2)
    rcases hl : bothT q with _ | ⟨k, l⟩
    · have HQ := Lib.hid (redT_end hl)
      rw [hl] at HB
      clear hl
      go_wp2_with fail
      refine HB.out.mono ?_
      rintro e w1 ⟨v1, rfl, hR1, hB1⟩
      obtain ⟨A1, n1, rfl, hn1, hC1⟩ := Kd.R_reads hR1
      have e0 := pw_cell_below hB1 c0
      have e1 := pw_cell_below hB1 c1
      have e2 := pw_cell_below hB1 d0
      have e3 := pw_cell_below hB1 d1
      have e4 := (hB1.frozen (World.block_lt_of_cell? _ _ d0)).trans g0
      have e5 := (hB1.frozen (World.block_lt_of_cell? _ _ d1)).trans g1
      clear c0 c1 f0 f1 d0 d1 g0 g1
      simp only [List.length_nil] at *
      go_wp2_with fail
      have hg : Ty w1 (w.heap.size + 1) 54 := Ty.below ⟨_, _, hb1.out⟩ hB1
      have hBB := hB.out.trans (hB1.mono hB.out.size)
      refine bodyPost_ret (v := .agg #[.pointer C, .pointer D]) (by simp [results, Try.results21, go_sem, e2, e3]) rfl ⟨_, rfl, ?_, ?_⟩
      · rw [← hq.out.1, HQ.out]
        exact ⟨_, _, rfl, ((hp1.out.below hB1).set hg (by decide) _ _).set (hg.setCell _ _) (by decide) _ _, ((hp2.out.below hB1).set hg (by decide) _ _).set (hg.setCell _ _) (by decide) _ _⟩
      · exact (hBB.setCell (by simp) _).setCell (by simp) _
    · have HQ := Lib.hid (redT_step hl)
      have HM := Lib.hid (bothT_mem (p := q) (k := k) (by rw [hl]; simp))
      rw [hl] at HB
      clear hl
      go_wp2_with fail
      refine HB.out.mono ?_
      rintro e w1 ⟨v1, rfl, hR1, hB1⟩
      obtain ⟨A1, n1, rfl, hn1, hC1⟩ := Kd.R_reads hR1
      obtain ⟨ad, rfl, e8⟩ := Kd.at_int hC1 0 (by omega) (by simp)
      have e8' : w1.cell? ad = some (.int .i64 k) := by simpa [Addr.add, rd] using e8
      have e0 := pw_cell_below hB1 c0
      have e1 := pw_cell_below hB1 c1
      have f6 := (hB1.frozen (World.block_lt_of_cell? _ _ c0)).trans f0
      have f7 := (hB1.frozen (World.block_lt_of_cell? _ _ c1)).trans f1
      have HD := Lib.hid (fun w' v' hv => drop_any q k v' w' hv hq.out.2.2.1 hq.out.2.2.2 HM.out.1 HM.out.2)
      have HP := Lib.hid (show PP w1 q (.agg #[.pointer C, .pointer D]) from ⟨_, _, rfl, hp1.out.below hB1, hp2.out.below hB1⟩)
      have hg : Ty w1 w.heap.size 54 := Ty.below ⟨_, _, hb0.out⟩ hB1
      have hlen : 0 < l.length + 1 := by omega
      have hlen' : ((l.length : Int) + 1 == 0) = false := by simp; omega
      clear c0 c1 f0 f1 d0 d1 g0 g1 e8
      simp only [List.length_cons] at *
      go_wp2_with fail
      go_region_with ((go_at_call 53; refine (HD.out _ _ ?_).mono ?_; exact HP.out.drewN 1; rintro e w2 ⟨v2, rfl, ⟨a2, b2, rfl, hP2, hP3⟩, hB2⟩; obtain ⟨C2, rfl⟩ := hP2.ptr; obtain ⟨D2, rfl⟩ := hP3.ptr; have k0 := pw_cell_below hB2 (cell_drewN e0 1); have k1 := pw_cell_below hB2 (cell_drewN e1 1); have k2 := (hB2.frozen (World.block_lt_of_cell? _ _ (cell_drewN e0 1))).trans f6; have k3 := (hB2.frozen (World.block_lt_of_cell? _ _ (cell_drewN e1 1))).trans f7))
      all_goals
        go_wp2
        have hb2 : w2.heap[w.heap.size]? = some (Obj.cells #[.pointer C, .pointer D] 54 (0, 0)) := by
          have hl0 := (Array.getElem?_eq_some_iff.1 hb0.out).1
          rw [hB2.block _ (Nat.lt_of_lt_of_le hl0 hB1.size)]
          exact (hB1.block _ hl0).trans hb0.out
        have hb3 : w2.heap[w.heap.size + 1]? = some (Obj.cells #[.pointer none, .pointer none] 54 (0, 0)) := by
          have hl0 := (Array.getElem?_eq_some_iff.1 hb1.out).1
          rw [hB2.block _ (Nat.lt_of_lt_of_le hl0 hB1.size)]
          exact (hB1.block _ hl0).trans hb1.out
        have hg2 : Ty w2 w.heap.size 54 := ⟨_, _, hb2⟩
        have hBB := hB.out.trans (((below_drew hB1).trans (hB2.mono hB1.size)).mono hB.out.size)
        go_roundg (dropT q k).1.carets
        case measure => have := HQ.out.2.1; have := hq.out.2.1; omega
        case rel =>
          refine ⟨dropT q k, C2, D2, heap_set2 hb2, heap_set2_far hb3 (by omega), (hP2.set hg2 (by decide) _ _).set (hg2.setCell _ _) (by decide) _ _, (hP3.set hg2 (by decide) _ _).set (hg2.setCell _ _) (by decide) _ _, ⟨?_, rfl, ?_, ?_⟩, (hBB.setCell (Nat.le_refl _) _).setCell (Nat.le_refl _) _⟩
          · rw [← HQ.out.1]; exact hq.out.1
          · have := HQ.out.2.1; have := hq.out.2.2.1; omega
          · have := HQ.out.2.2; have := hq.out.2.2.2; omega

end Go.Proofs.Ytceabidnjlpkeaa

namespace Go.Proofs.Ytceabidnjlpkeaa
open Go.RowKit Go.Proofs.YtceabidnjlpkeaaW.PrintWords
set_option linter.unusedVariables false
set_option linter.unusedSimpArgs false

/-- A tree rotated at its root, or back. -/
def T.rot (back : Bool) : T → Option T
  | .nil => none
  | .node l r =>
    if back then match r with
      | .nil => none
      | .node a b => some (.node (.node l a) b)
    else match l with
      | .nil => none
      | .node a b => some (.node a (.node b r))

def OptR (w : World) (r : Option T) (e : Ending) (w' : World) : Prop :=
  ∃ t v, PT w' t v ∧ e = .returned (.tuple #[v, .bool r.isSome]) ∧ Below w.heap.size w w' ∧ ∀ t', r = some t' → t' = t

theorem OptR.no (w w' : World) (h : Below w.heap.size w w') : OptR w none (.returned (.tuple #[.pointer none, .bool false])) w' := ⟨.nil, _, rfl, rfl, h, by simp⟩
theorem OptR.yes {w w' : World} {t : T} {v : Value} (h : Below w.heap.size w w') (hp : PT w' t v) : OptR w (some t) (.returned (.tuple #[v, .bool true])) w' := ⟨t, _, hp, rfl, h, by simp⟩

theorem PT.newAt {w w1 : World} {l r : T} {vl vr : Value} {n : Nat} (hl : PT w l vl) (hr : PT w r vr) (hn : n = w.heap.size) (e : w1 = w.alloc (Obj.cells #[vl, vr] 80 (0, 0))) :
    PT w1 (.node l r) (.pointer (some ⟨n, 0, none⟩)) := by
  subst hn
  subst e
  exact PT.new hl hr (Below.refl _ _)

set_option maxHeartbeats 3200000 in
set_option maxRecDepth 1000000 in
theorem rotated_any (t : T) (back : Bool) (w : World) (v : Value) (h : PT w t v) :
    Calls Try.prog 94 #[v, .bool back] w (OptR w (t.rot back)) := by
  cases t with
  | nil =>
    obtain rfl := h.isNil
    go_enter Try.func94, Try.ntmps94
    go_wp2
    go_ret2
    exact OptR.no _ _ (Below.refl _ _)
  | node l r =>
    obtain ⟨b, vl, vr, rfl, hb, hl, hr⟩ := h
    obtain ⟨h0, h1⟩ := PT.cells hb
    clear hb
    cases back with
    | true =>
      cases r with
      | nil =>
        obtain rfl := hr.isNil
        go_enter Try.func94, Try.ntmps94
        go_wp2
        go_ret2
        exact OptR.no _ _ (Below.refl _ _)
      | node a c =>
        obtain ⟨b2, va, vc, rfl, hb2, ha, hc⟩ := hr
        obtain ⟨h2, h3⟩ := PT.cells hb2
        clear hb2
        obtain ⟨Al, rfl⟩ := hl.ptr
        obtain ⟨Aa, rfl⟩ := ha.ptr
        obtain ⟨Ac, rfl⟩ := hc.ptr
        go_enter Try.func94, Try.ntmps94
        go_wp2_with fail
        go_region_held3 (fun w' => w'.cell? ⟨b, 0, none⟩ = some (.pointer Al) ∧ w'.cell? ⟨b, 1, none⟩ = some (.pointer (some ⟨b2, 0, none⟩)) ∧ w'.cell? ⟨b2, 0, none⟩ = some (.pointer Aa) ∧ w'.cell? ⟨b2, 1, none⟩ = some (.pointer Ac)) (go_keep) (fail)
        go_wp2
        go_ret2
        refine OptR.yes (below_drew (below_alloc (below_alloc (Below.refl _ _) _) _)) (PT.drew (PT.newAt (PT.newAt hl ha rfl rfl) (hc.alloc _) (by simp) rfl))
    | false =>
      cases l with
      | nil =>
        obtain rfl := hl.isNil
        go_enter Try.func94, Try.ntmps94
        go_wp2
        go_ret2
        exact OptR.no _ _ (Below.refl _ _)
      | node a c =>
        obtain ⟨b2, va, vc, rfl, hb2, ha, hc⟩ := hl
        obtain ⟨h2, h3⟩ := PT.cells hb2
        clear hb2
        obtain ⟨Al, rfl⟩ := hr.ptr
        obtain ⟨Aa, rfl⟩ := ha.ptr
        obtain ⟨Ac, rfl⟩ := hc.ptr
        go_enter Try.func94, Try.ntmps94
        go_wp2_with fail
        go_region_held3 (fun w' => w'.cell? ⟨b, 1, none⟩ = some (.pointer Al) ∧ w'.cell? ⟨b, 0, none⟩ = some (.pointer (some ⟨b2, 0, none⟩)) ∧ w'.cell? ⟨b2, 0, none⟩ = some (.pointer Aa) ∧ w'.cell? ⟨b2, 1, none⟩ = some (.pointer Ac)) (go_keep) (fail)
        go_wp2
        go_ret2
        refine OptR.yes (below_drew (below_alloc (below_alloc (Below.refl _ _) _) _)) (PT.drew (PT.newAt (ha.alloc _) (PT.newAt hc hr rfl rfl) (by simp) rfl))

/-- A tree rotated at an address, or back. -/
def T.turn (back : Bool) : T → List UInt8 → Option T
  | t, [] => t.rot back
  | .nil, _ :: _ => none
  | .node l r, c :: a => if c = 48 then (l.turn back a).map fun n => .node n r else if c = 49 then (r.turn back a).map fun n => .node l n else none

theorem T.turn_nil (back : Bool) (t : T) : t.turn back [] = t.rot back := by cases t <;> rfl

set_option maxHeartbeats 6400000 in
set_option maxRecDepth 1000000 in
theorem turn_any (back : Bool) (a : List UInt8) : ∀ (t : T) (w : World) (v : Value), PT w t v → a.length ≤ 1000000 →
    Calls Try.prog 72 #[v, .string ⟨a.toArray⟩, .bool back] w (OptR w (t.turn back a)) := by
  induction a with
  | nil =>
    intro t w v h _
    have C := Lib.hid (rotated_any t back w v h)
    have HF := Lib.hid (T.turn_nil back t)
    obtain ⟨A, rfl⟩ := h.ptr
    clear h
    go_enter Try.func72, Try.ntmps72
    go_wp2_with fail
    refine C.out.mono ?_
    rintro e w' ⟨t', v', hp, rfl, hb, ht⟩
    go_wp2
    go_ret2
    rw [HF.out]
    exact ⟨t', v', hp, rfl, hb, ht⟩
  | cons c a ih =>
    intro t w v h hlen
    simp only [List.length_cons] at hlen
    have hl1 : (1 : Int) ≤ (a.length : Int) + 1 := by omega
    have hl2 : 1 ≤ a.length + 1 := by omega
    have hl3 : (0 : Int) ≤ (a.length : Int) := by omega
    have hidx : ∀ h, (ByteArray.mk (c :: a).toArray)[0]'h = c := fun _ => rfl
    have ex1 : (ByteArray.mk (c :: a).toArray).extract 1 (a.length + 1) = ⟨a.toArray⟩ := by
      apply ByteArray.ext
      simp [ByteArray.data_extract]
    cases t with
    | nil =>
      obtain rfl := h.isNil
      go_enter Try.func72, Try.ntmps72
      go_wp2
      go_ret2
      exact OptR.no _ _ (Below.refl _ _)
    | node l r =>
      obtain ⟨b, vl, vr, rfl, hb, hl, hr⟩ := h
      obtain ⟨h0, h1⟩ := PT.cells hb
      clear hb
      obtain ⟨Al, rfl⟩ := hl.ptr
      obtain ⟨Ar, rfl⟩ := hr.ptr
      by_cases c1 : c.toNat = 48
      · have t1 : ((c.toNat : Int) == 48) = true := u8_eq c1
        have hc : c = 48 := by apply UInt8.toNat_inj.1; simpa using c1
        have hf : (T.node l r).turn back (c :: a) = (l.turn back a).map fun n => .node n r := by simp [T.turn, hc]
        have HF := Lib.hid hf
        have C := fun W h => Lib.hid (ih l W (.pointer Al) h (by omega))
        clear hc hf ih c1
        go_enter Try.func72, Try.ntmps72
        go_wp2_with fail
        go_region_held3 (fun w' => w'.cell? ⟨b, 0, none⟩ = some (.pointer Al)) (go_keep)
          (first | (go_at_call 72; refine (C _ ?_).out.mono ?_; exact hl.drewN 1; rintro e w2 ⟨t2, v2, hp2, rfl, hb2, ht2⟩; obtain ⟨A2, rfl⟩ := hp2.ptr; have k0 := pw_cell_below hb2 (cell_drewN h0 1); have k1 := pw_cell_below hb2 (cell_drewN h1 1)))
        go_wp2
        go_ret2
        rw [HF.out]
        refine ⟨.node t2 r, _, PT.newAt hp2 ((hr.drewN 1).below hb2) rfl rfl, by simp, below_alloc ((below_drew (Below.refl _ _)).trans hb2) _, ?_⟩
        intro t' ht'
        cases hx : l.turn back a with
        | none => simp [hx] at ht'
        | some y => simp [hx] at ht'; rw [← ht', ht2 y hx]
      · have t1 : ((c.toNat : Int) == 48) = false := u8_ne c1
        have hc : c ≠ 48 := by rintro rfl; exact c1 rfl
        by_cases c2 : c.toNat = 49
        · have t2 : ((c.toNat : Int) == 49) = true := u8_eq c2
          have hc2 : c = 49 := by apply UInt8.toNat_inj.1; simpa using c2
          have hf : (T.node l r).turn back (c :: a) = (r.turn back a).map fun n => .node l n := by simp [T.turn, hc, hc2]
          have HF := Lib.hid hf
          have C := fun W h => Lib.hid (ih r W (.pointer Ar) h (by omega))
          clear hc hc2 hf ih c1 c2
          go_enter Try.func72, Try.ntmps72
          go_wp2_with fail
          go_region_held3 (fun w' => w'.cell? ⟨b, 1, none⟩ = some (.pointer Ar)) (go_keep)
            (first | (go_at_call 72; refine (C _ ?_).out.mono ?_; exact hr.drewN 1; rintro e w2 ⟨t2, v2, hp2, rfl, hb2, ht2⟩; obtain ⟨A2, rfl⟩ := hp2.ptr; have k0 := pw_cell_below hb2 (cell_drewN h0 1); have k1 := pw_cell_below hb2 (cell_drewN h1 1)))
          go_wp2
          go_ret2
          rw [HF.out]
          refine ⟨.node l t2, _, PT.newAt ((hl.drewN 1).below hb2) hp2 rfl rfl, by simp, below_alloc ((below_drew (Below.refl _ _)).trans hb2) _, ?_⟩
          intro t' ht'
          cases hx : r.turn back a with
          | none => simp [hx] at ht'
          | some y => simp [hx] at ht'; rw [← ht', ht2 y hx]
        · have t2 : ((c.toNat : Int) == 49) = false := u8_ne c2
          have hc2 : c ≠ 49 := by rintro rfl; exact c2 rfl
          have hf : (T.node l r).turn back (c :: a) = none := by simp [T.turn, hc, hc2]
          have HF := Lib.hid hf
          clear hc hc2 hf ih c1 c2
          go_enter Try.func72, Try.ntmps72
          go_wp2
          go_ret2
          rw [HF.out]
          exact OptR.no _ _ (Below.refl _ _)

end Go.Proofs.Ytceabidnjlpkeaa

namespace Go.Proofs.Ytceabidnjlpkeaa
open Go.RowKit Go.Proofs.YtceabidnjlpkeaaW.PrintWords
set_option linter.unusedVariables false
set_option linter.unusedSimpArgs false

/-- The addresses of all carets, behind one. -/
def T.places : T → List UInt8 → List (List UInt8)
  | .nil, _ => []
  | .node l r, a => a :: (l.places (a ++ [48]) ++ r.places (a ++ [49]))

theorem T.places_length (t : T) : ∀ a, (t.places a).length = t.carets := by
  induction t with
  | nil => intro a; rfl
  | node l r hl hr => intro a; simp [T.places, T.carets, hl, hr]; omega

/-- Letters as a text. -/
def bs (l : List UInt8) : ByteArray := ⟨l.toArray⟩
theorem bs_append (a b : List UInt8) : bs (a ++ b) = bs a ++ bs b := by
  apply ByteArray.ext; simp [bs, ByteArray.data_append]
theorem bs_size (a : List UInt8) : (bs a).size = a.length := by simp [bs, ByteArray.size]

set_option maxHeartbeats 6400000 in
set_option maxRecDepth 1000000 in
theorem places_any (t : T) : ∀ (w : World) (v : Value) (a : List UInt8), PT w t v → t.carets ≤ 1000000 → a.length + t.carets ≤ 1000000000 →
    Calls Try.prog 93 #[v, .string (bs a)] w (RowR Kd.string 9 w ((t.places a).map bs)) := by
  induction t with
  | nil =>
    rintro w v a rfl _ _
    go_enter Try.func93, Try.ntmps93
    go_wp2
    go_ret
    exact ⟨.slice none 0 0, rfl, Kd.R_nil _ _ _ _ _, Below.refl _ _⟩
  | node l r ihl ihr =>
    rintro w v a ⟨b, vl, vr, rfl, hb, hl, hr⟩ hle hsz
    obtain ⟨h0, h1⟩ := PT.cells hb
    clear hb
    simp only [T.carets] at hle hsz
    have e1 := fun w => run_string_add_sum (P := Try.prog) w (bs a) ⟨#[48]⟩ (by rw [bs_size]; show _ + 1 ≤ _; omega)
    have e2 := fun w => run_string_add_sum (P := Try.prog) w (bs a) ⟨#[49]⟩ (by rw [bs_size]; show _ + 1 ≤ _; omega)
    have x1 : bs a ++ ⟨#[48]⟩ = bs (a ++ [48]) := (bs_append a [48]).symm
    have x2 : bs a ++ ⟨#[49]⟩ = bs (a ++ [49]) := (bs_append a [49]).symm
    rw [x1] at e1
    rw [x2] at e2
    clear x1 x2
    have C1 := fun W h => Lib.hid (ihl W vl (a ++ [48]) h (by omega) (by simp; omega))
    have C2 := fun W h => Lib.hid (ihr W vr (a ++ [49]) h (by omega) (by simp; omega))
    have HF := Lib.hid (show ((T.node l r).places a).map bs = ([bs a] ++ (l.places (a ++ [48])).map bs) ++ (r.places (a ++ [49])).map bs by simp [T.places])
    have l1 := T.places_length l (a ++ [48])
    have l2 := T.places_length r (a ++ [49])
    have L1 : ((l.places (a ++ [48])).map bs).length ≤ 1000000 := by rw [List.length_map]; omega
    have L2 : ((r.places (a ++ [49])).map bs).length ≤ 1000000 := by rw [List.length_map]; omega
    clear l1 l2 ihl ihr
    obtain ⟨M1, hM1⟩ : ∃ M, M = (l.places (a ++ [48])).map bs := ⟨_, rfl⟩
    obtain ⟨M2, hM2⟩ : ∃ M, M = (r.places (a ++ [49])).map bs := ⟨_, rfl⟩
    rw [← hM1] at L1 C1 HF
    rw [← hM2] at L2 C2 HF
    clear hM1 hM2
    have hR0 : Kd.R Kd.string 9 (w.alloc (Obj.cells #[Value.string (bs a)] 9)) w.heap.size (fun _ => True) (.slice (some ⟨w.heap.size, 0, none⟩) 1 1) [bs a] :=
      Kd.R_of_own (own_lit_of (enc := Value.string) w _ _ [bs a] (Nat.le_refl _) (by simp)) (fun _ _ => trivial)
    have HR0 := Lib.hid hR0
    clear hR0
    go_enter Try.func93, Try.ntmps93
    go_wp2_with fail
    go_region_held3 (fun w' => w'.cell? ⟨b, 0, none⟩ = some vl ∧ w'.cell? ⟨b, 1, none⟩ = some vr) (go_keep)
      (first
      | (go_at_call_of 93 (vl); refine (C1 _ ?_).out.mono ?_; exact (hl.alloc _).drewN 1; rintro e w1 ⟨v1, rfl, hR1, hB1⟩; have q0 := (below_drew (below_alloc (Below.refl w.heap.size w) (Obj.cells #[Value.string (bs a)] 9))).trans (hB1.mono (by simp)); have k10 := pw_cell_below q0 h0; have k11 := pw_cell_below q0 h1; obtain ⟨A1, c1, rfl, hc1, hC1⟩ := Kd.R_reads hR1)
      | (go_at_call_of 93 (vl); refine (C1 _ ?_).out.mono ?_; exact hl.drewN 1; rintro e w1 ⟨v1, rfl, hR1, hB1⟩; have q0 := (below_drew (Below.refl w.heap.size w)).trans hB1; have k10 := pw_cell_below q0 h0; have k11 := pw_cell_below q0 h1; obtain ⟨A1, c1, rfl, hc1, hC1⟩ := Kd.R_reads hR1)
      | (refine Kd.R_append_rows_step Kd.string (w0 := w) w.heap.size (by rfl) (.tmp 8) (.tmp 15) 70 9 (.string ⟨#[]⟩) 16 rfl Try.underlying70 info_string rfl (by decide) (by omega) (.slice (some ⟨w.heap.size, 0, none⟩) 1 1) [bs a] M1 A1 _ c1 (fun _ => True) (fun _ => False) rfl rfl (Kd.R_below (Kd.R_drew HR0.out) hB1) hC1 (fun _ _ h => h) (fun _ h => h.elim) (fun _ _ => trivial) q0 q0.size ?_ ?_; (simp only [List.length_cons, List.length_nil]; omega); intro v2 w2 hR2 hB2 hg2 hat2; have k20 := pw_cell_below hB2 h0; have k21 := pw_cell_below hB2 h1)
      | (refine Kd.R_append_rows_step Kd.string (w0 := w) w.heap.size (by rfl) (.tmp 8) (.tmp 15) 70 9 (.string ⟨#[]⟩) 16 rfl Try.underlying70 info_string rfl (by decide) (by omega) (.slice (some ⟨w1.heap.size, 0, none⟩) 1 1) [bs a] M1 A1 _ c1 (fun _ => True) (fun _ => False) rfl rfl (Kd.R_of_own (own_lit_of (enc := Value.string) w1 _ _ [bs a] q0.size (by simp)) (fun _ _ => trivial)) (Kd.C_alloc hC1 _) (fun _ _ h => h) (fun _ h => h.elim) (fun _ _ => trivial) (below_alloc q0 _) (below_alloc q0 _).size ?_ ?_; (simp only [List.length_cons, List.length_nil]; omega); intro v2 w2 hR2 hB2 hg2 hat2; have k20 := pw_cell_below hB2 h0; have k21 := pw_cell_below hB2 h1)
      | (go_at_call_of 93 (vr); refine (C2 _ ?_).out.mono ?_; exact (hr.below hB2); rintro e w3 ⟨v3, rfl, hR3, hB3⟩; have q3 := hB2.trans (hB3.mono hB2.size); have k30 := pw_cell_below q3 h0; have k31 := pw_cell_below q3 h1; obtain ⟨A3, c3, rfl, hc3, hC3⟩ := Kd.R_reads hR3)
      | (refine Kd.R_append_rows_step Kd.string (w0 := w) w.heap.size (by rfl) (.tmp 16) (.tmp 23) 70 9 (.string ⟨#[]⟩) 16 rfl Try.underlying70 info_string rfl (by decide) (by omega) v2 ([bs a] ++ M1) M2 A3 _ c3 (fun _ => True) (fun _ => False) rfl rfl (Kd.R_below hR2 hB3) hC3 (fun _ _ h => h) (fun _ h => h.elim) (fun _ _ => trivial) q3 q3.size ?_ ?_; (simp only [List.length_append, List.length_cons, List.length_nil]; omega); intro v4 w4 hR4 hB4 hg4 hat4; have k40 := pw_cell_below hB4 h0; have k41 := pw_cell_below hB4 h1)
      | fail)
    all_goals
      go_wp2
      go_ret
      rw [HF.out]
      exact ⟨_, rfl, hR4, hB4⟩

end Go.Proofs.Ytceabidnjlpkeaa

namespace Go.Proofs.Ytceabidnjlpkeaa
open Go.RowKit Go.Proofs.YtceabidnjlpkeaaW.PrintWords
set_option linter.unusedVariables false
set_option linter.unusedSimpArgs false

/-- The addresses at which a tree can be rotated, or back. -/
def T.turns (back : Bool) (t : T) : List (List UInt8) := (t.places []).filter fun a => (t.turn back a).isSome

theorem T.places_short (t : T) : ∀ a x, x ∈ t.places a → x.length ≤ a.length + t.carets := by
  induction t with
  | nil => intro a x h; simp [T.places] at h
  | node l r hl hr =>
    intro a x h
    simp only [T.places, List.mem_cons, List.mem_append] at h
    rcases h with rfl | h | h
    · omega
    · have := hl _ _ h; simp at this; simp [T.carets]; omega
    · have := hr _ _ h; simp at this; simp [T.carets]; omega

theorem rdOf_get (l : List (List UInt8)) (k : Nat) (h : k < l.length) : rdOf ByteArray.empty (l.map bs) (k : Int) = bs l[k] := by
  simp [rdOf, List.getD_eq_getElem?_getD, List.getElem?_map, List.getElem?_eq_getElem h]

set_option maxHeartbeats 6400000 in
set_option maxRecDepth 1000000 in
theorem turns_any (back : Bool) (t : T) (w : World) (v : Value) (h : PT w t v) (hle : t.carets ≤ 1000000) :
    Calls Try.prog 71 #[v, .bool back] w (RowR Kd.string 9 w ((t.turns back).map bs)) := by
  have C1 := Lib.hid (places_any t w v [] h hle (by simp; omega))
  obtain ⟨pl, hpl⟩ : ∃ l, l = t.places [] := ⟨_, rfl⟩
  have hshort := fun x hx => T.places_short t [] x hx
  have hlen := T.places_length t []
  have HF := Lib.hid (show t.turns back = pl.filter fun a => (t.turn back a).isSome by rw [hpl]; rfl)
  rw [← hpl] at C1 hshort hlen
  have HS := Lib.hid hshort
  have n1 : pl.length ≤ 1000000 := by omega
  have n1' : (pl.length : Int) ≤ 1000000 := by omega
  have HT := Lib.hid (fun a W V h h2 => turn_any back a t W V h h2)
  obtain ⟨A, rfl⟩ := h.ptr
  clear hpl hshort hlen
  go_enter Try.func71, Try.ntmps71
  go_wp2_with fail
  refine C1.out.mono ?_
  rintro e w2 ⟨v2, rfl, hR2, hB2⟩
  obtain ⟨A2, c2, rfl, hc2, hC2⟩ := Kd.R_reads hR2
  have HC2 := Lib.hid hC2
  have HB12 := Lib.hid hB2
  have HP := Lib.hid (h.below hB2)
  clear hC2 hR2 hB2 h
  rw [List.length_map] at *
  go_wp2_with fail
  go_loopw [5, 13] (fun v i wr => ∃ k : Nat, k ≤ pl.length ∧ i = .int .i64 k ∧ Hid (Kd.R Kd.string 9 wr w2.heap.size (fun _ => True) v (((pl.take k).filter fun a => (t.turn back a).isSome).map bs)) ∧ Hid (Below w2.heap.size w2 wr))
    (fun _ i _ => pl.length - (intOf i).toNat)
  case atStart => exact ⟨0, Nat.zero_le _, rfl, Kd.R_nil _ _ _ _ _, Below.refl _ _⟩
  case round =>
    obtain ⟨k, hk, rfl, hR, hB⟩ := hrel
    by_cases hlt : k < pl.length
    · have hC := Kd.C_below HC2.out hB.out
      obtain ⟨ad, rfl, hcell⟩ := Kd.at_string hC (k : Int) (by omega) (by omega)
      simp only [Int.toNat_natCast] at hcell
      rw [rdOf_get pl k hlt] at hcell
      have hfl : (((pl.take k).filter fun a => (t.turn back a).isSome).map bs).length ≤ 1000000 := by
        rw [List.length_map]
        exact Nat.le_trans (List.length_filter_le _ _) (by rw [List.length_take]; omega)
      have htk : pl.take (k + 1) = pl.take k ++ [pl[k]] := by rw [List.take_succ_eq_append_getElem hlt]
      have hin : pl[k] ∈ pl := List.getElem_mem hlt
      have hsh := HS.out _ hin
      obtain ⟨x, hx⟩ : ∃ x, x = pl[k] := ⟨_, rfl⟩
      rw [← hx] at hcell htk hsh
      have HTK := Lib.hid htk
      have HTT := Lib.hid (HT.out x wr (.pointer A) (HP.out.below hB.out) (by simp at hsh; omega))
      clear hC htk hin hsh hx
      by_cases hm : (t.turn back x).isSome = true
      · have hfe : (((pl.take (k + 1)).filter fun a => (t.turn back a).isSome).map bs) = (((pl.take k).filter fun a => (t.turn back a).isSome).map bs) ++ [bs x] := by rw [HTK.out, List.filter_append]; simp [hm]
        have HFE := Lib.hid hfe
        have HM := Lib.hid hm
        clear hm hfe
        go_wp2_with fail
        refine HTT.out.mono ?_
        rintro e wc ⟨t', vc, hpc, rfl, hbc, _⟩
        rw [HM.out]
        go_wp2_with (at_builtin; refine Kd.R_append Kd.string (w0 := w2) w2.heap.size rfl (.tmp 25) (.tmp 27) 70 9 (.string ⟨#[]⟩) 16 rfl Try.underlying70 info_string rfl (by decide) (by omega) _ _ (bs x) [.string (bs x)] (fun _ => True) (fun _ => False) rfl rfl rfl (fun _ h => h.elim) (fun _ _ => trivial) (Kd.R_below hR.out hbc) (hB.out.trans (hbc.mono hB.out.size)) (hB.out.trans (hbc.mono hB.out.size)).size (by omega) ?_; intro v3 w3 hR3 hB3 hg3 hat3)
        go_roundw
        case rel => exact ⟨k + 1, by omega, by go_num, by rw [HFE.out]; exact hR3, hB3⟩
        case measure => simp [intOf]; omega
      · have hm' : (t.turn back x).isSome = false := by simpa using hm
        have hfe : (((pl.take (k + 1)).filter fun a => (t.turn back a).isSome).map bs) = (((pl.take k).filter fun a => (t.turn back a).isSome).map bs) := by rw [HTK.out, List.filter_append]; simp [hm']
        have HFE := Lib.hid hfe
        have HM := Lib.hid hm'
        clear hm hm' hfe
        go_wp2_with fail
        refine HTT.out.mono ?_
        rintro e wc ⟨t', vc, hpc, rfl, hbc, _⟩
        rw [HM.out]
        go_wp2
        go_roundw
        case rel => exact ⟨k + 1, by omega, by go_num, by rw [HFE.out]; exact Kd.R_below hR.out hbc, hB.out.trans (hbc.mono hB.out.size)⟩
        case measure => simp [intOf]; omega
    · have hk2 : k = pl.length := by omega
      have hk3 := Lib.hid hk2
      clear hk2
      go_wp2
      go_ret
      refine ⟨_, rfl, ?_, HB12.out.trans (hB.out.mono HB12.out.size)⟩
      have := hR.out
      rw [hk3.out, List.take_length] at this
      rw [HF.out]
      exact Kd.R_lower this HB12.out.size

end Go.Proofs.Ytceabidnjlpkeaa

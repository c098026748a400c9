/- Trees in memory, and the contracts of carets, leaves, text, addresses, exposed and without, for all trees. -/
import Derived.Test.YtceabidnjlpkeaaProg
import Derived.Below
import Derived.Deep.Draws
import Derived.OwnWalk
import Derived.Laws.OwnMore
import Derived.Deep.OwnRows
import Derived.Tactics
import Derived.WalkKit
import Derived.KernelRfl
import Derived.RowKit3
import Derived.Deep.QuietTactic
import Derived.BigQuiet
import Derived.Deep.RegionHeld3
import Derived.Lib.Hide
import Derived.RegionTactic
import Derived.ChangeAlike
import Derived.LoopTactic
import Derived.Outline
import Derived.Deep.RegionWith
import Derived.StillTailTactics
import Derived.Deep.DeepCutAuto
import Derived.Test.YtceabidnjlpkeaaWWords
import Derived.Test.YtceabidnjlpkeaaWLast
import Derived.Test.YtceabidnjlpkeaaWMore
import Derived.IntWalk
namespace Go.Proofs.Ytceabidnjlpkeaa
open Go.RowKit Go.Proofs.YtceabidnjlpkeaaW.PrintWords
set_option linter.unusedVariables false
set_option linter.unusedSimpArgs false

/-- A tree of carets. -/
inductive T where
  | nil
  | node (l r : T)
deriving DecidableEq

def T.carets : T → Nat
  | .nil => 0
  | .node l r => 1 + l.carets + r.carets

/-- The letters of a tree's text. -/
def T.enc : T → List UInt8
  | .nil => [46]
  | .node l r => 40 :: (l.enc ++ r.enc ++ [41])

/-- The text of a tree. -/
def T.text (t : T) : ByteArray := ⟨t.enc.toArray⟩

theorem T.enc_length (t : T) : t.enc.length = 3 * t.carets + 1 := by
  induction t with
  | nil => rfl
  | node l r hl hr => simp [T.enc, T.carets, hl, hr]; omega

theorem T.size_text (t : T) : t.text.size = 3 * t.carets + 1 := by
  rw [← t.enc_length]; rfl

theorem T.text_node (l r : T) : (⟨#[40]⟩ : ByteArray) ++ l.text ++ r.text ++ ⟨#[41]⟩ = (T.node l r).text := by
  apply ByteArray.ext
  simp [T.text, T.enc, ByteArray.data_append]

/-- A tree at the beginning of letters, and what is behind it. -/
def readL : Nat → List UInt8 → Option (T × List UInt8)
  | 0, _ => none
  | _ + 1, [] => none
  | n + 1, c :: s =>
    if c = 46 then some (.nil, s)
    else if c = 40 then
      match readL n s with
      | none => none
      | some (l, rest) =>
        match readL n rest with
        | none => none
        | some (_, []) => none
        | some (r, d :: more) => if d = 41 then some (.node l r, more) else none
    else none

/-- The value v is a pointer to the nodes of t in w. -/
def PT (w : World) : T → Value → Prop
  | .nil, v => v = .pointer none
  | .node l r, v => ∃ b vl vr, v = .pointer (some ⟨b, 0, none⟩) ∧ w.heap[b]? = some (Obj.cells #[vl, vr] 80 (0, 0)) ∧ PT w l vl ∧ PT w r vr

theorem PT.kept {w w1 : World} (hh : ∀ (b : Nat) (c : Array Value), w.heap[b]? = some (Obj.cells c 80 (0, 0)) → w1.heap[b]? = some (Obj.cells c 80 (0, 0))) : ∀ {t : T} {v : Value}, PT w t v → PT w1 t v
  | .nil, _, h => h
  | .node _ _, _, ⟨b, vl, vr, hv, hb, hl, hr⟩ => ⟨b, vl, vr, hv, hh _ _ hb, PT.kept hh hl, PT.kept hh hr⟩

theorem PT.below {w w1 : World} {t : T} {v : Value} (h : PT w t v) (hb : Below w.heap.size w w1) : PT w1 t v :=
  h.kept fun b c hc => by
    obtain ⟨hlt, _⟩ := Array.getElem?_eq_some_iff.1 hc
    rw [hb.block b hlt, hc]

theorem PT.drewN {w : World} {t : T} {v : Value} (h : PT w t v) (n : Nat) : PT (w.drewN n) t v := PT.kept (w := w) (w1 := w.drewN n) (fun _ _ hc => hc) h
theorem PT.undrewN {w : World} {t : T} {v : Value} (n : Nat) (h : PT (w.drewN n) t v) : PT w t v := PT.kept (w := w.drewN n) (w1 := w) (fun _ _ hc => hc) h
theorem PT.alloc {w : World} {t : T} {v : Value} (h : PT w t v) (o : Obj) : PT (w.alloc o) t v := h.below ((Below.refl _ _).alloc (Nat.le_refl _) _)

theorem cell_drewN {w : World} {a : Addr} {v : Value} (h : w.cell? a = some v) (n : Nat) : (w.drewN n).cell? a = some v := h
theorem cell_drew {w : World} {a : Addr} {v : Value} (h : w.cell? a = some v) : w.drew.cell? a = some v := h
theorem cell_of_below {B : Nat} {w w1 : World} {a : Addr} {v : Value} (hb : Below B w w1) (hB : w.heap.size ≤ B) (h : w.cell? a = some v) : w1.cell? a = some v := pw_cell_below (hb.mono hB) h

/-- Behind a call that makes memory: all old cells and marks read as before. -/
theorem bcell {W w1 : World} (hb : Below W.heap.size W w1) : (∀ b o, b < W.heap.size → w1.cell? ⟨b, o, none⟩ = W.cell? ⟨b, o, none⟩) ∧ (∀ b o, b < W.heap.size → w1.frozen? ⟨b, o, none⟩ = W.frozen? ⟨b, o, none⟩) :=
  ⟨fun b o h => hb.cell (p := ⟨b, o, none⟩) h, fun b o h => hb.frozen (p := ⟨b, o, none⟩) h⟩

/-- What a pointer to a tree looks like. -/
theorem PT.ptr {w : World} {t : T} {v : Value} (h : PT w t v) : ∃ A : Option Addr, v = .pointer A := by
  cases t with
  | nil => exact ⟨_, h⟩
  | node l r => obtain ⟨b, vl, vr, hv, _⟩ := h; exact ⟨_, hv⟩

theorem PT.cells {w : World} {b : Nat} {vl vr : Value} (h : w.heap[b]? = some (Obj.cells #[vl, vr] 80 (0, 0))) :
    w.cell? ⟨b, 0, none⟩ = some vl ∧ w.cell? ⟨b, 1, none⟩ = some vr := by
  constructor <;> simp [World.cell?, h]

theorem PT.drew {w : World} {t : T} {v : Value} (h : PT w t v) : PT w.drew t v := PT.kept (w := w) (w1 := w.drew) (fun _ _ hc => hc) h

/-- A new node. -/
theorem PT.new {w1 w2 : World} {l r : T} {vl vr : Value} (hl : PT w1 l vl) (hr : PT w2 r vr) (h1 : Below w1.heap.size w1 w2) :
    PT (w2.alloc (Obj.cells #[vl, vr] 80 (0, 0))) (.node l r) (.pointer (some ⟨w2.heap.size, 0, none⟩)) := by
  refine ⟨w2.heap.size, vl, vr, rfl, ?_, (hl.below h1).alloc _, hr.alloc _⟩
  show (w2.heap.push _)[w2.heap.size]? = _
  simp

/-- Block g holds cells of a type. -/
def Ty (w : World) (g ty : Nat) : Prop := ∃ c fr, w.heap[g]? = some (Obj.cells c ty fr)
theorem Ty.lt {w : World} {g ty : Nat} (h : Ty w g ty) : g < w.heap.size := by
  obtain ⟨c, fr, h⟩ := h
  exact (Array.getElem?_eq_some_iff.1 h).1
theorem Ty.below {w w1 : World} {g ty : Nat} (h : Ty w g ty) (hb : Below w.heap.size w w1) : Ty w1 g ty := by
  have hl := h.lt
  obtain ⟨c, fr, h⟩ := h
  exact ⟨c, fr, (hb.block g hl).trans h⟩
theorem Ty.drewN {w : World} {g ty : Nat} (h : Ty w g ty) (n : Nat) : Ty (w.drewN n) g ty := h
theorem Ty.drew {w : World} {g ty : Nat} (h : Ty w g ty) : Ty w.drew g ty := h
theorem Ty.new (w : World) (c : Array Value) (ty : Nat) (fr : Nat × Nat) : Ty (w.alloc (Obj.cells c ty fr)) w.heap.size ty :=
  ⟨c, fr, by show (w.heap.push _)[w.heap.size]? = _; simp⟩
theorem Ty.alloc {w : World} {g ty : Nat} (h : Ty w g ty) (o : Obj) : Ty (w.alloc o) g ty := h.below ((Below.refl _ _).alloc (Nat.le_refl _) _)
theorem Ty.setCell {w : World} {g ty : Nat} (h : Ty w g ty) (p : Addr) (u : Value) : Ty (w.setCell p u) g ty := by
  obtain ⟨c, fr, h⟩ := h
  by_cases hp : p.block = g
  · refine ⟨if p.spot.isSome then c else c.setIfInBounds p.off u, fr, ?_⟩
    simp [World.setCell, Array.getElem?_modify, hp, h]
  · exact ⟨c, fr, by rw [Below.heap_setCell w p u g (fun e => hp e.symm)]; exact h⟩
theorem PT.set {w : World} {t : T} {v : Value} (h : PT w t v) {g ty : Nat} (hg : Ty w g ty) (hne : ty ≠ 80) (o : Nat) (u : Value) : PT (w.setCell ⟨g, o, none⟩ u) t v :=
  h.kept fun b c hc => by
    have hb : b ≠ g := by
      rintro rfl
      obtain ⟨c', fr, hg⟩ := hg
      rw [hc] at hg
      injection hg with hg
      injection hg with _ hg
      exact hne hg.symm
    rw [Below.heap_setCell w _ u b hb]; exact hc

end Go.Proofs.Ytceabidnjlpkeaa

namespace Go.Proofs.Ytceabidnjlpkeaa
open Go.RowKit Go.Proofs.YtceabidnjlpkeaaW.PrintWords
set_option linter.unusedVariables false
set_option linter.unusedSimpArgs false

set_option maxHeartbeats 1600000 in
set_option maxRecDepth 1000000 in
theorem carets_any (t : T) : ∀ (w : World) (v : Value), PT w t v → t.carets ≤ 4611686018427387904 →
    Calls Try.prog 41 #[v] w fun e w' => e = .returned (.int .i64 t.carets) ∧ ∃ n, w' = w.drewN n := by
  induction t with
  | nil =>
    rintro w v rfl _
    go_enter Try.func41, Try.ntmps41
    go_wp2
    go_ret
    exact ⟨rfl, 0, rfl⟩
  | node l r ihl ihr =>
    rintro w v ⟨b, vl, vr, rfl, hb, hl, hr⟩ hle
    obtain ⟨h0, h1⟩ := PT.cells hb
    clear hb
    simp only [T.carets] at hle
    have b1 : 0 ≤ (l.carets : Int) := by omega
    have b2 : (l.carets : Int) ≤ 4611686018427387904 := by omega
    have b3 : 0 ≤ (r.carets : Int) := by omega
    have b4 : 1 + (l.carets : Int) + (r.carets : Int) ≤ 4611686018427387904 := by omega
    have ihl := Lib.hid ihl
    have ihr := Lib.hid ihr
    go_enter Try.func41, Try.ntmps41
    go_wp2_with fail
    go_quiet (first
      | (go_at_call_of 41 (vl); refine Calls.quiet_of (ihl.out _ _ ?_ ?_); exact hl.drewN _; omega)
      | (go_at_call_of 41 (vr); refine Calls.quiet_of (ihr.out _ _ ?_ ?_); exact hr.drewN _; omega))
    go_wp2_with fail
    go_ret
    exact ⟨by simp [T.carets], nq, rfl⟩

end Go.Proofs.Ytceabidnjlpkeaa

namespace Go.Proofs.Ytceabidnjlpkeaa
open Go.RowKit Go.Proofs.YtceabidnjlpkeaaW.PrintWords
set_option linter.unusedVariables false
set_option linter.unusedSimpArgs false

set_option maxHeartbeats 1600000 in
set_option maxRecDepth 1000000 in
theorem leaves_any (t : T) (w : World) (v : Value) (h : PT w t v) (hle : t.carets ≤ 4611686018427387904) :
    Calls Try.prog 49 #[v] w fun e w' => e = .returned (.int .i64 (t.carets + 1)) ∧ ∃ n, w' = w.drewN n := by
  have hle' : (t.carets : Int) ≤ 4611686018427387904 := by omega
  have h0 : 0 ≤ (t.carets : Int) := by omega
  have H := Lib.hid h
  have C := fun w' => Lib.hid (carets_any t w' v)
  obtain ⟨A, rfl⟩ := h.ptr
  clear h
  go_enter Try.func49, Try.ntmps49
  go_wp2_with fail
  refine (carets_any t _ _ H.out (by omega)).mono ?_
  rintro e w' ⟨rfl, n, rfl⟩
  go_wp2_with fail
  go_ret
  exact ⟨by simp, n, rfl⟩

set_option maxHeartbeats 1600000 in
set_option maxRecDepth 1000000 in
theorem text_any (t : T) : ∀ (w : World) (v : Value), PT w t v → t.carets ≤ 4611686018427 →
    Calls Try.prog 42 #[v] w fun e w' => e = .returned (.string t.text) ∧ ∃ n, w' = w.drewN n := by
  induction t with
  | nil =>
    rintro w v rfl _
    go_enter Try.func42, Try.ntmps42
    go_wp2
    go_ret
    exact ⟨rfl, 0, rfl⟩
  | node l r ihl ihr =>
    rintro w v ⟨b, vl, vr, rfl, hb, hl, hr⟩ hle
    obtain ⟨h0, h1⟩ := PT.cells hb
    clear hb
    simp only [T.carets] at hle
    have b1 : 0 ≤ (l.carets : Int) := by omega
    have b3 : 0 ≤ (r.carets : Int) := by omega
    have sl := l.size_text
    have sr := r.size_text
    have e1 := fun w => run_string_add_sum (P := Try.prog) w ⟨#[40]⟩ l.text (by show 1 + _ ≤ _; omega)
    have e2 := fun w => run_string_add_sum (P := Try.prog) w (⟨#[40]⟩ ++ l.text) r.text (by simp only [ByteArray.size_append]; show 1 + _ + _ ≤ _; omega)
    have e3 := fun w => run_string_add_sum (P := Try.prog) w (⟨#[40]⟩ ++ l.text ++ r.text) ⟨#[41]⟩ (by simp only [ByteArray.size_append]; show 1 + _ + _ + 1 ≤ _; omega)
    clear sl sr
    have ihl := Lib.hid ihl
    have ihr := Lib.hid ihr
    go_enter Try.func42, Try.ntmps42
    go_wp2_with fail
    go_quiet (first
      | (go_at_call_of 42 (vl); refine Calls.quiet_of (ihl.out _ _ ?_ ?_); exact hl.drewN _; omega)
      | (go_at_call_of 42 (vr); refine Calls.quiet_of (ihr.out _ _ ?_ ?_); exact hr.drewN _; omega))
    go_wp2_with fail
    go_ret
    exact ⟨by rw [T.text_node]; rfl, nq, rfl⟩

end Go.Proofs.Ytceabidnjlpkeaa

namespace Go.Proofs.Ytceabidnjlpkeaa
open Go.RowKit Go.Proofs.YtceabidnjlpkeaaW.PrintWords
set_option linter.unusedVariables false
set_option linter.unusedSimpArgs false

theorem info_string : (Try.prog.info? 9).map (fun i => (i.zero, i.size, i.bytes)) = some (some (.string ⟨#[]⟩), 1, 16) := by kernel_rfl

/-- The addresses of all leaves of a tree, behind one. -/
def T.addrs : T → ByteArray → List ByteArray
  | .nil, a => [a]
  | .node l r, a => l.addrs (a ++ ⟨#[48]⟩) ++ r.addrs (a ++ ⟨#[49]⟩)

theorem T.addrs_length (t : T) : ∀ a, (t.addrs a).length = t.carets + 1 := by
  induction t with
  | nil => intro a; rfl
  | node l r hl hr => intro a; simp [T.addrs, T.carets, hl, hr]; omega

def RowR {α : Type} (d : Kd α) (e : Nat) (w : World) (xs : List α) (en : Ending) (w' : World) : Prop :=
  ∃ v0 : Value, en = .returned v0 ∧ Kd.R d e w' w.heap.size (fun _ => True) v0 xs ∧ Below w.heap.size w w'

set_option maxHeartbeats 1600000 in
set_option maxRecDepth 1000000 in
theorem addresses_any (t : T) : ∀ (w : World) (v : Value) (a : ByteArray), PT w t v → t.carets ≤ 1000000 → a.size + t.carets ≤ 1000000000 →
    Calls Try.prog 48 #[v, .string a] w (RowR Kd.string 9 w (t.addrs a)) := by
  induction t with
  | nil =>
    rintro w v a rfl _ _
    go_enter Try.func48, Try.ntmps48
    go_wp2
    go_ret
    exact ⟨.slice (some ⟨w.heap.size, 0, none⟩) 1 1, rfl, Kd.R_of_own (own_lit_of (enc := Value.string) w _ _ [a] (Nat.le_refl _) (by simp)) (fun _ _ => trivial), below_alloc (Below.refl _ _) _⟩
  | node l r ihl ihr =>
    rintro w v a ⟨b, vl, vr, rfl, hb, hl, hr⟩ hle hsz
    obtain ⟨h0, h1⟩ := PT.cells hb
    clear hb
    simp only [T.carets] at hle hsz
    have e1 := fun w => run_string_add_sum (P := Try.prog) w a ⟨#[48]⟩ (by show _ + 1 ≤ _; omega)
    have e2 := fun w => run_string_add_sum (P := Try.prog) w a ⟨#[49]⟩ (by show _ + 1 ≤ _; omega)
    have ihl := Lib.hid ihl
    have ihr := Lib.hid ihr
    go_enter Try.func48, Try.ntmps48
    go_wp2_with fail
    go_region_held3 (fun w' => w'.cell? ⟨b, 0, none⟩ = some vl ∧ w'.cell? ⟨b, 1, none⟩ = some vr)
      (go_keep)
      (first
      | (go_at_call_of 48 (vl); refine (ihl.out _ _ _ ?_ ?_ ?_).mono ?_; (exact hl.drew); omega; (simp only [ByteArray.size_append]; show _ + 1 + _ ≤ _; omega); rintro e w1 ⟨v1, rfl, hR1, hB1⟩; have k10 := pw_cell_below hB1 h0; have k11 := pw_cell_below hB1 h1)
      | (go_at_call_of 48 (vr); refine (ihr.out _ _ _ ?_ ?_ ?_).mono ?_; (exact (hr.drew.below hB1)); omega; (simp only [ByteArray.size_append]; show _ + 1 + _ ≤ _; omega); rintro e w2 ⟨v2, rfl, hR2, hB2⟩; have k20 := pw_cell_below hB2 k10; have k21 := pw_cell_below hB2 k11; obtain ⟨A2, c2, rfl, hc2, hC2⟩ := Kd.R_reads hR2)
      | (refine Kd.R_append_rows_step Kd.string (w0 := w) w.heap.size (by rfl) (.tmp 15) (.tmp 22) 70 9 (.string ⟨#[]⟩) 16 rfl Try.underlying70 info_string rfl (by decide) (by omega) v1 _ _ A2 _ c2 (fun _ => True) (fun _ => False) rfl rfl (Kd.R_below hR1 hB2) hC2 (fun _ _ h => h) (fun _ h => h.elim) (fun _ _ => trivial) (((below_drew (Below.refl _ _)).trans hB1).trans (hB2.mono hB1.size)) (Nat.le_trans hB1.size hB2.size) (by rw [T.addrs_length, T.addrs_length]; omega) ?_; intro v3 w3 hR3 hB3 hg3 hat3; have k30 := (hB3.cell (World.block_lt_of_cell? _ _ h0)).trans h0; have k31 := (hB3.cell (World.block_lt_of_cell? _ _ h1)).trans h1))
    go_wp2
    go_ret
    exact ⟨_, rfl, hR3, hB3⟩

end Go.Proofs.Ytceabidnjlpkeaa

namespace Go.Proofs.Ytceabidnjlpkeaa
open Go.RowKit Go.Proofs.YtceabidnjlpkeaaW.PrintWords
set_option linter.unusedVariables false
set_option linter.unusedSimpArgs false

theorem info_int : (Try.prog.info? 3).map (fun i => (i.zero, i.size, i.bytes)) = some (some (.int .i64 0), 1, 8) := by kernel_rfl

/-- The left leaves of all exposed carets, from a number on. -/
def T.exp : T → Int → List Int
  | .nil, _ => []
  | .node .nil .nil, f => [f]
  | .node l r, f => l.exp f ++ r.exp (f + (l.carets + 1))

theorem T.exp_node (l r : T) (f : Int) (h : l ≠ .nil ∨ r ≠ .nil) : (T.node l r).exp f = l.exp f ++ r.exp (f + (l.carets + 1)) := by
  cases l <;> cases r <;> simp_all [T.exp]

theorem T.exp_length (t : T) : ∀ f, (t.exp f).length ≤ t.carets := by
  induction t with
  | nil => intro f; simp [T.exp]
  | node l r hl hr =>
    intro f
    by_cases h : l = .nil ∧ r = .nil
    · obtain ⟨rfl, rfl⟩ := h
      simp [T.exp, T.carets]
    · rw [T.exp_node l r f (by by_cases h1 : l = .nil <;> simp_all)]
      have := hl f
      have := hr (f + (l.carets + 1))
      simp [T.carets]
      omega

/-- The pointer of a tree, and whether it is nil. -/
theorem PT.isNil {w : World} {v : Value} (h : PT w .nil v) : v = .pointer none := h
theorem PT.isNode {w : World} {v : Value} {l r : T} (h : PT w (.node l r) v) : ∃ b, v = .pointer (some ⟨b, 0, none⟩) := by
  obtain ⟨b, _, _, hv, _⟩ := h
  exact ⟨b, hv⟩

set_option maxHeartbeats 3200000 in
set_option maxRecDepth 1000000 in
theorem exposed_any (t : T) : ∀ (w : World) (v : Value) (f : Int), PT w t v → t.carets ≤ 1000000 → 0 ≤ f → f + t.carets ≤ 1000000000 →
    Calls Try.prog 67 #[v, .int .i64 f] w (RowR (Kd.int .i64) 3 w (t.exp f)) := by
  induction t with
  | nil =>
    rintro w v f rfl _ _ _
    go_enter Try.func67, Try.ntmps67
    go_wp2
    go_ret
    exact ⟨.slice none 0 0, rfl, Kd.R_nil _ _ _ _ _, Below.refl _ _⟩
  | node l r ihl ihr =>
    rintro w v f ⟨b, vl, vr, rfl, hb, hl, hr⟩ hle hf hsz
    obtain ⟨h0, h1⟩ := PT.cells hb
    clear hb
    simp only [T.carets] at hle hsz
    by_cases hnn : l = .nil ∧ r = .nil
    · obtain ⟨rfl, rfl⟩ := hnn
      obtain rfl := hl.isNil
      obtain rfl := hr.isNil
      clear ihl ihr
      go_enter Try.func67, Try.ntmps67
      go_wp2
      go_ret
      exact ⟨.slice (some ⟨w.heap.size, 0, none⟩) 1 1, rfl, Kd.R_of_own (own_lit_of (enc := Value.int .i64) w _ _ [f] (Nat.le_refl _) (by simp)) (fun _ _ => trivial), below_alloc (Below.refl _ _) _⟩
    · have hnn' : l ≠ .nil ∨ r ≠ .nil := by by_cases h1 : l = .nil <;> simp_all
      have hfin := T.exp_node l r f hnn'
      have HF := Lib.hid hfin
      clear hfin
      have hlc := Lib.hid (fun w h => leaves_any l w vl h (by omega))
      have b1 : 0 ≤ (l.carets : Int) := by omega
      have b2 : f + ((l.carets : Int) + 1) ≤ 1000000000 := by omega
      have b3 : 0 ≤ f + ((l.carets : Int) + 1) := by omega
      have el1 := T.exp_length l f
      have el2 := T.exp_length r (f + ((l.carets : Int) + 1))
      have ihl := Lib.hid ihl
      have ihr := Lib.hid ihr
      have hA : ∃ A B : Option Addr, vl = .pointer A ∧ vr = .pointer B ∧ (A ≠ none ∨ B ≠ none) := by
        obtain ⟨A, hA⟩ := hl.ptr
        obtain ⟨B, hB⟩ := hr.ptr
        refine ⟨A, B, hA, hB, ?_⟩
        rcases hnn' with h | h
        · cases l with
          | nil => exact absurd rfl h
          | node _ _ => obtain ⟨b', hb'⟩ := hl.isNode; left; rintro rfl; rw [hA] at hb'; simp at hb'
        · cases r with
          | nil => exact absurd rfl h
          | node _ _ => obtain ⟨b', hb'⟩ := hr.isNode; right; rintro rfl; rw [hB] at hb'; simp at hb'
      clear hnn' hnn
      obtain ⟨A, B, rfl, hB, hAB⟩ := hA
      have hw : (A = none ∧ ∃ q, B = some q) ∨ ∃ p, A = some p := by
        cases A with
        | none =>
          cases B with
          | none => simp at hAB
          | some q => exact .inl ⟨rfl, q, rfl⟩
        | some p => exact .inr ⟨p, rfl⟩
      clear hAB
      rcases hw with ⟨rfl, q, rfl⟩ | ⟨p, rfl⟩
      rotate_left
      clear hB
      rotate_right
      subst hB
      · have hw1 : IntKind.i64.wrap (f + ((l.carets : Int) + 1)) = f + ((l.carets : Int) + 1) := IntWalk.i64_in _ (by omega)
        go_enter Try.func67, Try.ntmps67
        go_wp2_with fail
        go_region_held3 (fun w' => w'.cell? ⟨b, 0, none⟩ = some (Value.pointer none) ∧ w'.cell? ⟨b, 1, none⟩ = some (Value.pointer (some q)))
          (go_keep)
          (first
          | (go_at_call 49; refine (hlc.out _ ?_).mono ?_; exact hl.drew.below hB1; rintro e wx ⟨rfl, nl, rfl⟩)
          | (go_at_call_of 67 (Value.pointer none); refine (ihl.out _ _ _ ?_ ?_ ?_ ?_).mono ?_; (exact hl.drew); omega; omega; omega; rintro e w1 ⟨v1, rfl, hR1, hB1⟩; have k10 := pw_cell_below hB1 (cell_drew h0); have k11 := pw_cell_below hB1 (cell_drew h1))
          | (go_at_call_of 67 (Value.pointer (some q)); refine (ihr.out _ _ _ ?_ ?_ ?_ ?_).mono ?_; (exact ((hr.drew.below hB1).drewN nl)); omega; omega; omega; rintro e w2 ⟨v2, rfl, hR2, hB2⟩; have k20 := pw_cell_below hB2 (cell_drewN k10 nl); have k21 := pw_cell_below hB2 (cell_drewN k11 nl); obtain ⟨A2, c2, rfl, hc2, hC2⟩ := Kd.R_reads hR2)
          | (refine Kd.R_append_rows_step (Kd.int .i64) (w0 := w) w.heap.size (by rfl) (.tmp 26) (.tmp 38) 68 3 (.int .i64 0) 8 rfl Try.underlying68 info_int rfl (by decide) (by omega) v1 _ _ A2 _ c2 (fun _ => True) (fun _ => False) rfl rfl (Kd.R_below (Kd.R_below hR1 (pw_below_drewN (Below.refl _ _) nl)) hB2) hC2 (fun _ _ h => h) (fun _ h => h.elim) (fun _ _ => trivial) ((pw_below_drewN ((below_drew (Below.refl _ _)).trans hB1) nl).trans (hB2.mono hB1.size)) (Nat.le_trans hB1.size hB2.size) ?_ ?_; omega; intro v3 w3 hR3 hB3 hg3 hat3; have k30 := (hB3.cell (World.block_lt_of_cell? _ _ h0)).trans h0; have k31 := (hB3.cell (World.block_lt_of_cell? _ _ h1)).trans h1))
        go_wp2
        go_ret
        rw [HF.out]
        exact ⟨_, rfl, hR3, hB3⟩
      · have hw1 : IntKind.i64.wrap (f + ((l.carets : Int) + 1)) = f + ((l.carets : Int) + 1) := IntWalk.i64_in _ (by omega)
        go_enter Try.func67, Try.ntmps67
        go_wp2_with fail
        go_region_held3 (fun w' => w'.cell? ⟨b, 0, none⟩ = some (Value.pointer (some p)) ∧ w'.cell? ⟨b, 1, none⟩ = some (vr))
          (go_keep)
          (first
          | (go_at_call 49; refine (hlc.out _ ?_).mono ?_; exact hl.drew.below hB1; rintro e wx ⟨rfl, nl, rfl⟩)
          | (go_at_call_of 67 (Value.pointer (some p)); refine (ihl.out _ _ _ ?_ ?_ ?_ ?_).mono ?_; (exact hl.drew); omega; omega; omega; rintro e w1 ⟨v1, rfl, hR1, hB1⟩; have k10 := pw_cell_below hB1 (cell_drew h0); have k11 := pw_cell_below hB1 (cell_drew h1))
          | (go_at_call_of 67 (vr); refine (ihr.out _ _ _ ?_ ?_ ?_ ?_).mono ?_; (exact ((hr.drew.below hB1).drewN nl)); omega; omega; omega; rintro e w2 ⟨v2, rfl, hR2, hB2⟩; have k20 := pw_cell_below hB2 (cell_drewN k10 nl); have k21 := pw_cell_below hB2 (cell_drewN k11 nl); obtain ⟨A2, c2, rfl, hc2, hC2⟩ := Kd.R_reads hR2)
          | (refine Kd.R_append_rows_step (Kd.int .i64) (w0 := w) w.heap.size (by rfl) (.tmp 26) (.tmp 38) 68 3 (.int .i64 0) 8 rfl Try.underlying68 info_int rfl (by decide) (by omega) v1 _ _ A2 _ c2 (fun _ => True) (fun _ => False) rfl rfl (Kd.R_below (Kd.R_below hR1 (pw_below_drewN (Below.refl _ _) nl)) hB2) hC2 (fun _ _ h => h) (fun _ h => h.elim) (fun _ _ => trivial) ((pw_below_drewN ((below_drew (Below.refl _ _)).trans hB1) nl).trans (hB2.mono hB1.size)) (Nat.le_trans hB1.size hB2.size) ?_ ?_; omega; intro v3 w3 hR3 hB3 hg3 hat3; have k30 := (hB3.cell (World.block_lt_of_cell? _ _ h0)).trans h0; have k31 := (hB3.cell (World.block_lt_of_cell? _ _ h1)).trans h1))
        go_wp2
        go_ret
        rw [HF.out]
        exact ⟨_, rfl, hR3, hB3⟩

end Go.Proofs.Ytceabidnjlpkeaa

namespace Go.Proofs.Ytceabidnjlpkeaa
open Go.RowKit Go.Proofs.YtceabidnjlpkeaaW.PrintWords
set_option linter.unusedVariables false
set_option linter.unusedSimpArgs false

/-- A tree without the exposed caret with a left leaf. -/
def T.wo : T → Int → T
  | .nil, _ => .nil
  | .node l r, k => if l = .nil ∧ r = .nil then .nil else if (l.carets : Int) + 1 ≤ k then .node l (r.wo (k - ((l.carets : Int) + 1))) else .node (l.wo k) r

theorem T.exp_bound (t : T) : ∀ f x, x ∈ t.exp f → f ≤ x ∧ x < f + t.carets := by
  induction t with
  | nil => intro f x h; simp [T.exp] at h
  | node l r hl hr =>
    intro f x h
    by_cases hn : l = .nil ∧ r = .nil
    · obtain ⟨rfl, rfl⟩ := hn
      simp [T.exp] at h
      simp [T.carets, h]; omega
    · rw [T.exp_node l r f (by by_cases h1 : l = .nil <;> simp_all)] at h
      rcases List.mem_append.1 h with h | h
      · have := hl _ _ h; simp [T.carets]; omega
      · have := hr _ _ h; simp [T.carets]; omega

theorem T.exp_shift (t : T) : ∀ f g, t.exp (f + g) = (t.exp f).map (· + g) := by
  induction t with
  | nil => intro f g; simp [T.exp]
  | node l r hl hr =>
    intro f g
    by_cases hn : l = .nil ∧ r = .nil
    · obtain ⟨rfl, rfl⟩ := hn
      simp [T.exp]
    · have hn' : l ≠ .nil ∨ r ≠ .nil := by by_cases h1 : l = .nil <;> simp_all
      rw [T.exp_node l r _ hn', T.exp_node l r _ hn', List.map_append, hl, ← hr]
      congr 2
      omega

theorem T.exp_parts {l r : T} (hn : ¬ (l = .nil ∧ r = .nil)) {k : Int} (h : k ∈ (T.node l r).exp 0) :
    ((l.carets : Int) + 1 ≤ k → k - ((l.carets : Int) + 1) ∈ r.exp 0) ∧ (¬ (l.carets : Int) + 1 ≤ k → k ∈ l.exp 0) := by
  rw [T.exp_node l r 0 (by by_cases h1 : l = .nil <;> simp_all)] at h
  rcases List.mem_append.1 h with h | h
  · have := T.exp_bound _ _ _ h
    exact ⟨fun h2 => by omega, fun _ => h⟩
  · have hb := T.exp_bound _ _ _ h
    refine ⟨fun _ => ?_, fun h2 => by omega⟩
    rw [T.exp_shift, List.mem_map] at h
    obtain ⟨x, hx, rfl⟩ := h
    have e : x + ((l.carets : Int) + 1) - ((l.carets : Int) + 1) = x := by omega
    rw [e]; exact hx

/-- The tree that a call makes. -/
def TreeR (w : World) (t : T) (en : Ending) (w' : World) : Prop :=
  ∃ v0 : Value, en = .returned v0 ∧ PT w' t v0 ∧ Below w.heap.size w w'

theorem PT.nilOr {w : World} {t : T} {v : Value} (h : PT w t v) : (t = .nil ∧ v = .pointer none) ∨ ∃ b, t ≠ .nil ∧ v = .pointer (some ⟨b, 0, none⟩) := by
  cases t with
  | nil => exact .inl ⟨rfl, h⟩
  | node l r => obtain ⟨b, hb⟩ := h.isNode; exact .inr ⟨b, by simp, hb⟩

set_option maxHeartbeats 3200000 in
set_option maxRecDepth 1000000 in
theorem without_any (t : T) : ∀ (w : World) (v : Value) (k : Int), PT w t v → t.carets ≤ 1000000 → k ∈ t.exp 0 →
    Calls Try.prog 77 #[v, .int .i64 k] w (TreeR w (t.wo k)) := by
  induction t with
  | nil => rintro w v k _ _ h; simp [T.exp] at h
  | node l r ihl ihr =>
    rintro w v k ⟨b, vl, vr, rfl, hb, hl, hr⟩ hle hk
    obtain ⟨h0, h1⟩ := PT.cells hb
    clear hb
    have hkb := T.exp_bound _ _ _ hk
    simp only [T.carets] at hle hkb
    by_cases hnn : l = .nil ∧ r = .nil
    · have hfin : (T.node l r).wo k = .nil := by simp [T.wo, hnn]
      have HF := Lib.hid hfin
      obtain ⟨rfl, rfl⟩ := hnn
      obtain rfl := hl.isNil
      obtain rfl := hr.isNil
      clear ihl ihr hfin
      go_enter Try.func77, Try.ntmps77
      go_wp2
      go_ret
      rw [HF.out]
      exact ⟨.pointer none, rfl, rfl, Below.refl _ _⟩
    · obtain ⟨hp1, hp2⟩ := T.exp_parts hnn hk
      have hlc := Lib.hid (fun w h => leaves_any l w vl h (by omega))
      have b1 : 0 ≤ (l.carets : Int) := by omega
      have b2 : 0 ≤ k := by omega
      have b3 : k ≤ 1000000000 := by omega
      have b4 : (l.carets : Int) + 1 ≤ 1000000000 := by omega
      have ihl := Lib.hid ihl
      have ihr := Lib.hid ihr
      have hlr : l.carets ≤ 1000000 ∧ r.carets ≤ 1000000 := by omega
      have hq : (vl = .pointer none ∧ ∃ q, vr = .pointer (some q)) ∨ ∃ p, vl = .pointer (some p) := by
        rcases hl.nilOr with ⟨h1, h2⟩ | ⟨p, h1, h2⟩
        · rcases hr.nilOr with ⟨h3, h4⟩ | ⟨q, h3, h4⟩
          · exact absurd ⟨h1, h3⟩ hnn
          · exact .inl ⟨h2, _, h4⟩
        · exact .inr ⟨_, h2⟩
      by_cases hge : (l.carets : Int) + 1 ≤ k
      · have hfin : (T.node l r).wo k = .node l (r.wo (k - ((l.carets : Int) + 1))) := by simp only [T.wo]; rw [if_neg hnn, if_pos hge]
        have HF := Lib.hid hfin
        have hin := Lib.hid (hp1 hge)
        have hge' : decide (k ≥ (l.carets : Int) + 1) = true := by simpa using hge
        have hw1 : IntKind.i64.wrap (k - ((l.carets : Int) + 1)) = k - ((l.carets : Int) + 1) := IntWalk.i64_in _ (by omega)
        clear hnn hk hkb hle hp1 hp2 hfin
        rcases hq with ⟨rfl, q, rfl⟩ | ⟨p, rfl⟩
        · go_enter Try.func77, Try.ntmps77
          go_wp2_with fail
          refine (hlc.out _ hl).mono ?_
          rintro e wx ⟨rfl, nl, rfl⟩
          go_wp2_with fail
          go_region_held3 (fun w' => w'.cell? ⟨b, 0, none⟩ = some (Value.pointer none) ∧ w'.cell? ⟨b, 1, none⟩ = some (Value.pointer (some q))) (go_keep)
            (first
            | (go_at_call_of 77 (Value.pointer (some q)); refine (ihr.out _ _ _ ?_ ?_ ?_).mono ?_; exact (hr.drewN nl).drew; exact hlr.2; exact hin.out; rintro e w2 ⟨v2, rfl, hP2, hB2⟩; obtain ⟨A2, rfl⟩ := hP2.ptr; have k20 := pw_cell_below hB2 (cell_drew (cell_drewN h0 nl)); have k21 := pw_cell_below hB2 (cell_drew (cell_drewN h1 nl))))
          go_wp2
          go_ret
          rw [HF.out]
          have hBB := (below_drew (pw_below_drewN (Below.refl w.heap.size w) nl)).trans hB2
          exact ⟨_, rfl, PT.new (hl.below hBB) hP2 (Below.refl _ _), below_alloc hBB _⟩
        · obtain ⟨B, rfl⟩ := hr.ptr
          go_enter Try.func77, Try.ntmps77
          go_wp2_with fail
          refine (hlc.out _ hl).mono ?_
          rintro e wx ⟨rfl, nl, rfl⟩
          go_wp2_with fail
          go_region_held3 (fun w' => w'.cell? ⟨b, 0, none⟩ = some (Value.pointer (some p)) ∧ w'.cell? ⟨b, 1, none⟩ = some (.pointer B)) (go_keep)
            (first
            | (go_at_call_of 77 (Value.pointer B); refine (ihr.out _ _ _ ?_ ?_ ?_).mono ?_; exact (hr.drewN nl).drew; exact hlr.2; exact hin.out; rintro e w2 ⟨v2, rfl, hP2, hB2⟩; obtain ⟨A2, rfl⟩ := hP2.ptr; have k20 := pw_cell_below hB2 (cell_drew (cell_drewN h0 nl)); have k21 := pw_cell_below hB2 (cell_drew (cell_drewN h1 nl))))
          go_wp2
          go_ret
          rw [HF.out]
          have hBB := (below_drew (pw_below_drewN (Below.refl w.heap.size w) nl)).trans hB2
          exact ⟨_, rfl, PT.new (hl.below hBB) hP2 (Below.refl _ _), below_alloc hBB _⟩
      · have hfin : (T.node l r).wo k = .node (l.wo k) r := by simp only [T.wo]; rw [if_neg hnn, if_neg hge]
        have HF := Lib.hid hfin
        have hin := Lib.hid (hp2 hge)
        have hge' : decide (k ≥ (l.carets : Int) + 1) = false := by simpa using hge
        clear hnn hk hkb hle hp1 hp2 hfin
        rcases hq with ⟨rfl, q, rfl⟩ | ⟨p, rfl⟩
        · go_enter Try.func77, Try.ntmps77
          go_wp2_with fail
          refine (hlc.out _ hl).mono ?_
          rintro e wx ⟨rfl, nl, rfl⟩
          go_wp2_with fail
          go_region_held3 (fun w' => w'.cell? ⟨b, 0, none⟩ = some (Value.pointer none) ∧ w'.cell? ⟨b, 1, none⟩ = some (Value.pointer (some q))) (go_keep)
            (first
            | (go_at_call_of 77 (Value.pointer none); refine (ihl.out _ _ _ ?_ ?_ ?_).mono ?_; exact (hl.drewN nl).drew; exact hlr.1; exact hin.out; rintro e w2 ⟨v2, rfl, hP2, hB2⟩; obtain ⟨A2, rfl⟩ := hP2.ptr; have k20 := pw_cell_below hB2 (cell_drew (cell_drewN h0 nl)); have k21 := pw_cell_below hB2 (cell_drew (cell_drewN h1 nl))))
          go_wp2
          go_ret
          rw [HF.out]
          have hBB := (below_drew (pw_below_drewN (Below.refl w.heap.size w) nl)).trans hB2
          exact ⟨_, rfl, PT.new hP2 (hr.below hBB) (Below.refl _ _), below_alloc hBB _⟩
        · obtain ⟨B, rfl⟩ := hr.ptr
          go_enter Try.func77, Try.ntmps77
          go_wp2_with fail
          refine (hlc.out _ hl).mono ?_
          rintro e wx ⟨rfl, nl, rfl⟩
          go_wp2_with fail
          go_region_held3 (fun w' => w'.cell? ⟨b, 0, none⟩ = some (Value.pointer (some p)) ∧ w'.cell? ⟨b, 1, none⟩ = some (.pointer B)) (go_keep)
            (first
            | (go_at_call_of 77 (Value.pointer (some p)); refine (ihl.out _ _ _ ?_ ?_ ?_).mono ?_; exact (hl.drewN nl).drew; exact hlr.1; exact hin.out; rintro e w2 ⟨v2, rfl, hP2, hB2⟩; obtain ⟨A2, rfl⟩ := hP2.ptr; have k20 := pw_cell_below hB2 (cell_drew (cell_drewN h0 nl)); have k21 := pw_cell_below hB2 (cell_drew (cell_drewN h1 nl))))
          go_wp2
          go_ret
          rw [HF.out]
          have hBB := (below_drew (pw_below_drewN (Below.refl w.heap.size w) nl)).trans hB2
          exact ⟨_, rfl, PT.new hP2 (hr.below hBB) (Below.refl _ _), below_alloc hBB _⟩

end Go.Proofs.Ytceabidnjlpkeaa

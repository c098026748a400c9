/- The walk of the neighbours up to the sort, for all trees, and the comparison that sorts them. -/
import Derived.Test.YtceabidnjlpkeaaTreeC
import Derived.WalkLawsBesides
namespace Go.Proofs.Ytceabidnjlpkeaa
open Go.RowKit Go.Proofs.YtceabidnjlpkeaaW.PrintWords
set_option linter.unusedVariables false
set_option linter.unusedSimpArgs false

/-- Pointers to trees, one after the other. -/
def PTs (w : World) : List T → List Value → Prop
  | [], [] => True
  | t :: ts, p :: ps => PT w t p ∧ PTs w ts ps
  | _, _ => False

theorem PTs.length {w : World} : ∀ {ts : List T} {ps : List Value}, PTs w ts ps → ps.length = ts.length
  | [], [], _ => rfl
  | _ :: _, _ :: _, h => by simp [PTs.length h.2]
  | [], _ :: _, h => h.elim
  | _ :: _, [], h => h.elim
theorem PTs.kept {w w1 : World} (hh : ∀ t p, PT w t p → PT w1 t p) : ∀ {ts : List T} {ps : List Value}, PTs w ts ps → PTs w1 ts ps
  | [], [], _ => trivial
  | _ :: _, _ :: _, h => ⟨hh _ _ h.1, h.2.kept hh⟩
  | [], _ :: _, h => h.elim
  | _ :: _, [], h => h.elim
theorem PTs.snoc {w : World} {t : T} {p : Value} (hp : PT w t p) : ∀ {ts : List T} {ps : List Value}, PTs w ts ps → PTs w (ts ++ [t]) (ps ++ [p])
  | [], [], _ => ⟨hp, trivial⟩
  | _ :: _, _ :: _, h => ⟨h.1, PTs.snoc hp h.2⟩
  | [], _ :: _, h => h.elim
  | _ :: _, [], h => h.elim
theorem PTs.get {w : World} : ∀ {ts : List T} {ps : List Value}, PTs w ts ps → ∀ (i : Nat) (h : i < ts.length), ∃ p, ps[i]? = some p ∧ PT w ts[i] p
  | _ :: _, _ :: _, h, 0, _ => ⟨_, rfl, h.1⟩
  | _ :: _, _ :: _, h, i + 1, hi => by
    obtain ⟨p, hp, ht⟩ := PTs.get h.2 i (by simpa using hi)
    exact ⟨p, by simpa using hp, ht⟩
  | [], [], _, i, hi => by simp at hi
  | [], _ :: _, h, _, _ => h.elim
  | _ :: _, [], h, _, _ => h.elim

/-- A row of the call's own of pointers to trees. -/
def NR (w : World) (base : Nat) (v : Value) (ts : List T) : Prop := ∃ ps, w.ownsRow base 47 1 v ts.length ps ∧ PTs w ts ps

theorem PT.grown {w w1 : World} {row : Option Nat} (hg : w.grownBy w1 row) (hr : ∀ k, row = some k → Ty w k 47) {t : T} {p : Value} (h : PT w t p) : PT w1 t p :=
  h.kept fun b c hc => by
    obtain ⟨hlt, _⟩ := Array.getElem?_eq_some_iff.1 hc
    rw [hg.block b hlt (by
      rintro rfl
      obtain ⟨c', fr, h'⟩ := hr b rfl
      rw [hc] at h'
      injection h' with h'
      injection h' with _ h'
      exact absurd h' (by decide))]
    exact hc

theorem NR.ty {w : World} {base n : Nat} {v : Value} {ps : List Value} (h : w.ownsRow base 47 1 v n ps) : ∀ k, v.ownBlock = some k → Ty w k 47 := by
  intro k hk
  obtain ⟨cells, hc⟩ := own_typed h k hk
  exact ⟨cells, _, hc⟩
theorem NR.below {w w1 : World} {base : Nat} {v : Value} {ts : List T} (h : NR w base v ts) (hb : Below w.heap.size w w1) : NR w1 base v ts := by
  obtain ⟨ps, ho, hp⟩ := h
  exact ⟨ps, pw_own_below ho hb, hp.kept fun _ _ h => h.below hb⟩
theorem NR.nil (w : World) (base : Nat) : NR w base (.slice none 0 0) [] := ⟨[], own_nil w base _ _, trivial⟩
theorem NR.lower {w : World} {base base' : Nat} {v : Value} {ts : List T} (h : NR w base v ts) (hb : base' ≤ base) : NR w base' v ts := by
  obtain ⟨ps, ho, hp⟩ := h
  exact ⟨ps, own_weaken ho hb, hp⟩
theorem info_node : (Try.prog.info? 47).map (fun i => (i.zero, i.size, i.bytes)) = some (some (.pointer none), 1, 8) := by kernel_rfl

/-- append(v, p) onto a row of pointers to trees: behind 'at_builtin'. -/
theorem NR.append {ops : Array Oper} {rest : List Oper} {o : Oper} {a : Act} {Q : Exit → Act → World → Prop} {w0 W : World} (base : Nat) (hgd : o.guard = none) (s x : Operand) (t : TypeId)
    (ho : o.op = .call { callee := .builtin .append, args := #[s, x], argTypes := #[t, t] })
    (ht : Try.prog.underlying t = some (.slice 47)) (v : Value) (ts : List T) (tr : T) (y : Value) (hs : a.eval s = v) (hx : a.eval x = .slice (some ⟨W.heap.size, 0, none⟩) 1 1)
    (HO : NR W base v ts) (hy : PT W tr y) (HB : Below base w0 W) (hbase : base ≤ W.heap.size) (hl : ts.length ≤ 1000000000)
    (h : ∀ v1 w1, NR w1 base v1 (ts ++ [tr]) → Below base w0 w1 → (∀ t p, PT W t p → PT w1 t p) → W.grownBy w1 v.ownBlock → (∀ k, v.ownBlock = some k → Ty W k 47) → wpList Try.prog ops Q rest (a.put o.dst v1) w1) :
    wpList Try.prog ops Q (o :: rest) a (W.alloc (.cells #[y] 47)) := by
  obtain ⟨ps, hown, hps⟩ := HO
  obtain ⟨A, rfl⟩ := hy.ptr
  have hl0 := hps.length
  refine print_append base hgd s x t 47 (.pointer none) 8 ho ht info_node rfl (by decide) v ps (.pointer A) hs hx rfl (by rw [hl0]; exact hown) HB hbase (by omega) ?_
  intro v1 w1 hown1 hB1 hg1 _
  have hk : ∀ t p, PT W t p → PT w1 t p := fun t p hp => PT.grown hg1 (NR.ty hown) hp
  refine h v1 w1 ⟨ps ++ [.pointer A], ?_, PTs.snoc (hk _ _ hy) (hps.kept hk)⟩ hB1 hk hg1 (NR.ty hown)
  have e : (ps ++ [Value.pointer A]).length = (ts ++ [tr]).length := by simp [hl0]
  rw [← e]; exact hown1

/-- A row whose blocks are of other types than the row that has been written. -/
theorem R_keepTy {α : Type} {d : Kd α} {e base ty : Nat} {w w1 : World} {v : Value} {xs : List α} {row : Option Nat} (h : d.R e w base (fun _ => True) v xs) (hg : w.grownBy w1 row) (hr : ∀ k, row = some k → Ty w k ty) (ht : ∀ q ∈ e :: d.E, q ≠ ty) : d.R e w1 base (fun _ => True) v xs := by
  refine Kd.R_mono (Kd.R_move (Kd.R_bound h) (fun k hk => ?_)) (fun _ _ => trivial)
  obtain ⟨_, _, hlt, q, hq, cells, hc⟩ := hk
  refine hg.block k hlt ?_
  rintro rfl
  obtain ⟨c', fr, h'⟩ := hr k rfl
  rw [hc] at h'
  injection h' with h'
  injection h' with _ h'
  exact ht q hq h'

theorem T.turns_some {back : Bool} {t : T} {a : List UInt8} (h : a ∈ t.turns back) : ∃ n, t.turn back a = some n := by
  simp only [T.turns, List.mem_filter] at h
  exact Option.isSome_iff_exists.1 h.2

/-- The trees that one rotation, or one back, leads to. -/
def T.nbs (back : Bool) (t : T) : List T := (t.turns back).filterMap fun a => t.turn back a
def T.nb (t : T) : List T := t.nbs false ++ t.nbs true

end Go.Proofs.Ytceabidnjlpkeaa

namespace Go.Proofs.Ytceabidnjlpkeaa
open Go.RowKit Go.Proofs.YtceabidnjlpkeaaW.PrintWords
set_option linter.unusedVariables false
set_option linter.unusedSimpArgs false

/-- What has been collected behind k rounds of the outer loop. -/
def nbPre (t : T) : Nat → List T
  | 0 => []
  | 1 => t.nbs false
  | _ => t.nb

theorem T.turns_le (back : Bool) (t : T) : (t.turns back).length ≤ t.carets := by
  rw [← T.places_length t []]
  exact List.length_filter_le _ _

theorem filterMap_take {α β : Type} (f : α → Option β) (l : List α) (k : Nat) (h : k < l.length) (y : β) (hy : f l[k] = some y) : (l.take (k + 1)).filterMap f = (l.take k).filterMap f ++ [y] := by
  rw [List.take_succ_eq_append_getElem h, List.filterMap_append]
  simp [hy]

theorem T.nbs_le (back : Bool) (t : T) : (t.nbs back).length ≤ t.carets := Nat.le_trans (List.length_filterMap_le _ _) (T.turns_le back t)
theorem T.nb_le (t : T) : t.nb.length ≤ 2 * t.carets := by
  have := T.nbs_le false t; have := T.nbs_le true t
  simp [T.nb]; omega
theorem nbPre_le (t : T) (k : Nat) : (nbPre t k).length ≤ 2 * t.carets := by
  have := T.nbs_le false t; have := T.nb_le t
  unfold nbPre; split
  · simp
  · omega
  · omega

set_option maxHeartbeats 12800000 in
set_option maxRecDepth 1000000 in
theorem nb_walk (t : T) (w : World) (v : Value) (h : PT w t v) (hle : t.carets ≤ 1000000) (R : Ending → World → Prop)
    (hsort : ∀ (w1 : World) (v1 : Value), NR w1 w.heap.size v1 t.nb → Below w.heap.size w w1 →
      Calls Try.prog 73 #[v1, .func (.func 74) #[] #[]] w1 fun e w' => e = .returned (.tuple #[]) ∧ R (.returned v1) w') :
    Calls Try.prog 43 #[v] w R := by
  have HS := Lib.hid hsort
  have HT := Lib.hid (fun back W h => turns_any back t W v h hle)
  have HU := Lib.hid (fun back a W h h2 => turn_any back a t W v h h2)
  have HP := Lib.hid h
  obtain ⟨A, rfl⟩ := h.ptr
  clear h hsort
  go_enter Try.func43, Try.ntmps43
  go_wp2_with fail
  go_loopw [3, 12] (fun v i wr => ∃ k : Nat, k ≤ 2 ∧ i = .int .i64 k ∧ Hid (NR wr (w.heap.size + 1) v (nbPre t k)) ∧ Hid (Below (w.heap.size + 1) (w.alloc (Obj.cells #[Value.bool false, Value.bool true] 4)) wr))
    (fun _ i _ => 2 - (intOf i).toNat)
  case atStart => exact ⟨0, Nat.zero_le _, rfl, NR.nil _ _, Below.refl _ _⟩
  case round =>
    obtain ⟨k, hk, rfl, hNR, hB⟩ := hrel
    have hcell : wr.cell? ⟨w.heap.size, 0, none⟩ = some (.bool false) ∧ wr.cell? ⟨w.heap.size, 1, none⟩ = some (.bool true) := by
      constructor
      · rw [hB.out.cell (by simp)]; simp
      · rw [hB.out.cell (by simp)]; simp
    have hsz0 : w.heap.size + 1 ≤ wr.heap.size := by have := hB.out.size; simpa using this
    obtain ⟨hcell0, hcell1⟩ := hcell
    have hcell := hcell0
    obtain ⟨wo, rfl⟩ : ∃ wo : World, wo = wr := ⟨_, rfl⟩
    match k, hk with
    | 0, _ =>
      go_wp2_with fail
      refine (HT.out false wo (HP.out.below ((below_alloc (Below.refl _ _) _).trans (hB.out.mono (by simp))))).mono ?_
      rintro e w3 ⟨v3, rfl, hR3, hB3⟩
      obtain ⟨A3, c3, rfl, hc3, hC3⟩ := Kd.R_reads hR3
      rw [List.length_map] at *
      obtain ⟨tl, htl⟩ : ∃ tl, tl = t.turns false := ⟨_, rfl⟩
      have htn := T.turns_le false t
      have hts := fun a (ha : a ∈ t.turns false) => T.turns_some ha
      have htsh := fun a (ha : a ∈ t.turns false) => T.places_short t [] a (List.mem_filter.1 ha).1
      have HNB := Lib.hid (show t.nbs false = tl.filterMap fun a => t.turn false a by rw [htl]; rfl)
      have HNL := Lib.hid (T.nb_le t)
      have HR3 := Lib.hid hR3
      rw [← htl] at htn hts htsh HR3
      have HTS := Lib.hid hts
      have HTSH := Lib.hid htsh
      have n1 : tl.length ≤ 1000000 := by omega
      have n1' : (tl.length : Int) ≤ 1000000 := by omega
      rw [← htl]
      clear hts htsh htn hR3 hC3 htl hcell
      have hNR3 := Lib.hid (hNR.out.below hB3)
      have hB13 := Lib.hid (hB.out.trans (hB3.mono hsz0))
      clear hB hNR
      go_wp2_with fail
      go_loopw [3, 20] (fun v i wi => ∃ j : Nat, j ≤ tl.length ∧ i = .int .i64 j ∧ Hid (NR wi (w.heap.size + 1) v (nbPre t 0 ++ (tl.take j).filterMap fun a => t.turn false a)) ∧ Hid (Below (w.heap.size + 1) (w.alloc (Obj.cells #[Value.bool false, Value.bool true] 4)) wi) ∧ Hid (Kd.R Kd.string 9 wi wo.heap.size (fun _ => True) (.slice A3 tl.length c3) (tl.map bs)))
        (fun _ i _ => tl.length - (intOf i).toNat)
      case atStart => exact ⟨0, Nat.zero_le _, rfl, by simpa [Hid] using hNR3.out, hB13.out, HR3.out⟩
      case round =>
        obtain ⟨j, hj, rfl, hNR, hB, hR⟩ := hrel
        have hsz1 : w.heap.size + 1 ≤ wr.heap.size := by have := hB.out.size; simpa using this
        by_cases hlt : j < tl.length
        · have hC := (Kd.R_reads' hR.out).2.2
          obtain ⟨ad, rfl, hcell⟩ := Kd.at_string hC (j : Int) (by omega) (by simp; omega)
          simp only [Int.toNat_natCast] at hcell
          rw [rdOf_get tl j hlt] at hcell
          have hin : tl[j] ∈ tl := List.getElem_mem hlt
          obtain ⟨n, hn⟩ := HTS.out _ hin
          have hsh := HTSH.out _ hin
          have hft := filterMap_take (fun a => t.turn false a) tl j hlt n hn
          obtain ⟨x, hx⟩ : ∃ x, x = tl[j] := ⟨_, rfl⟩
          rw [← hx] at hcell hsh hn
          have HFT := Lib.hid hft
          have HTT := Lib.hid (HU.out false x wr (HP.out.below ((below_alloc (Below.refl _ _) _).trans (hB.out.mono (by simp)))) (by have : x.length ≤ 0 + t.carets := hsh; omega))
          have HN := Lib.hid hn
          have hlen : (nbPre t 0 ++ (tl.take j).filterMap fun a => t.turn false a).length ≤ 1000000000 := by
            have h1 := HNL.out
            have h2 : ((tl.take j).filterMap fun a => t.turn false a).length ≤ j := Nat.le_trans (List.length_filterMap_le _ _) (by simp; omega)
            have h3 : (nbPre t 0).length ≤ 2 * t.carets := nbPre_le t 0
            simp only [List.length_append]
            omega
          clear hC hin hsh hx hft hn
          go_wp2_with fail
          refine HTT.out.mono ?_
          rintro e wc ⟨t', vc, hpc, rfl, hbc, het⟩
          obtain rfl := het n HN.out
          obtain ⟨Ac, rfl⟩ := hpc.ptr
          rw [HN.out]
          go_wp2_with (at_builtin; refine NR.append (w0 := w.alloc (Obj.cells #[Value.bool false, Value.bool true] 4)) (w.heap.size + 1) rfl (.tmp 31) (.tmp 33) 74 rfl Try.underlying74 _ _ n (.pointer Ac) rfl rfl (hNR.out.below hbc) hpc (hB.out.trans (hbc.mono hsz1)) (Nat.le_trans hsz1 hbc.size) hlen ?_; intro v5 w5 hR5 hB5 hk5 hg5 hty5)
          go_roundw
          case rel => exact ⟨j + 1, by omega, by go_num, by rw [HFT.out, ← List.append_assoc]; exact hR5, hB5, R_keepTy (Kd.R_below hR.out hbc) hg5 hty5 (by decide)⟩
          case measure => simp [intOf]; omega
        · have hj2 : j = tl.length := by omega
          have hj3 := Lib.hid hj2
          clear hj2
          go_wp2
          go_roundw
          case rel =>
            refine ⟨1, by omega, by first | rfl | go_num, ?_, hB.out⟩
            have := hNR.out
            rw [hj3.out, List.take_length, ← HNB.out] at this
            first | exact this | simpa [nbPre, T.nb] using this
          case measure => simp [intOf]
    | 1, _ =>
      go_wp2_with fail
      refine (HT.out true wo (HP.out.below ((below_alloc (Below.refl _ _) _).trans (hB.out.mono (by simp))))).mono ?_
      rintro e w3 ⟨v3, rfl, hR3, hB3⟩
      obtain ⟨A3, c3, rfl, hc3, hC3⟩ := Kd.R_reads hR3
      rw [List.length_map] at *
      obtain ⟨tl, htl⟩ : ∃ tl, tl = t.turns true := ⟨_, rfl⟩
      have htn := T.turns_le true t
      have hts := fun a (ha : a ∈ t.turns true) => T.turns_some ha
      have htsh := fun a (ha : a ∈ t.turns true) => T.places_short t [] a (List.mem_filter.1 ha).1
      have HNB := Lib.hid (show t.nbs true = tl.filterMap fun a => t.turn true a by rw [htl]; rfl)
      have HNL := Lib.hid (T.nb_le t)
      have HR3 := Lib.hid hR3
      rw [← htl] at htn hts htsh HR3
      have HTS := Lib.hid hts
      have HTSH := Lib.hid htsh
      have n1 : tl.length ≤ 1000000 := by omega
      have n1' : (tl.length : Int) ≤ 1000000 := by omega
      rw [← htl]
      clear hts htsh htn hR3 hC3 htl hcell
      have hNR3 := Lib.hid (hNR.out.below hB3)
      have hB13 := Lib.hid (hB.out.trans (hB3.mono hsz0))
      clear hB hNR
      go_wp2_with fail
      go_loopw [3, 20] (fun v i wi => ∃ j : Nat, j ≤ tl.length ∧ i = .int .i64 j ∧ Hid (NR wi (w.heap.size + 1) v (nbPre t 1 ++ (tl.take j).filterMap fun a => t.turn true a)) ∧ Hid (Below (w.heap.size + 1) (w.alloc (Obj.cells #[Value.bool false, Value.bool true] 4)) wi) ∧ Hid (Kd.R Kd.string 9 wi wo.heap.size (fun _ => True) (.slice A3 tl.length c3) (tl.map bs)))
        (fun _ i _ => tl.length - (intOf i).toNat)
      case atStart => exact ⟨0, Nat.zero_le _, rfl, by simpa [Hid] using hNR3.out, hB13.out, HR3.out⟩
      case round =>
        obtain ⟨j, hj, rfl, hNR, hB, hR⟩ := hrel
        have hsz1 : w.heap.size + 1 ≤ wr.heap.size := by have := hB.out.size; simpa using this
        by_cases hlt : j < tl.length
        · have hC := (Kd.R_reads' hR.out).2.2
          obtain ⟨ad, rfl, hcell⟩ := Kd.at_string hC (j : Int) (by omega) (by simp; omega)
          simp only [Int.toNat_natCast] at hcell
          rw [rdOf_get tl j hlt] at hcell
          have hin : tl[j] ∈ tl := List.getElem_mem hlt
          obtain ⟨n, hn⟩ := HTS.out _ hin
          have hsh := HTSH.out _ hin
          have hft := filterMap_take (fun a => t.turn true a) tl j hlt n hn
          obtain ⟨x, hx⟩ : ∃ x, x = tl[j] := ⟨_, rfl⟩
          rw [← hx] at hcell hsh hn
          have HFT := Lib.hid hft
          have HTT := Lib.hid (HU.out true x wr (HP.out.below ((below_alloc (Below.refl _ _) _).trans (hB.out.mono (by simp)))) (by have : x.length ≤ 0 + t.carets := hsh; omega))
          have HN := Lib.hid hn
          have hlen : (nbPre t 1 ++ (tl.take j).filterMap fun a => t.turn true a).length ≤ 1000000000 := by
            have h1 := HNL.out
            have h2 : ((tl.take j).filterMap fun a => t.turn true a).length ≤ j := Nat.le_trans (List.length_filterMap_le _ _) (by simp; omega)
            have h3 : (nbPre t 1).length ≤ 2 * t.carets := nbPre_le t 1
            simp only [List.length_append]
            omega
          clear hC hin hsh hx hft hn
          go_wp2_with fail
          refine HTT.out.mono ?_
          rintro e wc ⟨t', vc, hpc, rfl, hbc, het⟩
          obtain rfl := het n HN.out
          obtain ⟨Ac, rfl⟩ := hpc.ptr
          rw [HN.out]
          go_wp2_with (at_builtin; refine NR.append (w0 := w.alloc (Obj.cells #[Value.bool false, Value.bool true] 4)) (w.heap.size + 1) rfl (.tmp 31) (.tmp 33) 74 rfl Try.underlying74 _ _ n (.pointer Ac) rfl rfl (hNR.out.below hbc) hpc (hB.out.trans (hbc.mono hsz1)) (Nat.le_trans hsz1 hbc.size) hlen ?_; intro v5 w5 hR5 hB5 hk5 hg5 hty5)
          go_roundw
          case rel => exact ⟨j + 1, by omega, by go_num, by rw [HFT.out, ← List.append_assoc]; exact hR5, hB5, R_keepTy (Kd.R_below hR.out hbc) hg5 hty5 (by decide)⟩
          case measure => simp [intOf]; omega
        · have hj2 : j = tl.length := by omega
          have hj3 := Lib.hid hj2
          clear hj2
          go_wp2
          go_roundw
          case rel =>
            refine ⟨2, by omega, by first | rfl | go_num, ?_, hB.out⟩
            have := hNR.out
            rw [hj3.out, List.take_length, ← HNB.out] at this
            first | exact this | simpa [nbPre, T.nb] using this
          case measure => simp [intOf]
    | 2, _ =>
      go_wp2_with fail
      refine (HS.out wo _ (hNR.out.lower (by omega)) ((below_alloc (Below.refl _ _) _).trans (hB.out.mono (by simp)))).mono ?_
      rintro e w' ⟨rfl, hr⟩
      go_wp2
      exact hr
    | n + 3, h => omega

end Go.Proofs.Ytceabidnjlpkeaa

namespace Go.Proofs.Ytceabidnjlpkeaa
open Go.RowKit Go.Proofs.YtceabidnjlpkeaaW.PrintWords
set_option linter.unusedVariables false
set_option linter.unusedSimpArgs false

/-- The text of a is less than that of b. -/
def tlt (a b : T) : Bool := Op.bytesLess a.text.toList b.text.toList
/-- What the comparison answers. -/
def tcmp (a b : T) : Int := if tlt a b = true then -1 else 1

set_option maxHeartbeats 3200000 in
set_option maxRecDepth 1000000 in
theorem clos_any (a b : T) (va vb : Value) (w : World) (ha : PT w a va) (hb : PT w b vb) (h1 : a.carets ≤ 1000000) (h2 : b.carets ≤ 1000000) :
    Calls Try.prog 74 #[va, vb] w fun e w' => e = .returned (.int .i64 (tcmp a b)) ∧ ∃ n, w' = w.drewN n := by
  have C1 := fun w h => Lib.hid (text_any a w va h (by omega))
  have C2 := fun w h => Lib.hid (text_any b w vb h (by omega))
  obtain ⟨A, rfl⟩ := ha.ptr
  obtain ⟨B, rfl⟩ := hb.ptr
  by_cases hlt : tlt a b = true
  · have HF := Lib.hid (show tcmp a b = -1 by simp [tcmp, hlt])
    have hlt' : Op.bytesLess a.text.toList b.text.toList = true := hlt
    clear hlt
    go_enter Try.func74, Try.ntmps74
    go_wp2_with fail
    refine (C1 _ ha).out.mono ?_
    rintro e w' ⟨rfl, n1, rfl⟩
    go_wp2_with fail
    refine (C2 _ (hb.drewN _)).out.mono ?_
    rintro e w' ⟨rfl, n2, rfl⟩
    go_wp2
    go_ret
    exact ⟨by rw [HF.out]; rfl, _, rfl⟩
  · have HF := Lib.hid (show tcmp a b = 1 by simp [tcmp, hlt])
    have hlt' : Op.bytesLess a.text.toList b.text.toList = false := by cases h : Op.bytesLess a.text.toList b.text.toList with | true => exact absurd h hlt | false => rfl
    clear hlt
    go_enter Try.func74, Try.ntmps74
    go_wp2_with fail
    refine (C1 _ ha).out.mono ?_
    rintro e w' ⟨rfl, n1, rfl⟩
    go_wp2_with fail
    refine (C2 _ (hb.drewN _)).out.mono ?_
    rintro e w' ⟨rfl, n2, rfl⟩
    go_wp2
    go_ret
    exact ⟨by rw [HF.out]; rfl, _, rfl⟩

end Go.Proofs.Ytceabidnjlpkeaa

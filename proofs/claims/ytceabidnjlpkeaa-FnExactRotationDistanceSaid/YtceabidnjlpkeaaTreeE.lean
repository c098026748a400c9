/- The sort of the neighbours, the numbers of trees, the queue, and the distance by rotations, for all texts. -/
import Derived.Test.YtceabidnjlpkeaaTreeD
import Derived.Test.YtceabidnjlpkeaaShelf
import Derived.Maps.OwnSet
import Derived.Maps.OwnOps
import Derived.Maps.Views
import Derived.Shelf.SlSortCmp.NoneTotal
namespace Go.Proofs.Ytceabidnjlpkeaa
open Go.RowKit Go.Proofs.YtceabidnjlpkeaaW.PrintWords
set_option linter.unusedVariables false
set_option linter.unusedSimpArgs false

theorem bytesLess_irrefl : ∀ a, Op.bytesLess a a = false
  | [] => rfl
  | x :: a => by
    have := bytesLess_irrefl a
    simp [Op.bytesLess, this]
theorem bytesLess_trans : ∀ a b c, Op.bytesLess a b = true → Op.bytesLess b c = true → Op.bytesLess a c = true
  | _, [], _, h, _ => by cases ‹List UInt8› <;> simp [Op.bytesLess] at h
  | a, y :: b, [], _, h => by simp [Op.bytesLess] at h
  | [], y :: b, z :: c, _, _ => by simp [Op.bytesLess]
  | x :: a, y :: b, z :: c, h1, h2 => by
    simp only [Op.bytesLess, Bool.or_eq_true, decide_eq_true_eq, Bool.and_eq_true, beq_iff_eq] at *
    rcases h1 with h1 | ⟨rfl, h1⟩
    · rcases h2 with h2 | ⟨rfl, h2⟩
      · exact .inl (UInt8.lt_trans h1 h2)
      · exact .inl h1
    · rcases h2 with h2 | ⟨rfl, h2⟩
      · exact .inl h2
      · exact .inr ⟨rfl, bytesLess_trans _ _ _ h1 h2⟩
theorem bytesLess_total : ∀ a b, Op.bytesLess a b = false → Op.bytesLess b a = false → a = b
  | [], [], _, _ => rfl
  | [], y :: b, h, _ => by simp [Op.bytesLess] at h
  | x :: a, [], _, h => by simp [Op.bytesLess] at h
  | x :: a, y :: b, h1, h2 => by
    simp only [Op.bytesLess, Bool.or_eq_false_iff, decide_eq_false_iff_not, Bool.and_eq_false_imp, beq_iff_eq] at *
    have e : x = y := UInt8.le_antisymm (UInt8.not_lt.1 h2.1) (UInt8.not_lt.1 h1.1)
    subst e
    rw [bytesLess_total a b (h1.2 rfl) (h2.2 rfl)]
theorem bytesLess_ntrans (a b c : List UInt8) (h1 : Op.bytesLess a b = false) (h2 : Op.bytesLess b c = false) : Op.bytesLess a c = false := by
  cases h : Op.bytesLess a c with
  | false => rfl
  | true =>
    cases h3 : Op.bytesLess b a with
    | true => rw [bytesLess_trans _ _ _ h3 h] at h2; cases h2
    | false =>
      obtain rfl := bytesLess_total _ _ h1 h3
      rw [h] at h2; cases h2

/-- A tree in memory, as an element of a row that is sorted. -/
structure Elt (w : World) where
  t : T
  v : Value
  pt : PT w t v
  le : t.carets ≤ 1000000
instance (w : World) : Inhabited (Elt w) := ⟨⟨.nil, .pointer none, rfl, by simp [T.carets]⟩⟩

theorem tcmp_lt (a b : T) : decide (tcmp a b < 0) = tlt a b := by
  unfold tcmp
  cases tlt a b <;> simp

theorem swo (w : World) : Sort.SWO (ltOf (fun (x y : Elt w) => tcmp x.t y.t)) where
  irrefl x := by simp only [ltOf, tcmp_lt]; exact bytesLess_irrefl _
  trans x y z h1 h2 := by simp only [ltOf, tcmp_lt] at *; exact bytesLess_trans _ _ _ h1 h2
  ntrans x y z h1 h2 := by simp only [ltOf, tcmp_lt] at *; exact bytesLess_ntrans _ _ _ h1 h2

theorem heap_sortWorld {α : Type} [Inhabited α] (enc : α → Value) (w : World) (blk off m : Nat) (dk : Array α) (os : Array Obj) (b : Nat) (hb : b < w.heap.size) (hne : b ≠ blk) :
    (sortWorld enc w blk off m dk os).heap[b]? = w.heap[b]? := by
  have h1 : (Sort.putRow enc (Sort.ahead w m) blk off dk).heap[b]? = w.heap[b]? := by
    simp only [Sort.putRow, Sort.mapBlock, Array.getElem?_modify]
    rw [if_neg (fun e => hne e.symm)]
    rfl
  have h2 : b < (Sort.putRow enc (Sort.ahead w m) blk off dk).heap.size := by
    rw [size_putRow]; exact hb
  show ((Sort.putRow enc (Sort.ahead w m) blk off dk).heap ++ os)[b]? = _
  rw [Array.getElem?_append_left h2, h1]

end Go.Proofs.Ytceabidnjlpkeaa

namespace Go.Proofs.Ytceabidnjlpkeaa
open Go.RowKit Go.Proofs.YtceabidnjlpkeaaW.PrintWords
set_option linter.unusedVariables false
set_option linter.unusedSimpArgs false

theorem T.rot_carets {back : Bool} {t n : T} (h : t.rot back = some n) : n.carets = t.carets := by
  cases t with
  | nil => simp [T.rot] at h
  | node l r =>
    cases back with
    | true =>
      cases r with
      | nil => simp [T.rot] at h
      | node a b => simp [T.rot] at h; subst h; simp [T.carets]; omega
    | false =>
      cases l with
      | nil => simp [T.rot] at h
      | node a b => simp [T.rot] at h; subst h; simp [T.carets]; omega

theorem T.turn_carets {back : Bool} (a : List UInt8) : ∀ {t n : T}, t.turn back a = some n → n.carets = t.carets := by
  induction a with
  | nil => intro t n h; rw [T.turn_nil] at h; exact T.rot_carets h
  | cons c a ih =>
    intro t n h
    cases t with
    | nil => simp [T.turn] at h
    | node l r =>
      simp only [T.turn] at h
      split at h
      · obtain ⟨x, hx, rfl⟩ := Option.map_eq_some_iff.1 h
        have := ih hx
        simp [T.carets]; omega
      · split at h
        · obtain ⟨x, hx, rfl⟩ := Option.map_eq_some_iff.1 h
          have := ih hx
          simp [T.carets]; omega
        · cases h

theorem T.nb_carets {t n : T} (h : n ∈ t.nb) : n.carets = t.carets := by
  simp only [T.nb, T.nbs, List.mem_append, List.mem_filterMap] at h
  rcases h with ⟨a, _, h⟩ | ⟨a, _, h⟩ <;> exact T.turn_carets a h

theorem elts {w : World} : ∀ {ts : List T} {ps : List Value}, PTs w ts ps → (∀ t ∈ ts, t.carets ≤ 1000000) → ∃ d : List (Elt w), d.map (fun x => x.t) = ts ∧ d.map (fun x => x.v) = ps
  | [], [], _, _ => ⟨[], rfl, rfl⟩
  | t :: ts, p :: ps, h, hc => by
    obtain ⟨d, h1, h2⟩ := elts h.2 (fun t ht => hc t (List.mem_cons_of_mem _ ht))
    exact ⟨⟨t, p, h.1, hc t List.mem_cons_self⟩ :: d, by simp [h1], by simp [h2]⟩
  | [], _ :: _, h, _ => h.elim
  | _ :: _, [], h, _ => h.elim

theorem elts_pts {w w1 : World} (hk : ∀ t p, PT w t p → PT w1 t p) : ∀ d : List (Elt w), PTs w1 (d.map (fun x => x.t)) (d.map (fun x => x.v))
  | [] => trivial
  | x :: d => ⟨hk _ _ x.pt, elts_pts hk d⟩

/-- A row of pointers to trees, sorted by their texts. -/
def NbR (w : World) (base : Nat) (ts : List T) (v : Value) (w' : World) : Prop :=
  ∃ ts', NR w' base v ts' ∧ ts'.Perm ts ∧ ts'.Pairwise (fun a b => tlt b a = false)

theorem sort_nodes (w : World) (base : Nat) (v : Value) (ts : List T) (hNR : NR w base v ts) (hc : ∀ t ∈ ts, t.carets ≤ 1000000) (hlen : ts.length ≤ 1000000) (h0 : 0 < ts.length) :
    Calls Try.prog 73 #[v, .func (.func 74) #[] #[]] w fun e w' => e = .returned (.tuple #[]) ∧ NbR w base ts v w' ∧ Below base w w' := by
  obtain ⟨ps, hown, hps⟩ := hNR
  obtain ⟨d, hd1, hd2⟩ := elts hps hc
  have hdl : d.length = ts.length := by rw [← hd1, List.length_map]
  obtain ⟨hpl, hv⟩ := hown
  rcases hv with ⟨rfl, hn⟩ | ⟨g, cap, cur, rfl, hbase, hheap, hcap, hmax, hsz, htake⟩
  · omega
  rw [Nat.mul_one] at hpl hsz htake
  have hgl : g < w.heap.size := (Array.getElem?_eq_some_iff.1 hheap).1
  have hgt : Ty w g 47 := ⟨_, _, hheap⟩
  have hcur : ∀ (j : Nat) (x : Elt w), d[j]? = some x → cur[j]? = some x.v := by
    intro j x hx
    have h1 : ps[j]? = some x.v := by rw [← hd2, List.getElem?_map, hx]; rfl
    rw [← htake, List.getElem?_take] at h1
    split at h1
    · simpa using h1
    · cases h1
  have hH : Sort.Holds (fun x : Elt w => x.v) w g 0 d.toArray := by
    intro j hj
    have hj' : j < d.length := by simpa using hj
    have hx : d[j]? = some d[j] := List.getElem?_eq_getElem hj'
    have := hcur j _ hx
    constructor
    · have e : d.toArray[j]! = d[j] := by simp [hj', getElem!_pos]
      rw [e]
      simp [World.cell?, hheap, this]
    · simp [World.frozen?, hheap]
  have hkeep : ∀ (m : Nat) (os : Array Obj) (dk : Array (Elt w)) (t : T) (p : Value), PT w t p → PT (sortWorld (fun x : Elt w => x.v) w g 0 m dk os) t p := by
    intro m os dk t p hp
    refine hp.kept fun b c hb => ?_
    have hbl := (Array.getElem?_eq_some_iff.1 hb).1
    rw [heap_sortWorld _ _ _ _ _ _ _ b hbl (by
      rintro rfl
      rw [hheap] at hb
      injection hb with hb
      injection hb with _ hb
      exact absurd hb (by decide))]
    exact hb
  have h1 : OneCell (fun x : Elt w => x.v) := by
    intro x
    obtain ⟨A, hA⟩ := x.pt.ptr
    show (x.v).oneCell' = true
    rw [hA]; rfl
  have hcmp : CmpReads Try.prog 74 #[] (fun x : Elt w => x.v) (fun (x y : Elt w) => tcmp x.t y.t) g 0 d.toArray.size w := by
    intro m os dk hs x y
    exact clos_any x.t y.t x.v y.v _ (hkeep m os dk _ _ x.pt) (hkeep m os dk _ _ y.pt) x.le y.le
  have eg : ∀ args w, (callFunc 74 args).run Try.prog w = .ok (.enter 74 args) w := enters_of Try.func74 (by kernel_rfl) rfl
  have hcon := Any.slices_SortFunc Try.sortN (fun x : Elt w => x.v) h1 (fun (x y : Elt w) => tcmp x.t y.t) (swo w) 74 #[] g 0 cap d.toArray w eg hcmp.lays hH hgl (by simp; omega)
  rw [show (d.toArray.size : Nat) = ts.length by simp [hdl]] at hcon
  refine hcon.mono ?_
  rintro e w' ⟨rfl, d', n, os, hperm, hsorted, rfl⟩
  have hsz' : d'.size = ts.length := by rw [hperm.1]; simp [hdl]
  have hgg : (sortWorld (fun x : Elt w => x.v) w g 0 n d' os).heap[g]? = some (Obj.cells (Sort.putCells (fun x : Elt w => x.v) 0 d' cur) 47 (0, 0)) := by
    have h2 : (Sort.putRow (fun x : Elt w => x.v) (Sort.ahead w n) g 0 d').heap[g]? = some (Obj.cells (Sort.putCells (fun x : Elt w => x.v) 0 d' cur) 47 (0, 0)) := by
      simp only [Sort.putRow, Sort.mapBlock, Array.getElem?_modify, if_true]
      show Option.map _ (w.heap[g]?) = _
      rw [hheap]
      rfl
    have h3 : g < (Sort.putRow (fun x : Elt w => x.v) (Sort.ahead w n) g 0 d').heap.size := by
      rw [size_putRow]; exact hgl
    show ((Sort.putRow (fun x : Elt w => x.v) (Sort.ahead w n) g 0 d').heap ++ os)[g]? = _
    rw [Array.getElem?_append_left h3, h2]
  refine ⟨rfl, ⟨d'.toList.map (fun x => x.t), ⟨d'.toList.map (fun x => x.v), ?_, elts_pts (hkeep n os d') _⟩, ?_, ?_⟩, ?_⟩
  · refine ⟨by simp, .inr ⟨g, cap, _, ?_, hbase, hgg, ?_, hmax, ?_, ?_⟩⟩
    · simp [hsz']
    · simpa [hsz'] using hcap
    · simpa [Sort.putCells] using hsz
    · apply List.ext_getElem?
      intro i
      rw [List.getElem?_take]
      by_cases hi : i < d'.size
      · have hic : i < cur.size := by omega
        simp [Sort.putCells, hi, hic, getElem!_pos]
      · simp [hi]
  · have h4 := hperm.2.2
    have e1 : d'.extract 0 ts.length = d' := by rw [← hsz']; simp
    have e2 : d.toArray.extract 0 ts.length = d.toArray := by rw [← hdl]; simp
    rw [e1, e2] at h4
    rw [← hd1]
    exact h4.map _
  · rw [List.pairwise_map, List.pairwise_iff_getElem]
    intro i j hi hj hij
    have h5 := hsorted i j (Nat.zero_le _) hij (by rw [← hsz']; simpa using hj)
    have hi' : i < d'.size := by simpa using hi
    have hj' : j < d'.size := by simpa using hj
    simp only [ltOf, tcmp_lt, getElem!_pos d' i hi', getElem!_pos d' j hj'] at h5
    simpa using h5
  · refine ⟨rfl, rfl, rfl, ?_, ?_⟩
    · show w.heap.size ≤ ((Sort.putRow (fun x : Elt w => x.v) (Sort.ahead w n) g 0 d').heap ++ os).size
      rw [Array.size_append, size_putRow]
      exact Nat.le_add_right _ _
    · intro k hk
      exact heap_sortWorld _ _ _ _ _ _ _ k (by omega) (by omega)

end Go.Proofs.Ytceabidnjlpkeaa

namespace Go.Proofs.Ytceabidnjlpkeaa
open Go.RowKit Go.Proofs.YtceabidnjlpkeaaW.PrintWords Go.Maps
set_option linter.unusedVariables false
set_option linter.unusedSimpArgs false

def hasL (L : List (T × Nat)) (t : T) : Bool := L.any fun p => decide (p.1 = t)
def lookL (L : List (T × Nat)) (t : T) : Nat := ((L.find? fun p => decide (p.1 = t)).map (·.2)).getD 0

theorem hasL_snoc (L : List (T × Nat)) (t u : T) (n : Nat) : hasL (L ++ [(t, n)]) u = (hasL L u || decide (t = u)) := by simp [hasL]
theorem lookL_same {L : List (T × Nat)} {t : T} (h : hasL L t = false) (n : Nat) : lookL (L ++ [(t, n)]) t = n := by
  have h2 : L.find? (fun p => decide (p.1 = t)) = none := by
    rw [List.find?_eq_none]
    intro p hp
    simp only [hasL, List.any_eq_false] at h
    exact h p hp
  simp [lookL, List.find?_append, h2]
theorem lookL_other {L : List (T × Nat)} {t u : T} (h : t ≠ u) (n : Nat) : lookL (L ++ [(t, n)]) u = lookL L u := by
  simp [lookL, List.find?_append, h]

theorem mapKey : Keyed Try.prog 9 := string_keyed Try.underlying9
theorem zeroInt (w : World) : (zeroValue 3).run Try.prog w = .ok (.int .i64 0) w := by kernel_rfl

/-- Block b is a map that holds the numbers of L at the texts of its trees. -/
def SeenR (w : World) (b : Nat) (L : List (T × Nat)) : Prop :=
  ∃ (D : DataW Unit) (k : Nat), w.ownsMap Try.prog 9 (plainElem Try.prog 3) b k D ∧ k ≤ L.length ∧
    ∀ t : T, t.carets ≤ 1000 → Maps.has D (.string t.enc) = hasL L t ∧ D.atKey (.string t.enc) (.lit (.int .i64 0)) = .lit (.int .i64 (lookL L t))

theorem SeenR.kept {w w' : World} {b : Nat} {L : List (T × Nat)} {row : Option Nat} (h : SeenR w b L) (hg : w.grownBy w' row) (hne : some b ≠ row) : SeenR w' b L := by
  obtain ⟨D, k, ho, hk, hr⟩ := h
  exact ⟨D, k, ho.kept hg hne, hk, hr⟩
theorem SeenR.below {w w' : World} {b : Nat} {L : List (T × Nat)} (h : SeenR w b L) (hb : Below w.heap.size w w') : SeenR w' b L := h.kept (grown_of_below hb none) (by simp)
theorem SeenR.lt {w : World} {b : Nat} {L : List (T × Nat)} (h : SeenR w b L) : b < w.heap.size := by
  obtain ⟨D, k, ho, _⟩ := h
  exact ho.lt
theorem SeenR.notTy {w : World} {b ty : Nat} {L : List (T × Nat)} (h : SeenR w b L) : ¬ Ty w b ty := by
  obtain ⟨D, k, ⟨es, clock, hb, _⟩, _⟩ := h
  rintro ⟨c, fr, hc⟩
  rw [hb] at hc
  cases hc
theorem SeenR.made (w : World) : SeenR (w.alloc (.map #[] 0)) w.heap.size [] :=
  ⟨.map [], 0, World.ownsMap_made _ _ _ _, Nat.le_refl _, fun t _ => ⟨rfl, rfl⟩⟩

theorem enc_inj : ∀ {a b : T}, a.enc = b.enc → a = b := by
  have key : ∀ (a b : T) (r s : List UInt8), a.enc ++ r = b.enc ++ s → a = b ∧ r = s := by
    intro a
    induction a with
    | nil =>
      intro b r s h
      cases b with
      | nil => simpa [T.enc] using h
      | node l r => simp [T.enc] at h
    | node l r ihl ihr =>
      intro b x s h
      cases b with
      | nil => simp [T.enc] at h
      | node l2 r2 =>
        simp only [T.enc, List.cons_append, List.append_assoc, List.cons.injEq, true_and] at h
        obtain ⟨rfl, h2⟩ := ihl _ _ _ h
        obtain ⟨rfl, h3⟩ := ihr _ _ _ h2
        simp at h3
        exact ⟨rfl, h3⟩
  intro a b h
  exact (key a b [] [] (by simpa using h)).1

theorem keyText (t : T) (h : t.carets ≤ 1000) : keyOf Try.prog 9 (.string t.text) = some (.string t.enc) :=
  WideMaps.keyOf_string_mk Try.underlying9 (by rw [T.size_text]; unfold maxLen; omega)

section
variable {ops : Array Oper} {rest : List Oper} {o : Oper} {a : Act} {Q : Exit → Act → World → Prop} {w : World} {b : Nat} {L : List (T × Nat)}
theorem SeenR.look (hg : o.guard = none) (m x : Operand) (hop : o.op = Op.lookup 73 m x false) (hm : a.eval m = .map (some b)) (h : SeenR w b L) (t : T) (ht : t.carets ≤ 1000) (hx : a.eval x = .string t.text)
    (hK : wpList Try.prog ops Q rest (a.put o.dst (.int .i64 (lookL L t))) w) : wpList Try.prog ops Q (o :: rest) a w := by
  obtain ⟨D, k, ho, hk, hr⟩ := h
  refine wpList_lookup_own_int w hg m x 73 hop 9 3 .i64 mapKey Try.underlying73 Try.underlying3 (zeroInt w) b k D hm ho _ (.string t.enc) hx (keyText t ht) ?_
  intro c hc _
  rw [(hr t ht).2] at hc
  simp only [DataW.lit.injEq, Lit.int.injEq, true_and] at hc
  rw [← hc]; exact hK
theorem SeenR.lookOk (hg : o.guard = none) (m x : Operand) (hop : o.op = Op.lookup 73 m x true) (hm : a.eval m = .map (some b)) (h : SeenR w b L) (t : T) (ht : t.carets ≤ 1000) (hx : a.eval x = .string t.text)
    (hK : wpList Try.prog ops Q rest (a.put o.dst (.tuple #[.int .i64 (lookL L t), .bool (hasL L t)])) w) : wpList Try.prog ops Q (o :: rest) a w := by
  obtain ⟨D, k, ho, hk, hr⟩ := h
  refine wpList_lookup_own_ok_int w hg m x 73 hop 9 3 .i64 mapKey Try.underlying73 Try.underlying3 (zeroInt w) b k D hm ho _ (.string t.enc) hx (keyText t ht) ?_
  intro c hc _
  rw [(hr t ht).2] at hc
  simp only [DataW.lit.injEq, Lit.int.injEq, true_and] at hc
  rw [← hc, (hr t ht).1]; exact hK
theorem SeenR.put (hg : o.guard = none) (m x v : Operand) (hop : o.op = Op.mapUpdate 73 m x v) (hm : a.eval m = .map (some b)) (h : SeenR w b L) (hL : L.length ≤ 1000000) (t : T) (ht : t.carets ≤ 1000) (hx : a.eval x = .string t.text)
    (hn : hasL L t = false) (n : Nat) (z : Int) (hz : z = n) (hv : a.eval v = .int .i64 z) (hnb : n ≤ 1000000)
    (hK : ∀ w', SeenR w' b (L ++ [(t, n)]) → w.grownBy w' (some b) → wpList Try.prog ops Q rest (a.put o.dst undef) w') : wpList Try.prog ops Q (o :: rest) a w := by
  subst hz
  obtain ⟨D, k, ho, hk, hr⟩ := h
  refine wpList_mapUpdate_own w hg m x v 73 hop 9 3 mapKey Try.underlying73 _ b k D hm ho (by unfold maxLen; omega) _ _ (.string t.enc) hx hv (keyText t ht) (.lit (.int .i64 n)) [] (plainElem_int Try.underlying3 (WalkArith.wf_i64 (by omega))) ?_
  intro w' ho' hg'
  refine hK w' ⟨_, k + 1, ho', by simp; omega, fun u hu => ?_⟩ hg'
  by_cases e : t = u
  · subst e
    rw [has_put_same ho.isMap (show WideAt.IsKeyLit (Lit.string _) from trivial), atKey_put_same ho.isMap (show WideAt.IsKeyLit (Lit.string _) from trivial), hasL_snoc, lookL_same hn]
    simp
  · have e' : (Lit.string u.enc) ≠ Lit.string t.enc := by
      intro h
      injection h with h
      exact e (enc_inj h).symm
    rw [has_put_other e', atKey_put_other e', hasL_snoc, lookL_other e, (hr u hu).1, (hr u hu).2]
    simp [e]
end

theorem SeenR.run_put {w : World} {b : Nat} {L : List (T × Nat)} (h : SeenR w b L) (hL : L.length ≤ 1000000) (t : T) (ht : t.carets ≤ 1000) (hn : hasL L t = false) (n : Nat) (hnb : n ≤ 1000000) :
    ∃ w', (Instr.mapUpdate 73 (.map (some b)) (.string t.text) (.int .i64 n)).run Try.prog w = .ok () w' ∧ SeenR w' b (L ++ [(t, n)]) ∧ w.grownBy w' (some b) := by
  obtain ⟨D, k, ho, hk, hr⟩ := h
  obtain ⟨w', hrun, ho', hg'⟩ := ho.update mapKey Try.underlying73 (by unfold maxLen; omega) (keyText t ht) (plainElem_int Try.underlying3 (WalkArith.wf_i64 (n := (n : Int)) (by omega)))
  refine ⟨w', hrun, ⟨_, k + 1, ho', by simp; omega, fun u hu => ?_⟩, hg'⟩
  by_cases e : t = u
  · subst e
    rw [has_put_same ho.isMap (show WideAt.IsKeyLit (Lit.string _) from trivial), atKey_put_same ho.isMap (show WideAt.IsKeyLit (Lit.string _) from trivial), hasL_snoc, lookL_same hn]
    simp
  · have e' : (Lit.string u.enc) ≠ Lit.string t.enc := by
      intro h
      injection h with h
      exact e (enc_inj h).symm
    rw [has_put_other e', atKey_put_other e', hasL_snoc, lookL_other e, (hr u hu).1, (hr u hu).2]
    simp [e]

end Go.Proofs.Ytceabidnjlpkeaa

namespace Go.Proofs.Ytceabidnjlpkeaa
open Go.RowKit Go.Proofs.YtceabidnjlpkeaaW.PrintWords
set_option linter.unusedVariables false
set_option linter.unusedSimpArgs false

/-- A queue of pointers to trees: a row that may begin inside its block. -/
def NQ (w : World) (base : Nat) (v : Value) (ts : List T) : Prop := ∃ ps, QRow w base 47 1 v ts.length ps ∧ PTs w ts ps

theorem PT.grownNe {w w1 : World} {row : Option Nat} (hg : w.grownBy w1 row) (hr : ∀ k, row = some k → ¬ Ty w k 80) {t : T} {p : Value} (h : PT w t p) : PT w1 t p :=
  h.kept fun b c hc => by
    obtain ⟨hlt, _⟩ := Array.getElem?_eq_some_iff.1 hc
    rw [hg.block b hlt (by
      rintro rfl
      exact hr b rfl ⟨_, _, hc⟩)]
    exact hc

theorem NQ.kept {w w1 : World} {base : Nat} {v : Value} {ts : List T} {row : Option Nat} (h : NQ w base v ts) (hg : w.grownBy w1 row) (hr : ∀ k, row = some k → ¬ Ty w k 80) (hne : ∀ k, v.ownBlock = some k → some k ≠ row) : NQ w1 base v ts := by
  obtain ⟨ps, hq, hp⟩ := h
  exact ⟨ps, q_move hq (fun k hk => hg.block k (q_lt hq k hk) (hne k hk)), hp.kept fun _ _ h => PT.grownNe hg hr h⟩
theorem NQ.below {w w1 : World} {base : Nat} {v : Value} {ts : List T} (h : NQ w base v ts) (hb : Below w.heap.size w w1) : NQ w1 base v ts :=
  h.kept (grown_of_below hb none) (by simp) (by simp)
theorem NQ.ofNR {w : World} {base : Nat} {v : Value} {ts : List T} (h : NR w base v ts) : NQ w base v ts := by
  obtain ⟨ps, ho, hp⟩ := h
  exact ⟨ps, q_of_own ho, hp⟩
theorem NQ.slice {w : World} {base : Nat} {v : Value} {ts : List T} (h : NQ w base v ts) : ∃ A c, v = .slice A ts.length c ∧ ts.length ≤ c := by
  obtain ⟨ps, hq, hp⟩ := h
  exact q_slice hq
theorem NQ.ty {w : World} {base : Nat} {v : Value} {ts : List T} (h : NQ w base v ts) : ∀ k, v.ownBlock = some k → Ty w k 47 ∧ base ≤ k ∧ k < w.heap.size := by
  obtain ⟨ps, hq, hp⟩ := h
  intro k hk
  obtain ⟨hb, cells, hc⟩ := q_typed hq k hk
  exact ⟨⟨cells, _, hc⟩, hb, q_lt hq k hk⟩
theorem Ty.ne {w : World} {k a b : Nat} (h : Ty w k a) (hne : a ≠ b) : ¬ Ty w k b := by
  rintro ⟨c, fr, hc⟩
  obtain ⟨c', fr', hc'⟩ := h
  rw [hc] at hc'
  injection hc' with hc'
  injection hc' with _ hc'
  exact hne hc'.symm
theorem NQ.head {w : World} {base c : Nat} {A : Option Addr} {t : T} {ts : List T} (h : NQ w base (.slice A (t :: ts).length c) (t :: ts)) : ∃ ad p, A = some ad ∧ w.cell? ad = some p ∧ PT w t p := by
  obtain ⟨ps, hq, hp⟩ := h
  cases ps with
  | nil => exact hp.elim
  | cons p ps =>
    obtain ⟨ad, hA, hc⟩ := q_cells hq (by simp)
    exact ⟨ad, p, hA, by simpa [Addr.add] using hc 0 p rfl, hp.1⟩
theorem NQ.tail {w : World} {base c : Nat} {A : Option Addr} {t : T} {ts : List T} (h : NQ w base (.slice A (ts.length + 1) c) (t :: ts)) : NQ w base (.slice (if c = 1 then A else A.map (·.add (1 * 1))) ts.length (c - 1)) ts := by
  obtain ⟨ps, hq, hp⟩ := h
  cases ps with
  | nil => exact hp.elim
  | cons p ps =>
    have h2 := q_drop (k := 1) (show QRow w base 47 1 (.slice A (ts.length + 1) c) (ts.length + 1) (p :: ps) from hq) (by omega)
    exact ⟨ps, by simpa using h2, hp.2⟩

/-- append(v, p) onto a queue: behind 'at_builtin'. -/
theorem NQ.append {ops : Array Oper} {rest : List Oper} {o : Oper} {a : Act} {Q : Exit → Act → World → Prop} {w0 W : World} (base : Nat) (hgd : o.guard = none) (s x : Operand) (t : TypeId)
    (ho : o.op = .call { callee := .builtin .append, args := #[s, x], argTypes := #[t, t] })
    (ht : Try.prog.underlying t = some (.slice 47)) (v : Value) (ts : List T) (tr : T) (y : Value) (hs : a.eval s = v) (hx : a.eval x = .slice (some ⟨W.heap.size, 0, none⟩) 1 1)
    (HO : NQ W base v ts) (hy : PT W tr y) (HB : Below base w0 W) (hbase : base ≤ W.heap.size) (hl : ts.length ≤ 1000000000)
    (h : ∀ v1 w1, NQ w1 base v1 (ts ++ [tr]) → Below base w0 w1 → W.grownBy w1 v.ownBlock → (v1.ownBlock = v.ownBlock ∨ ∃ b, v1.ownBlock = some b ∧ W.heap.size ≤ b) → wpList Try.prog ops Q rest (a.put o.dst v1) w1) :
    wpList Try.prog ops Q (o :: rest) a (W.alloc (.cells #[y] 47)) := by
  obtain ⟨ps, hq, hps⟩ := HO
  obtain ⟨A, rfl⟩ := hy.ptr
  obtain ⟨i0, hi, hzz⟩ := Option.map_eq_some_iff.1 info_node
  simp only [Prod.mk.injEq] at hzz
  obtain ⟨hz0, hz1, hz2⟩ := hzz
  have hq' : QRow (W.alloc (.cells #[.pointer A] 47)) base 47 1 v ts.length ps := q_move hq (fun k hk => Below.heap_alloc _ _ _ (q_lt hq k hk))
  obtain ⟨v1, w1, hr, h1, hg, hat⟩ := q_append (P := Try.prog) (W.alloc (.cells #[.pointer A] 47)) base t o.type 47 i0 (.pointer none) 1 8 ht hi hz0 hz1 hz2 rfl (by decide) v ts.length ps hq'
    ⟨W.heap.size, 0, none⟩ 1 1 [.pointer A] rfl (by simpa using World.news_of_block (cs := #[.pointer A]) (t := 47) (fr := (0, 0)) (heap_alloc_new W (.cells #[.pointer A] 47))) (by simp [Value.oneCell']) (by decide) (by simp only [maxLen]; omega) (by omega) (by simp; omega)
  have hg' : W.grownBy w1 v.ownBlock := World.grownBy.trans (World.grownBy_alloc W _ _) hg
  have hty : ∀ k, v.ownBlock = some k → ¬ Ty W k 80 := by
    intro k hk
    obtain ⟨hb, cells, hc⟩ := q_typed hq k hk
    exact Ty.ne ⟨cells, _, hc⟩ (by decide)
  have hk : ∀ t p, PT W t p → PT w1 t p := fun t p hp => PT.grownNe hg' hty hp
  refine wpList_plain hgd fun K hK => ?_
  unfold Oper.wp execOp
  simp only [ho, resolve, invoke, builtin, Sem.run_bind, Sem.run_pure, Result.andThen_ok, List.map_toArray, List.map_cons, List.map_nil, hs, hx, hr]
  refine hK _ _ (h v1 w1 ⟨ps ++ [.pointer A], by simpa using h1, PTs.snoc (hk _ _ hy) (hps.kept hk)⟩ ((HB.alloc hbase _).grown hg (by simp; omega) (fun k hk => (q_typed hq k hk).1)) hg' ?_)
  rcases hat with hat | ⟨b, hb, hle⟩
  · exact .inl hat
  · exact .inr ⟨b, hb, by simp at hle; omega⟩

theorem NR.other {w w1 : World} {base : Nat} {v : Value} {ts : List T} {row : Option Nat} (h : NR w base v ts) (hg : w.grownBy w1 row) (hr : ∀ k, row = some k → ¬ Ty w k 80) (hne : v.ownBlock = none ∨ v.ownBlock ≠ row) : NR w1 base v ts := by
  obtain ⟨ps, ho, hp⟩ := h
  exact ⟨ps, own_other ho hg hne, hp.kept fun _ _ h => PT.grownNe hg hr h⟩

theorem NR.at {w : World} {base c : Nat} {A : Option Addr} {ts : List T} {n : Nat} (h : NR w base (.slice A n c) ts) (i : Nat) (hi : i < ts.length) : ∃ ad p, A = some ad ∧ w.cell? (ad.add i) = some p ∧ PT w ts[i] p := by
  obtain ⟨ps, ho, hp⟩ := h
  obtain ⟨p, hpi, ht⟩ := hp.get i hi
  rcases ho.2 with ⟨he, h0⟩ | ⟨g, cap, cur, he, _⟩
  · omega
  · injection he with h1 h2 h3
    subst h1
    subst h3
    have := ho.cells (g := g) rfl i p hpi
    exact ⟨_, p, rfl, this, ht⟩
theorem NR.shape {w : World} {base : Nat} {v : Value} {ts : List T} (h : NR w base v ts) : ∃ A c, v = .slice A ts.length c := by
  obtain ⟨ps, ho, hp⟩ := h
  exact own_slice ho
theorem NR.tyk {w : World} {base : Nat} {v : Value} {ts : List T} (h : NR w base v ts) : ∀ k, v.ownBlock = some k → Ty w k 47 ∧ base ≤ k ∧ k < w.heap.size := by
  obtain ⟨ps, ho, hp⟩ := h
  intro k hk
  obtain ⟨cells, hc⟩ := own_typed ho k hk
  exact ⟨⟨cells, _, hc⟩, own_base ho k hk, own_lt ho k hk⟩

/-! ### The search, as a plain function -/
def insT (x : T) : List T → List T
  | [] => [x]
  | y :: l => if tlt y x = true then y :: insT x l else x :: y :: l
/-- The neighbours, sorted by their texts. -/
def T.nbS (t : T) : List T := t.nb.foldl (fun l x => insT x l) []

theorem insT_perm (x : T) : ∀ l, (insT x l).Perm (x :: l)
  | [] => List.Perm.refl _
  | y :: l => by
    simp only [insT]
    split
    · exact ((insT_perm x l).cons y).trans (List.Perm.swap x y l)
    · exact List.Perm.refl _
theorem insT_fold_perm : ∀ (xs l : List T), (xs.foldl (fun l x => insT x l) l).Perm (xs ++ l)
  | [], l => List.Perm.refl _
  | x :: xs, l => by
    refine (insT_fold_perm xs (insT x l)).trans ?_
    refine ((insT_perm x l).append_left xs).trans ?_
    exact List.perm_middle
theorem tlt_ntrans {a b c : T} (h1 : tlt a b = false) (h2 : tlt b c = false) : tlt a c = false := bytesLess_ntrans _ _ _ h1 h2
theorem tlt_asymm {a b : T} (h : tlt a b = true) : tlt b a = false := by
  cases h2 : tlt b a with
  | false => rfl
  | true =>
    have := bytesLess_trans _ _ _ h h2
    rw [bytesLess_irrefl] at this
    cases this
theorem insT_sorted (x : T) : ∀ l : List T, l.Pairwise (fun a b => tlt b a = false) → (insT x l).Pairwise (fun a b => tlt b a = false)
  | [], _ => by simp [insT]
  | y :: l, h => by
    simp only [List.pairwise_cons] at h
    simp only [insT]
    split
    · rename_i hlt
      rw [List.pairwise_cons]
      refine ⟨fun z hz => ?_, insT_sorted x l h.2⟩
      rcases List.mem_cons.1 ((insT_perm x l).mem_iff.1 hz) with rfl | hz
      · exact tlt_asymm hlt
      · exact h.1 z hz
    · rename_i hlt
      have hlt' : tlt y x = false := by simpa using hlt
      rw [List.pairwise_cons, List.pairwise_cons]
      refine ⟨fun z hz => ?_, h⟩
      rcases List.mem_cons.1 hz with rfl | hz
      · exact hlt'
      · exact tlt_ntrans (h.1 z hz) hlt'
theorem insT_fold_sorted : ∀ (xs l : List T), l.Pairwise (fun a b => tlt b a = false) → (xs.foldl (fun l x => insT x l) l).Pairwise (fun a b => tlt b a = false)
  | [], l, h => h
  | x :: xs, l, h => insT_fold_sorted xs _ (insT_sorted x l h)
theorem tlt_total {a b : T} (h1 : tlt a b = false) (h2 : tlt b a = false) : a = b := by
  have h := bytesLess_total _ _ h1 h2
  rw [ByteArray.toList_eq, ByteArray.toList_eq] at h
  exact enc_inj (by simpa [T.text] using h)
theorem sorted_unique : ∀ (l1 l2 : List T), l1.Perm l2 → l1.Pairwise (fun a b => tlt b a = false) → l2.Pairwise (fun a b => tlt b a = false) → l1 = l2
  | [], l2, h, _, _ => by simpa using h.symm.eq_nil
  | a :: l1, [], h, _, _ => by simpa using h.eq_nil
  | a :: l1, b :: l2, h, h1, h2 => by
    simp only [List.pairwise_cons] at h1 h2
    have e : a = b := by
      have ha : a ∈ b :: l2 := h.mem_iff.1 List.mem_cons_self
      have hb : b ∈ a :: l1 := h.mem_iff.2 List.mem_cons_self
      rcases List.mem_cons.1 ha with rfl | ha
      · rfl
      · rcases List.mem_cons.1 hb with rfl | hb
        · rfl
        · exact tlt_total (h2.1 a ha) (h1.1 b hb)
    subst e
    rw [sorted_unique l1 l2 (h.cons_inv) h1.2 h2.2]
theorem nbS_unique {t : T} {ts : List T} (hp : ts.Perm t.nb) (hs : ts.Pairwise (fun a b => tlt b a = false)) : ts = t.nbS :=
  sorted_unique _ _ (hp.trans (by simpa [T.nbS] using (insT_fold_perm t.nb []).symm)) hs (insT_fold_sorted _ _ List.Pairwise.nil)
theorem T.nbS_mem {t n : T} (h : n ∈ t.nbS) : n ∈ t.nb := by
  have := (insT_fold_perm t.nb []).mem_iff.1 h
  simpa using this
theorem T.nbS_length (t : T) : t.nbS.length = t.nb.length := by
  have := (insT_fold_perm t.nb []).length_eq
  simpa [T.nbS] using this

/-- One neighbour is met. -/
def visit (far : Nat) (s : List (T × Nat) × List T) (n : T) : List (T × Nat) × List T := if hasL s.1 n = true then s else (s.1 ++ [(n, far + 1)], s.2 ++ [n])
/-- The search: rounds at most, the numbers so far, the queue. -/
def bfsN : Nat → List (T × Nat) → List T → Option (List (T × Nat))
  | _, L, [] => some L
  | 0, _, _ :: _ => none
  | k + 1, L, x :: q => bfsN k (x.nbS.foldl (visit (lookL L x)) (L, q)).1 (x.nbS.foldl (visit (lookL L x)) (L, q)).2

end Go.Proofs.Ytceabidnjlpkeaa

namespace Go.Proofs.Ytceabidnjlpkeaa
open Go.RowKit Go.Proofs.YtceabidnjlpkeaaW.PrintWords
set_option linter.unusedVariables false
set_option linter.unusedSimpArgs false

/-- The row of trees that a call makes. -/
def NodesR (w : World) (ts : List T) (en : Ending) (w' : World) : Prop :=
  ∃ v0 : Value, en = .returned v0 ∧ NR w' w.heap.size v0 ts ∧ Below w.heap.size w w'

theorem neighbours_any (t : T) (w : World) (v : Value) (h : PT w t v) (hle : t.carets ≤ 100000) :
    Calls Try.prog 43 #[v] w (NodesR w t.nbS) := by
  refine nb_walk t w v h (by omega) (NodesR w t.nbS) fun w1 v1 hNR hB => ?_
  have hlen := T.nb_le t
  by_cases h0 : 0 < t.nb.length
  · refine (sort_nodes w1 w.heap.size v1 t.nb hNR (fun n hn => by rw [T.nb_carets hn]; omega) (by omega) h0).mono ?_
    rintro e w' ⟨rfl, ⟨ts', hNR', hp, hs⟩, hB'⟩
    obtain rfl := nbS_unique hp hs
    exact ⟨rfl, v1, rfl, hNR', hB.trans hB'⟩
  · have he : t.nb = [] := List.eq_nil_of_length_eq_zero (by omega)
    have hS : t.nbS = [] := by rw [T.nbS, he]; rfl
    rw [he] at hNR
    obtain ⟨ps, ho, hp⟩ := hNR
    obtain ⟨A, c, rfl⟩ := own_slice ho
    refine (AnyF.slices_SortFunc_none { Try.sortN with } A c _ w1).mono ?_
    rintro e w' ⟨rfl, rfl⟩
    rw [hS]
    exact ⟨rfl, _, rfl, ⟨ps, ho, hp⟩, hB⟩

end Go.Proofs.Ytceabidnjlpkeaa

namespace Go.Proofs.Ytceabidnjlpkeaa
open Go.RowKit Go.Proofs.YtceabidnjlpkeaaW.PrintWords
set_option linter.unusedVariables false
set_option linter.unusedSimpArgs false

theorem readL_enc (t : T) : ∀ (n : Nat) (rest : List UInt8), t.enc.length < n → readL n (t.enc ++ rest) = some (t, rest) := by
  induction t with
  | nil =>
    intro n rest h
    cases n with
    | zero => omega
    | succ n => simp [T.enc, readL]
  | node l r ihl ihr =>
    intro n rest h
    cases n with
    | zero => omega
    | succ n =>
      simp only [T.enc, List.length_cons, List.length_append, List.length_nil] at h
      have h1 := ihl n (r.enc ++ [41] ++ rest) (by omega)
      have h2 := ihr n ([41] ++ rest) (by omega)
      simp only [List.append_assoc, List.cons_append, List.nil_append] at h1 h2
      simp [T.enc, readL, h1, h2]

theorem parseB_text (t : T) (h : t.carets ≤ 8) : parseB t.text = some t := by
  have hl := t.enc_length
  have h1 := readL_enc t (t.enc.length + 1) [] (by omega)
  rw [List.append_nil] at h1
  have e : t.text.data.toList = t.enc := by simp [T.text]
  show parseL t.text.data.toList = _
  rw [e]
  unfold parseL
  rw [if_neg (by omega), h1]
  simp [h]

theorem pairB_text (a b : T) (ha : a.carets ≤ 8) (hb : b.carets ≤ 8) : pairB a.text b.text = if a.carets = b.carets then some (a, b) else none := by
  simp [pairB, parseB_text a ha, parseB_text b hb]

/-- What is kept by the rounds of the search. -/
def Inv (k0 n kq : Nat) (L : List (T × Nat)) (ts : List T) : Prop :=
  kq ≤ k0 ∧ (∀ t ∈ ts, t.carets = n) ∧ (∀ p ∈ L, p.2 + kq ≤ k0) ∧ ts.length + 10 * kq ≤ 10 * k0 + 1 ∧ L.length + 10 * kq ≤ 10 * k0 + 1

theorem visit_fold (far n : Nat) : ∀ (xs : List T) (s : List (T × Nat) × List T), (∀ t ∈ xs, t.carets = n) →
    (∀ t ∈ (xs.foldl (visit far) s).2, t ∈ s.2 ∨ t.carets = n) ∧ (∀ p ∈ (xs.foldl (visit far) s).1, p ∈ s.1 ∨ p.2 = far + 1) ∧ (xs.foldl (visit far) s).2.length ≤ s.2.length + xs.length ∧ (xs.foldl (visit far) s).1.length ≤ s.1.length + xs.length
  | [], s, _ => ⟨fun _ h => .inl h, fun _ h => .inl h, Nat.le_refl _, Nat.le_refl _⟩
  | x :: xs, s, h => by
    obtain ⟨h1, h2, h3, h4⟩ := visit_fold far n xs (visit far s x) (fun t ht => h t (List.mem_cons_of_mem _ ht))
    have hx := h x List.mem_cons_self
    simp only [List.foldl_cons, List.length_cons]
    unfold visit at h1 h2 h3 h4 ⊢
    split at h1
    · rename_i hh
      simp only [hh, if_true] at h2 h3 h4 ⊢
      exact ⟨h1, h2, by omega, by omega⟩
    · rename_i hh
      simp only [hh, if_false, Bool.false_eq_true] at h2 h3 h4 ⊢
      refine ⟨fun t ht => ?_, fun p hp => ?_, ?_, ?_⟩
      · rcases h1 t ht with h | h
        · rcases List.mem_append.1 h with h | h
          · exact .inl h
          · simp at h; subst h; exact .inr hx
        · exact .inr h
      · rcases h2 p hp with h | h
        · rcases List.mem_append.1 h with h | h
          · exact .inl h
          · simp at h; subst h; exact .inr rfl
        · exact .inr h
      · simp at h3; omega
      · simp at h4; omega

theorem lookL_le {L : List (T × Nat)} {m : Nat} (h : ∀ p ∈ L, p.2 ≤ m) (t : T) : lookL L t ≤ m := by
  unfold lookL
  cases hf : L.find? (fun p => decide (p.1 = t)) with
  | none => simp
  | some p => simpa using h p (List.mem_of_find?_eq_some hf)

theorem Inv.step {k0 n kq : Nat} {L : List (T × Nat)} {x : T} {ts : List T} (h : Inv k0 n (kq + 1) L (x :: ts)) (hn : n ≤ 5) :
    Inv k0 n kq (x.nbS.foldl (visit (lookL L x)) (L, ts)).1 (x.nbS.foldl (visit (lookL L x)) (L, ts)).2 := by
  obtain ⟨h1, h2, h3, h4, h5⟩ := h
  have hx := h2 x List.mem_cons_self
  have hnb : x.nbS.length ≤ 10 := by rw [T.nbS_length]; have := T.nb_le x; omega
  obtain ⟨v1, v2, v3, v4⟩ := visit_fold (lookL L x) n x.nbS (L, ts) (fun t ht => by rw [T.nb_carets (T.nbS_mem ht)]; exact hx)
  have hfar : lookL L x + (kq + 1) ≤ k0 := by
    have := lookL_le (L := L) (m := k0 - (kq + 1)) (fun p hp => by have := h3 p hp; omega) x
    omega
  simp only [List.length_cons] at h4
  refine ⟨by omega, fun t ht => ?_, fun p hp => ?_, by simp at v3; omega, by simp at v4; omega⟩
  · rcases v1 t ht with h | h
    · exact h2 t (List.mem_cons_of_mem _ h)
    · exact h
  · rcases v2 p hp with h | h
    · have := h3 p h; omega
    · omega

theorem dist_queue {wr w6 : World} {base mb : Nat} {v : Value} {ts : List T} {L : List (T × Nat)} (hQ : NQ wr base v ts) (hS : SeenR wr mb L) (n : Nat) (hg : (wr.drewN n).grownBy w6 (some mb)) : NQ w6 base v ts :=
  (hQ.below (pw_below_drewN (Below.refl _ _) n)).kept hg (by
    rintro k h
    injection h with h
    subst h
    exact (hS.below (pw_below_drewN (Below.refl _ _) n)).notTy) (by
    intro k hk he
    injection he with he
    subst he
    exact hS.notTy (hQ.ty k hk).1)
theorem dist_tree {wr w6 : World} {mb : Nat} {t : T} {p : Value} {L : List (T × Nat)} (hp : PT wr t p) (hS : SeenR wr mb L) (n : Nat) (hg : (wr.drewN n).grownBy w6 (some mb)) : PT w6 t p :=
  PT.grownNe hg (by
    rintro k h
    injection h with h
    subst h
    exact (hS.below (pw_below_drewN (Below.refl _ _) n)).notTy) (hp.drewN n)
theorem dist_below {w wr w6 : World} {mb : Nat} {L : List (T × Nat)} (hB : Below w.heap.size w wr) (hS : SeenR wr mb L) (n : Nat) (hg : (wr.drewN n).grownBy w6 (some mb)) (hmb : w.heap.size ≤ mb) : Below w.heap.size w w6 :=
  (pw_below_drewN hB n).grown hg hB.size (by rintro k h; injection h with h; subst h; exact hmb)
theorem dist_nodes {wr w6 w7 : World} {base base' mb : Nat} {v v' : Value} {ts ts' : List T} {L : List (T × Nat)} (hN : NR wr base v ts) (hS : SeenR wr mb L) (n : Nat) (hg : (wr.drewN n).grownBy w6 (some mb)) (hg7 : w6.grownBy w7 v'.ownBlock) (hQ : NQ wr base' v' ts')
    (hD : ∀ k, v'.ownBlock = some k → some k ≠ v.ownBlock) : NR w7 base v ts := by
  have h6 : NR w6 base v ts := (hN.below (pw_below_drewN (Below.refl _ _) n)).other hg (by
    rintro k h
    injection h with h
    subst h
    exact (hS.below (pw_below_drewN (Below.refl _ _) n)).notTy) (by
    right
    intro h
    exact hS.notTy (hN.tyk mb h).1)
  have hQ6 := dist_queue hQ hS n hg
  refine h6.other hg7 (fun k hk => Ty.ne (hQ6.ty k hk).1 (by decide)) ?_
  cases h : v'.ownBlock with
  | none =>
    cases h2 : v.ownBlock with
    | none => exact .inl rfl
    | some k => exact .inr (by simp)
  | some k => exact .inr (fun e => hD k h e.symm)

set_option maxHeartbeats 25600000 in
set_option maxRecDepth 1000000 in
theorem rotdist_ok (a b : T) (w : World) (ha : a.carets ≤ 5) (hab : a.carets = b.carets) (k0 : Nat) (hk0 : k0 ≤ 10000) (res : List (T × Nat)) (hres : bfsN k0 [(a, 0)] [a] = some res) :
    Calls Try.prog 14 #[.string a.text, .string b.text] w fun e w' => e = .returned (.tuple #[.int .i64 (lookL res b), .bool (hasL res b)]) ∧ Below w.heap.size w w' := by
  have C1 := fun w => Lib.hid (pairOf_any a.text b.text w (by rw [T.size_text]; omega) (by rw [T.size_text]; omega))
  rw [pairB_text a b (by omega) (by omega), if_pos hab] at C1
  have HAB := Lib.hid hab
  have hS1 : hasL [] a = false := rfl
  have HRES := Lib.hid hres
  clear hab hres
  have h5 : (a.carets : Int) ≤ 5 := by omega
  have h50 : 0 ≤ (a.carets : Int) := by omega
  have h51 : decide ((5 : Int) < (a.carets : Int)) = false := by simpa using h5
  have hmm := @run_makeMap Try.prog
  have C2 := fun w v h => Lib.hid (carets_any a w v h (by omega))
  go_enter Try.func14, Try.ntmps14
  go_wp2_with fail
  refine (C1 _).out.mono ?_
  rintro e w1 ⟨hb1, v, ⟨va, vb, rfl, hpa, hpb⟩, rfl⟩
  obtain ⟨A, rfl⟩ := hpa.ptr
  obtain ⟨B, rfl⟩ := hpb.ptr
  go_wp2_with fail
  refine (C2 _ _ (hpa.alloc _)).out.mono ?_
  rintro e w' ⟨rfl, n, rfl⟩
  go_wp2_with fail
  have hS0 : SeenR (((w1.alloc (Obj.cells #[Value.pointer A, Value.pointer B] 54)).drewN n).alloc (Obj.map #[] 0)) (w1.heap.size + 1) [] := by
    have := SeenR.made ((w1.alloc (Obj.cells #[Value.pointer A, Value.pointer B] 54)).drewN n)
    simpa using this
  obtain ⟨w3, hrun, hS, hg⟩ := SeenR.run_put hS0 (by simp) a (by omega) hS1 0 (by omega)
  rw [show (((0 : Nat) : Int)) = 0 from rfl] at hrun
  have hb3 : Below (w1.heap.size + 1) (w1.alloc (Obj.cells #[Value.pointer A, Value.pointer B] 54)) w3 := by
    have h := World.grownBy.trans (World.grownBy_alloc ((w1.alloc (Obj.cells #[Value.pointer A, Value.pointer B] 54)).drewN n) (Obj.map #[] 0) (some (w1.heap.size + 1))) hg
    exact ⟨h.os, h.tape, h.output, h.size, fun k hk => h.block k (by show k < (w1.alloc _).heap.size; simpa using hk) (by simp; omega)⟩
  have hc0 : w3.cell? ⟨w1.heap.size, 0, none⟩ = some (.pointer A) := by
    rw [hb3.cell (by simp)]
    simp
  have HPA := Lib.hid (show PT w3 a (.pointer A) from (hpa.alloc _).below (by simpa using hb3))
  have HB3 := Lib.hid ((hb1.trans ((below_alloc (Below.refl w1.heap.size w1) _).mono hb1.size)).trans (hb3.mono (by have := hb1.size; omega)))
  have HS := Lib.hid hS
  have HWB := Lib.hid (show w.heap.size ≤ w1.heap.size from hb1.size)
  clear hpa hpb hb3 hg hS0 hS hb1
  rw [hrun]
  clear hrun
  go_simp
  go_wp2_with fail
  have HQ0 := Lib.hid (show NQ (w3.alloc (Obj.cells #[Value.pointer A] 47)) w.heap.size (.slice (some ⟨w3.heap.size, 0, none⟩) 1 1) [a] from by
    refine NQ.ofNR ⟨[.pointer A], ?_, HPA.out.alloc _, trivial⟩
    have h := World.ownsRow_lit (base := w.heap.size) (e := 47) (size := 1) w3 #[Value.pointer A] 1 HB3.out.size (by simp [maxLen]) (by simp)
    simpa using h)
  have HI0 := Lib.hid (show Inv k0 a.carets k0 [(a, 0)] [a] from ⟨Nat.le_refl _, by simp, by simp, by simp; omega, by simp; omega⟩)
  go_loopg [9] k0 (fun kq v9 wr => ∃ (L : List (T × Nat)) (ts : List T), Hid (NQ wr w.heap.size v9 ts) ∧ Hid (SeenR wr (w1.heap.size + 1) L) ∧ Hid (bfsN kq L ts = some res ∧ Inv k0 a.carets kq L ts) ∧ Hid (Below w.heap.size w wr))
  case atStart => exact ⟨[(a, 0)], [a], HQ0.out, HS.out.below (below_alloc (Below.refl _ _) _), ⟨HRES.out, HI0.out⟩, below_alloc HB3.out _⟩
  case round =>
    clear HQ0 HI0 HS HPA HRES
    obtain ⟨L, ts, hQ, hS, hI, hB⟩ := hrel
    obtain ⟨Aq, cq, rfl, hcq⟩ := hQ.out.slice
    cases ts with
    | nil =>
      have hL : L = res := by
        have := hI.out.1
        cases gk <;> simpa [bfsN] using this
      subst hL
      have hcq' := Lib.hid hcq
      clear hcq
      simp only [List.length_nil] at *
      go_wp2_with (at_lookup; refine SeenR.lookOk rfl (.tmp 79) (.tmp 80) rfl rfl hS.out b (by have := HAB.out; omega) rfl ?_)
      go_ret2
      exact ⟨rfl, hB.out⟩
    | cons x q =>
      cases gk with
      | zero => have := hI.out.1; simp [bfsN] at this
      | succ k =>
        obtain ⟨ad, p, hAq, hcell, hpx⟩ := hQ.out.head
        obtain ⟨Ax, rfl⟩ := hpx.ptr
        have hx5 : x.carets ≤ 5 := by have := hI.out.2.2.1 x List.mem_cons_self; omega
        have hI2 := Lib.hid (hI.out.2.step ha)
        have hB2 := Lib.hid (show bfsN k (x.nbS.foldl (visit (lookL L x)) (L, q)).1 (x.nbS.foldl (visit (lookL L x)) (L, q)).2 = some res from hI.out.1)
        have hfar : lookL L x ≤ 10000 := Nat.le_trans (lookL_le (L := L) (m := k0) (fun p hp => by have := hI.out.2.2.2.1 p hp; omega) x) hk0
        have hnb : x.nbS.length ≤ 10 := by rw [T.nbS_length]; have := T.nb_le x; omega
        have hql : q.length + 1 ≤ 200000 := by have := hI.out.2.2.2.2.1; simp at this; omega
        have hLl : L.length ≤ 200000 := by have := hI.out.2.2.2.2.2; omega
        have HX := Lib.hid hpx
        have CT := fun (y : T) (W : World) (v : Value) (h : PT W y v) (hy : y.carets ≤ 5) => Lib.hid (text_any y W v h (by omega))
        obtain ⟨wo, rfl⟩ : ∃ wo : World, wo = wr := ⟨_, rfl⟩
        have hlen0 : (0 : Int) < ((q.length : Int) + 1) := by omega
        simp only [List.length_cons] at *
        subst hAq
        clear hpx
        go_wp2_with (first
          | (go_at_call 42; refine (CT x _ _ HX.out hx5).out.mono ?_; rintro e w' ⟨rfl, n1, rfl⟩)
          | (at_lookup; refine SeenR.look rfl (.tmp 44) (.tmp 48) rfl rfl (hS.out.below (pw_below_drewN (Below.refl _ _) _)) x (by omega) rfl ?_))
        refine (neighbours_any x _ _ (HX.out.drewN _) (by omega)).mono ?_
        rintro e w5 ⟨v5, rfl, hN5, hB5⟩
        obtain ⟨A5, c5, rfl⟩ := hN5.shape
        have hQ5 := Lib.hid ((hQ.out.below (pw_below_drewN (Below.refl _ _) n1)).below hB5)
        have hS5 := Lib.hid ((hS.out.below (pw_below_drewN (Below.refl _ _) n1)).below hB5)
        have hW5 := Lib.hid ((pw_below_drewN hB.out n1).trans (hB5.mono hB.out.size))
        have hN5' := Lib.hid hN5
        have hD5 := Lib.hid (show ∀ k, (Value.slice (some ad) (q.length + 1) cq).ownBlock = some k → some k ≠ (Value.slice A5 x.nbS.length c5).ownBlock from by
          intro k hk he
          have h1 := (hQ.out.ty k hk).2.2
          have h2 := (hN5.tyk k he.symm).2.1
          have h3 : (wo.drewN n1).heap.size = wo.heap.size := rfl
          omega)
        have HNC := Lib.hid (show ∀ t ∈ x.nbS, t.carets ≤ 5 from fun t ht => by rw [T.nb_carets (T.nbS_mem ht)]; exact hx5)
        clear hN5 hB5 hQ hS hB hcell HX hI
        have hnbi : (x.nbS.length : Int) ≤ 10 := by omega
        have hnb0 : (0 : Int) ≤ (x.nbS.length : Int) := by omega
        obtain ⟨far, hfe⟩ : ∃ far, far = lookL L x := ⟨_, rfl⟩
        rw [← hfe] at hI2 hB2 hfar
        rw [← hfe]
        clear hfe
        have hfar0 : (0 : Int) ≤ (far : Int) := by omega
        have hfar1 : (far : Int) ≤ 10000 := by omega
        go_wp2_with fail
        go_loopw [9, 55] (fun v i wi => ∃ (j : Nat) (Lj : List (T × Nat)) (qj : List T), j ≤ x.nbS.length ∧ i = .int .i64 j ∧ Hid ((Lj, qj) = (x.nbS.take j).foldl (visit far) (L, q)) ∧ Hid (Lj.length ≤ L.length + j ∧ qj.length ≤ q.length + j) ∧ Hid (NQ wi w.heap.size v (x :: qj)) ∧ Hid (SeenR wi (w1.heap.size + 1) Lj) ∧ Hid (Below w.heap.size w wi) ∧ Hid (NR wi (wo.drewN n1).heap.size (.slice A5 x.nbS.length c5) x.nbS) ∧ Hid (∀ k, v.ownBlock = some k → some k ≠ (Value.slice A5 x.nbS.length c5).ownBlock))
          (fun _ i _ => x.nbS.length - (intOf i).toNat)
        case atStart => exact ⟨0, L, q, Nat.zero_le _, rfl, rfl, ⟨Nat.le_refl _, Nat.le_refl _⟩, hQ5.out, hS5.out, hW5.out, hN5'.out, hD5.out⟩
        case round =>
          clear hQ5 hS5 hW5 hN5' hD5
          obtain ⟨j, Lj, qj, hj, rfl, hfold, hlens, hQ, hS, hB, hN, hD⟩ := hrel
          by_cases hlt : j < x.nbS.length
          · obtain ⟨ad5, py, rfl, hcy, hpy⟩ := hN.out.at j hlt
            obtain ⟨Ay, rfl⟩ := hpy.ptr
            have hy5 := HNC.out _ (List.getElem_mem hlt)
            have htk : (x.nbS.take (j + 1)).foldl (visit far) (L, q) = visit far (Lj, qj) x.nbS[j] := by
              rw [List.take_succ_eq_append_getElem hlt, List.foldl_append, ← hfold.out]; rfl
            obtain ⟨y, hy⟩ : ∃ y, y = x.nbS[j] := ⟨_, rfl⟩
            rw [← hy] at htk hpy hy5
            have HTK := Lib.hid htk
            have HY := Lib.hid hpy
            clear htk hpy hy
            by_cases hh : hasL Lj y = true
            · have hv : visit far (Lj, qj) y = (Lj, qj) := by simp [visit, hh]
              have HV := Lib.hid hv
              clear hv
              go_wp2_with (first
                | (go_at_call 42; refine (CT y _ _ HY.out hy5).out.mono ?_; rintro e w' ⟨rfl, n2, rfl⟩)
                | (at_lookup; refine SeenR.lookOk rfl (.tmp 62) (.tmp 63) rfl rfl (hS.out.below (pw_below_drewN (Below.refl _ _) _)) y (by omega) rfl ?_))
              go_roundw
              case rel =>
                refine ⟨j + 1, Lj, qj, by omega, by go_num, by rw [HTK.out, HV.out]; rfl, ⟨by have := hlens.out.1; omega, by have := hlens.out.2; omega⟩, ?_⟩
                exact ⟨hQ.out.below (pw_below_drewN (Below.refl _ _) _), hS.out.below (pw_below_drewN (Below.refl _ _) _), pw_below_drewN hB.out _, hN.out.below (pw_below_drewN (Below.refl _ _) _), hD.out⟩
              case measure => simp [intOf]; omega
            · have hh' : hasL Lj y = false := by simpa using hh
              have hv : visit far (Lj, qj) y = (Lj ++ [(y, far + 1)], qj ++ [y]) := by simp [visit, hh']
              have HV := Lib.hid hv
              have HH := Lib.hid hh'
              clear hv hh
              go_wp2_with (first
                | (go_at_call 42; refine (CT y _ _ HY.out hy5).out.mono ?_; rintro e w' ⟨rfl, n2, rfl⟩)
                | (at_lookup; refine SeenR.lookOk rfl (.tmp 62) (.tmp 63) rfl rfl (hS.out.below (pw_below_drewN (Below.refl _ _) _)) y (by omega) rfl ?_)
                | (at_mapUpdate; refine SeenR.put rfl (.tmp 69) (.tmp 70) (.tmp 72) rfl rfl (hS.out.below (pw_below_drewN (Below.refl _ _) n2)) (by have := hlens.out.1; omega) y (by omega) rfl HH.out (far + 1) _ (by push_cast; rfl) rfl (by omega) ?_; intro w6 hS6 hg6)
                | (at_builtin; refine NQ.append (w0 := w) w.heap.size rfl (.tmp 73) (.tmp 75) 74 rfl Try.underlying74 u9 (x :: qj) y (.pointer Ay) rfl rfl (dist_queue hQ.out hS.out n2 hg6) (dist_tree HY.out hS.out n2 hg6) (dist_below hB.out hS.out n2 hg6 (by have := hB.out.size; have := HWB.out; omega)) (Nat.le_trans hB.out.size hg6.size) (by have := hlens.out.2; simp only [List.length_cons]; omega) ?_; intro v7 w7 hQ7 hB7 hg7 hat7))
              go_roundw
              case rel =>
                refine ⟨j + 1, Lj ++ [(y, far + 1)], qj ++ [y], by omega, by go_num, by rw [HTK.out, HV.out]; rfl, ⟨by have := hlens.out.1; simp; omega, by have := hlens.out.2; simp; omega⟩, hQ7, ?_, hB7, ?_, ?_⟩
                · exact hS6.kept hg7 (fun e => hS.out.notTy (hQ.out.ty _ e.symm).1)
                · exact dist_nodes hN.out hS.out n2 hg6 hg7 hQ.out hD.out
                · intro k hk he
                  rcases hat7 with h | ⟨b', h1, h2⟩
                  · exact hD.out k (by rw [← h]; exact hk) he
                  · rw [hk] at h1
                    injection h1 with h1
                    subst h1
                    have := (hN.out.tyk k he.symm).2.2
                    have := hg6.size
                    have h3 : (wr.drewN n2).heap.size = wr.heap.size := rfl
                    omega
              case measure => simp [intOf]; omega
          · have hj2 : j = x.nbS.length := by omega
            have hj3 := Lib.hid hj2
            clear hj2
            obtain ⟨A8, c8, rfl, hc8⟩ := hQ.out.slice
            obtain ⟨i0, hi0, hzz⟩ := Option.map_eq_some_iff.1 info_node
            simp only [Prod.mk.injEq] at hzz
            have hcut := cut_from (P := Try.prog) 74 47 .i64 Try.underlying74 hi0 1 hzz.2.1 A8 (qj.length + 1) c8 1 (by omega) (by simp; omega)
            have ht := NQ.tail (show NQ wr w.heap.size (.slice A8 (qj.length + 1) c8) (x :: qj) from hQ.out)
            simp only [show (1 : Int).toNat = 1 from rfl] at hcut
            obtain ⟨A9, hA9⟩ : ∃ A9, A9 = (if c8 = 1 then A8 else A8.map (·.add (1 * 1))) := ⟨_, rfl⟩
            rw [← hA9] at hcut ht
            simp only [Nat.add_sub_cancel] at hcut
            have HT := Lib.hid ht
            clear hA9 hzz hi0 ht hc8
            simp only [List.length_cons] at *
            go_wp2
            go_roundg k
            case measure => omega
            case rel =>
              have e1 : (Lj, qj) = x.nbS.foldl (visit far) (L, q) := by rw [hfold.out, hj3.out, List.take_length]
              refine ⟨Lj, qj, HT.out, hS.out, ?_, hB.out⟩
              have h1 := hB2.out
              have h2 := hI2.out
              rw [← e1] at h1 h2
              exact ⟨h1, h2⟩

end Go.Proofs.Ytceabidnjlpkeaa

namespace Go.Proofs.Ytceabidnjlpkeaa
open Go.RowKit Go.Proofs.YtceabidnjlpkeaaW.PrintWords
set_option linter.unusedVariables false
set_option linter.unusedSimpArgs false

theorem parseB_some {s : ByteArray} {t : T} (h : parseB s = some t) : s = t.text := by
  unfold parseB parseL at h
  split at h
  · cases h
  · split at h
    · rename_i t' hr
      split at h
      · have := readL_size _ _ _ _ hr
        injection h with h
        subst h
        apply ByteArray.ext
        apply Array.ext'
        simpa [T.text] using this
      · cases h
    · cases h

theorem pairB_some {s t : ByteArray} {p : T × T} (h : pairB s t = some p) : s = p.1.text ∧ t = p.2.text ∧ p.1.carets = p.2.carets := by
  unfold pairB at h
  split at h
  · rename_i a b ha hb
    split at h
    · rename_i hc
      injection h with h
      subst h
      exact ⟨parseB_some ha, parseB_some hb, hc⟩
    · cases h
  · cases h

set_option maxHeartbeats 25600000 in
set_option maxRecDepth 1000000 in
theorem rotdist_bad (s t : ByteArray) (w : World) (hs : s.size ≤ 4611686018427387904) (ht : t.size ≤ 4611686018427387904) (h : pairB s t = none) :
    Calls Try.prog 14 #[.string s, .string t] w fun e w' => e = .returned (.tuple #[.int .i64 0, .bool false]) ∧ Below w.heap.size w w' := by
  have C1 := fun w => Lib.hid (pairOf_any s t w hs ht)
  rw [h] at C1
  go_enter Try.func14, Try.ntmps14
  go_wp2_with fail
  refine (C1 _).out.mono ?_
  rintro e w1 ⟨hb1, p, v, ⟨va, vb, rfl, hpa, hpb⟩, rfl⟩
  obtain ⟨A, rfl⟩ := hpa.ptr
  obtain ⟨B, rfl⟩ := hpb.ptr
  go_wp2_with fail
  go_ret2
  exact ⟨rfl, by first | exact hb1 | exact below_alloc hb1 _⟩

set_option maxHeartbeats 25600000 in
set_option maxRecDepth 1000000 in
theorem rotdist_big (a b : T) (w : World) (ha : 5 < a.carets) (ha8 : a.carets ≤ 8) (hab : a.carets = b.carets) :
    Calls Try.prog 14 #[.string a.text, .string b.text] w fun e w' => e = .returned (.tuple #[.int .i64 0, .bool false]) ∧ Below w.heap.size w w' := by
  have C1 := fun w => Lib.hid (pairOf_any a.text b.text w (by rw [T.size_text]; omega) (by rw [T.size_text]; omega))
  rw [pairB_text a b (by omega) (by omega), if_pos hab] at C1
  have h5 : decide ((5 : Int) < (a.carets : Int)) = true := by simp; omega
  have C2 := fun w v h => Lib.hid (carets_any a w v h (by omega))
  go_enter Try.func14, Try.ntmps14
  go_wp2_with fail
  refine (C1 _).out.mono ?_
  rintro e w1 ⟨hb1, v, ⟨va, vb, rfl, hpa, hpb⟩, rfl⟩
  obtain ⟨A, rfl⟩ := hpa.ptr
  obtain ⟨B, rfl⟩ := hpb.ptr
  go_wp2_with fail
  refine (C2 _ _ (hpa.alloc _)).out.mono ?_
  rintro e w' ⟨rfl, n, rfl⟩
  go_wp2_with fail
  go_ret2
  exact ⟨rfl, pw_below_drewN (below_alloc hb1 _) _⟩

end Go.Proofs.Ytceabidnjlpkeaa

namespace Go.Proofs.Ytceabidnjlpkeaa
open Go.RowKit Go.Proofs.YtceabidnjlpkeaaW.PrintWords
set_option linter.unusedVariables false
set_option linter.unusedSimpArgs false

theorem nodup_sub {α : Type} [BEq α] [LawfulBEq α] : ∀ (l m : List α), l.Nodup → (∀ x ∈ l, x ∈ m) → l.length ≤ m.length
  | [], m, _, _ => Nat.zero_le _
  | x :: l, m, hn, hs => by
    have hn' := List.nodup_cons.1 hn
    have hx := hs x List.mem_cons_self
    have := nodup_sub l (m.erase x) hn'.2 (fun y hy => (List.mem_erase_of_ne (show y ≠ x from fun e => hn'.1 (by rw [← e]; exact hy))).2 (hs y (List.mem_cons_of_mem _ hy)))
    rw [List.length_erase_of_mem hx] at this
    have h0 : 0 < m.length := List.length_pos_of_mem hx
    simp only [List.length_cons]
    omega

/-- All trees with some carets. -/
def allT : Nat → Nat → List T
  | _, 0 => [.nil]
  | 0, _ + 1 => []
  | f + 1, n + 1 => (List.range (n + 1)).flatMap fun i => (allT f i).flatMap fun l => (allT f (n - i)).map (T.node l)

theorem mem_allT : ∀ (f : Nat) (t : T), t.carets ≤ f → t ∈ allT f t.carets
  | 0, .nil, _ => by simp [T.carets, allT]
  | f + 1, .nil, _ => by simp [T.carets, allT]
  | 0, .node l r, h => by simp [T.carets] at h
  | f + 1, .node l r, h => by
    have hc : (T.node l r).carets = (l.carets + r.carets) + 1 := by simp [T.carets]; try omega
    rw [hc, allT]
    simp only [List.mem_flatMap, List.mem_range, List.mem_map]
    refine ⟨l.carets, by omega, l, mem_allT f l (by omega), r, ?_, rfl⟩
    rw [show l.carets + r.carets - l.carets = r.carets by omega]
    exact mem_allT f r (by omega)

theorem allT_le : ∀ n, n ≤ 5 → (allT 5 n).length ≤ 42
  | 0, _ => by decide +kernel
  | 1, _ => by decide +kernel
  | 2, _ => by decide +kernel
  | 3, _ => by decide +kernel
  | 4, _ => by decide +kernel
  | 5, _ => by decide +kernel
  | n + 6, h => by omega

theorem trees_le {n : Nat} (hn : n ≤ 5) (l : List T) (hd : l.Nodup) (hc : ∀ t ∈ l, t.carets = n) : l.length ≤ 42 :=
  Nat.le_trans (nodup_sub l (allT 5 n) hd (fun t ht => by have h := hc t ht; subst h; exact mem_allT 5 t hn)) (allT_le n hn)

/-- Numbers for some trees, one for each. -/
def LN (n : Nat) (L : List (T × Nat)) : Prop := (L.map (·.1)).Nodup ∧ ∀ p ∈ L, p.1.carets = n

theorem LN.le {n : Nat} {L : List (T × Nat)} (h : LN n L) (hn : n ≤ 5) : L.length ≤ 42 := by
  have := trees_le hn (L.map (·.1)) h.1 (fun t ht => by obtain ⟨p, hp, rfl⟩ := List.mem_map.1 ht; exact h.2 p hp)
  simpa using this

theorem hasL_mem {L : List (T × Nat)} {t : T} : hasL L t = true ↔ t ∈ L.map (·.1) := by
  simp [hasL]

theorem LN.visit {n far : Nat} {x : T} {s : List (T × Nat) × List T} (h : LN n s.1) (hx : x.carets = n) : LN n (visit far s x).1 := by
  unfold Proofs.Ytceabidnjlpkeaa.visit
  by_cases hh : hasL s.1 x = true
  · rw [if_pos hh]; exact h
  · rw [if_neg hh]
    refine ⟨?_, ?_⟩
    · simp only [List.map_append, List.map_cons, List.map_nil]
      refine List.nodup_append.2 ⟨h.1, by simp, ?_⟩
      intro a ha b hb e
      simp only [List.mem_singleton] at hb
      subst hb
      exact hh (hasL_mem.2 (e ▸ ha))
    · intro p hp
      rcases List.mem_append.1 hp with hp | hp
      · exact h.2 p hp
      · simp only [List.mem_singleton] at hp
        subst hp
        exact hx

/-- What one round keeps. -/
structure Kept (n far : Nat) (s s' : List (T × Nat) × List T) : Prop where
  ln : LN n s.1 → LN n s'.1
  len : s'.1.length + s.2.length = s.1.length + s'.2.length
  le : s.1.length ≤ s'.1.length
  has : ∀ t, hasL s.1 t = true → hasL s'.1 t = true ∧ lookL s'.1 t = lookL s.1 t
  new : ∀ t ∈ s'.2, t ∈ s.2 ∨ (hasL s'.1 t = true ∧ lookL s'.1 t = far + 1)
  from_ : ∀ t, hasL s'.1 t = true → hasL s.1 t = true ∨ t ∈ s'.2
  keep : ∀ t ∈ s.2, t ∈ s'.2

theorem Kept.refl (n far : Nat) (s : List (T × Nat) × List T) : Kept n far s s :=
  ⟨id, rfl, Nat.le_refl _, fun _ h => ⟨h, rfl⟩, fun _ h => .inl h, fun _ h => .inl h, fun _ h => h⟩

theorem Kept.trans {n far : Nat} {s t u : List (T × Nat) × List T} (h1 : Kept n far s t) (h2 : Kept n far t u) : Kept n far s u where
  ln h := h2.ln (h1.ln h)
  len := by have := h1.len; have := h2.len; omega
  le := Nat.le_trans h1.le h2.le
  has x h := by
    have a := h1.has x h
    have b := h2.has x a.1
    exact ⟨b.1, b.2.trans a.2⟩
  new x h := by
    rcases h2.new x h with h | h
    · rcases h1.new x h with h | h
      · exact .inl h
      · have b := h2.has x h.1
        exact .inr ⟨b.1, b.2.trans h.2⟩
    · exact .inr h
  from_ x h := by
    rcases h2.from_ x h with h | h
    · rcases h1.from_ x h with h | h
      · exact .inl h
      · exact .inr (h2.keep x h)
    · exact .inr h
  keep x h := h2.keep x (h1.keep x h)

theorem Kept.visit (n far : Nat) (s : List (T × Nat) × List T) (x : T) (hx : x.carets = n) : Kept n far s (visit far s x) := by
  by_cases hh : hasL s.1 x = true
  · have : Proofs.Ytceabidnjlpkeaa.visit far s x = s := by unfold Proofs.Ytceabidnjlpkeaa.visit; rw [if_pos hh]
    rw [this]
    exact Kept.refl _ _ _
  · have e : Proofs.Ytceabidnjlpkeaa.visit far s x = (s.1 ++ [(x, far + 1)], s.2 ++ [x]) := by unfold Proofs.Ytceabidnjlpkeaa.visit; rw [if_neg hh]
    have hh' : hasL s.1 x = false := by simpa using hh
    refine ⟨fun h => h.visit hx, by rw [e]; simp; omega, by rw [e]; simp, ?_, ?_, ?_, ?_⟩
    · intro t ht
      have hne : x ≠ t := fun e => hh (e ▸ ht)
      rw [e]
      exact ⟨by rw [hasL_snoc, ht, Bool.true_or], lookL_other hne _⟩
    · intro t ht
      rw [e] at ht ⊢
      rcases List.mem_append.1 ht with ht | ht
      · exact .inl ht
      · simp only [List.mem_singleton] at ht
        subst ht
        exact .inr ⟨by rw [hasL_snoc]; simp, lookL_same hh' _⟩
    · intro t ht
      rw [e] at ht ⊢
      simp only [hasL_snoc, Bool.or_eq_true, decide_eq_true_eq] at ht
      rcases ht with ht | ht
      · exact .inl ht
      · subst ht; exact .inr (by simp)
    · intro t ht
      rw [e]
      exact List.mem_append_left _ ht

theorem Kept.visits (n far : Nat) : ∀ (xs : List T) (s : List (T × Nat) × List T), (∀ x ∈ xs, x.carets = n) → Kept n far s (xs.foldl (Proofs.Ytceabidnjlpkeaa.visit far) s)
  | [], s, _ => Kept.refl _ _ _
  | x :: xs, s, h => (Kept.visit n far s x (h x List.mem_cons_self)).trans (Kept.visits n far xs _ (fun y hy => h y (List.mem_cons_of_mem _ hy)))

theorem visit_pre (far : Nat) (pre : List T) : ∀ (xs : List T) (L : List (T × Nat)) (q : List T), xs.foldl (visit far) (L, pre ++ q) = ((xs.foldl (visit far) (L, q)).1, pre ++ (xs.foldl (visit far) (L, q)).2)
  | [], L, q => rfl
  | x :: xs, L, q => by
    simp only [List.foldl_cons]
    by_cases hh : hasL L x = true
    · have e : ∀ r, visit far (L, r) x = (L, r) := fun r => by unfold visit; rw [if_pos hh]
      rw [e, e]
      exact visit_pre far pre xs L q
    · have e : ∀ r, visit far (L, r) x = (L ++ [(x, far + 1)], r ++ [x]) := fun r => by unfold visit; rw [if_neg hh]
      rw [e, e, List.append_assoc]
      exact visit_pre far pre xs _ _

theorem nbS_carets {t x : T} (h : x ∈ t.nbS) : x.carets = t.carets := T.nb_carets (T.nbS_mem h)

theorem bfs_total (n : Nat) (hn : n ≤ 5) : ∀ (k : Nat) (L : List (T × Nat)) (q : List T), LN n L → (∀ t ∈ q, t.carets = n) → 42 + q.length ≤ L.length + k → ∃ res, bfsN k L q = some res
  | k, L, [], _, _, _ => ⟨L, by cases k <;> rfl⟩
  | 0, L, x :: q, h, _, hm => by
    have := h.le hn
    simp only [List.length_cons] at hm
    omega
  | k + 1, L, x :: q, h, hq, hm => by
    have hx := hq x List.mem_cons_self
    have K := Kept.visits n (lookL L x) x.nbS (L, q) (fun y hy => (nbS_carets hy).trans hx)
    rw [bfsN]
    refine bfs_total n hn k _ _ (K.ln h) ?_ ?_
    · intro t ht
      rcases K.new t ht with h1 | h1
      · exact hq t (List.mem_cons_of_mem _ h1)
      · obtain ⟨p, hp, rfl⟩ := List.mem_map.1 (hasL_mem.1 h1.1)
        exact (K.ln h).2 p hp
    · have := K.len
      simp only [List.length_cons] at hm
      simp only at this
      omega

/-- A level of the search. -/
def lev (far : Nat) (cur : List T) (s : List (T × Nat) × List T) : List (T × Nat) × List T := cur.foldl (fun s x => x.nbS.foldl (visit far) s) s

theorem Kept.lev (n far : Nat) : ∀ (cur : List T) (s : List (T × Nat) × List T), (∀ x ∈ cur, x.carets = n) → Kept n far s (lev far cur s)
  | [], s, _ => Kept.refl _ _ _
  | x :: cur, s, h => (Kept.visits n far x.nbS s (fun y hy => (nbS_carets hy).trans (h x List.mem_cons_self))).trans (Kept.lev n far cur _ (fun y hy => h y (List.mem_cons_of_mem _ hy)))

theorem lev_bfs (n far : Nat) (res : List (T × Nat)) : ∀ (cur : List T) (k : Nat) (L : List (T × Nat)) (nxt : List T), (∀ x ∈ cur, x.carets = n ∧ hasL L x = true ∧ lookL L x = far) →
    bfsN k L (cur ++ nxt) = some res → ∃ k', k' + cur.length = k ∧ bfsN k' (lev far cur (L, nxt)).1 (lev far cur (L, nxt)).2 = some res
  | [], k, L, nxt, _, h => ⟨k, rfl, h⟩
  | x :: cur, 0, L, nxt, _, h => by simp [bfsN] at h
  | x :: cur, k + 1, L, nxt, hc, h => by
    have hx := hc x List.mem_cons_self
    rw [List.cons_append, bfsN, hx.2.2, visit_pre] at h
    have K := Kept.visits n far x.nbS (L, nxt) (fun y hy => (nbS_carets hy).trans hx.1)
    obtain ⟨k', e, hk⟩ := lev_bfs n far res cur k _ _ (fun y hy => by
      have hy := hc y (List.mem_cons_of_mem _ hy)
      have := K.has y hy.2.1
      exact ⟨hy.1, this.1, this.2.trans hy.2.2⟩) h
    exact ⟨k', by simp only [List.length_cons]; omega, hk⟩

theorem bfs_keeps (n : Nat) : ∀ (k : Nat) (L : List (T × Nat)) (q : List T) (res : List (T × Nat)), (∀ t ∈ q, t.carets = n) → LN n L → bfsN k L q = some res → ∀ b, hasL L b = true → hasL res b = true ∧ lookL res b = lookL L b
  | k, L, [], res, _, _, h, b, hb => by
    have : L = res := by cases k <;> simpa [bfsN] using h
    subst this
    exact ⟨hb, rfl⟩
  | 0, L, x :: q, res, _, _, h, b, hb => by simp [bfsN] at h
  | k + 1, L, x :: q, res, hq, hL, h, b, hb => by
    rw [bfsN] at h
    have K := Kept.visits n (lookL L x) x.nbS (L, q) (fun y hy => (nbS_carets hy).trans (hq x List.mem_cons_self))
    have hb2 := K.has b hb
    have := bfs_keeps n k _ _ res (fun t ht => by
      rcases K.new t ht with h1 | h1
      · exact hq t (List.mem_cons_of_mem _ h1)
      · obtain ⟨p, hp, rfl⟩ := List.mem_map.1 (hasL_mem.1 h1.1)
        exact (K.ln hL).2 p hp) (K.ln hL) h b hb2.1
    exact ⟨this.1, this.2.trans hb2.2⟩

end Go.Proofs.Ytceabidnjlpkeaa

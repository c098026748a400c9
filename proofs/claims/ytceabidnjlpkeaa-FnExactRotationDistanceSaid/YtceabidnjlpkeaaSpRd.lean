/- The reference's trees, rotations, neighbours and distance, for all texts, and the walk of the law that compares both distances. -/
import Derived.Test.YtceabidnjlpkeaaPFnExactRotationDistancex3
import Derived.Test.YtceabidnjlpkeaaTreeE
import Derived.Test.YtceabidnjlpkeaaPFnExactRotationDistancex4
namespace Go.Proofs.Ytceabidnjlpkeaa
open Go.RowKit Go.Proofs.YtceabidnjlpkeaaW.PrintWords Go.Proofs.Ytceabidnjlpkeaa.PFnExactRotationDistance
set_option linter.unusedVariables false
set_option linter.unusedSimpArgs false

theorem w64 {n : Int} (h : -9223372036854775808 ≤ n ∧ n ≤ 9223372036854775807) : wrap64 n = n := IntWalk.wrap64_in n h
theorem w64n (n : Nat) (h : n ≤ 9000000000000) : wrap64 ((n : Int) + 1) = ((n + 1 : Nat) : Int) := by
  rw [w64 (by omega)]; push_cast; rfl
theorem bt_bs (l : List UInt8) (i : Nat) (h : i < l.length) : bt (bs l) (i : Int) = ((l[i]).toNat : Int) := by
  have h' : ((i : Int)).toNat < (bs l).size := by rw [bs_size]; simpa using h
  rw [bt, dif_pos h']
  rfl
theorem bs_toList (l : List UInt8) : (bs l).toList = l := by
  rw [ByteArray.toList_eq]; simp [bs]
theorem bs_of (s : ByteArray) : bs s.data.toList = s := by
  apply ByteArray.ext; simp [bs]
theorem text_bs (t : T) : t.text = bs t.enc := rfl
theorem u8c {c : UInt8} {n : Nat} (hn : n < 256) : ((c.toNat : Int) = (n : Int)) ↔ c = UInt8.ofNat n := by
  constructor
  · intro h
    have : c.toNat = n := by omega
    rw [← this]; simp
  · intro h
    subst h
    simp [UInt8.toNat_ofNat']
    omega
theorem is40 (c : UInt8) : ((c.toNat : Int) = 40) = (c = 40) := propext (u8c (n := 40) (by omega))
theorem is41 (c : UInt8) : ((c.toNat : Int) = 41) = (c = 41) := propext (u8c (n := 41) (by omega))
theorem is46 (c : UInt8) : ((c.toNat : Int) = 46) = (c = 46) := propext (u8c (n := 46) (by omega))
theorem is48 (c : UInt8) : ((c.toNat : Int) = 48) = (c = 48) := propext (u8c (n := 48) (by omega))
theorem is49 (c : UInt8) : ((c.toNat : Int) = 49) = (c = 49) := propext (u8c (n := 49) (by omega))

/-- How many carets letters open. -/
def opens (l : List UInt8) : Nat := l.countP fun c => decide (c = 40)

theorem opens_enc : ∀ t : T, opens t.enc = t.carets
  | .nil => rfl
  | .node l r => by
    have h1 := opens_enc l
    have h2 := opens_enc r
    simp only [opens] at h1 h2
    simp [T.enc, T.carets, opens, List.countP_append, List.countP_cons, h1, h2]
    try omega

theorem carets_l0 (l : List UInt8) (hl : l.length ≤ 2000000) : ∀ (m i c : Nat), l.length - i = m → i ≤ l.length → c ≤ i →
    Ev (fun k => spec_trCarets.l0 k (bs l) c i) ((c + opens (l.drop i) : Nat) : Int)
  | 0, i, c, hm, hi, hc => by
    have : i = l.length := by omega
    subst this
    refine Ev.step (fun k => by rw [spec_trCarets.l0]) ?_
    simp only [bs_size, if_neg (show ¬ ((l.length : Int) < (l.length : Int)) by omega)]
    simpa [opens] using Ev.now _
  | m + 1, i, c, hm, hi, hc => by
    have hlt : i < l.length := by omega
    refine Ev.step (fun k => by rw [spec_trCarets.l0]) ?_
    simp only [bs_size]
    simp only [if_pos (show (i : Int) < (l.length : Int) by omega), if_pos (show (0 : Int) ≤ (i : Int) by omega), bt_bs l i hlt, is40, is41, is46, w64n i (by omega), w64n c (by omega)]
    rw [List.drop_eq_getElem_cons hlt]
    by_cases h : l[i] = 40
    · simp only [if_pos h]
      have := carets_l0 l hl m (i + 1) (c + 1) (by omega) (by omega) (by omega)
      simp only [opens, List.countP_cons, h, decide_true, if_true]
      rw [show c + (List.countP (fun c => decide (c = 40)) (List.drop (i + 1) l) + 1) = c + 1 + opens (List.drop (i + 1) l) from by simp only [opens]; omega]
      exact this
    · simp only [if_neg h]
      have := carets_l0 l hl m (i + 1) c (by omega) (by omega) (by omega)
      simp only [opens, List.countP_cons, h, decide_false, Bool.false_eq_true, if_false]
      exact this

theorem carets_ev (s : ByteArray) (hs : s.size ≤ 2000000) : Ev (fun k => spec_trCarets.f k s) (opens s.data.toList : Int) := by
  have := carets_l0 s.data.toList (by simpa using hs) _ 0 0 rfl (Nat.zero_le _) (Nat.le_refl _)
  rw [bs_of] at this
  simpa [spec_trCarets.f] using this
theorem carets_text (t : T) (h : t.carets ≤ 100000) : Ev (fun k => spec_trCarets.f k t.text) (t.carets : Int) := by
  have := carets_ev t.text (by rw [T.size_text]; omega)
  rwa [show t.text.data.toList = t.enc by simp [T.text], opens_enc] at this

/-- Where a tree that was read ends, or -1. -/
def endOf (len : Nat) : Option (T × List UInt8) → Int
  | none => -1
  | some (_, rest) => (len : Int) - rest.length

theorem end_ev (l : List UInt8) (hl : l.length ≤ 60) : ∀ (n p d : Nat), d ≤ p → (l.drop p).length < n → Ev (fun k => spec_trEnd.f k (bs l) p d) (endOf l.length (readL n (l.drop p)))
  | 0, p, d, _, h => by omega
  | n + 1, p, d, hd, h => by
    refine Ev.step (fun k => by rw [spec_trEnd.f]) ?_
    simp only [bs_size]
    by_cases hp : p < l.length
    · simp only [if_neg (show ¬ (p : Int) ≥ (l.length : Int) by omega), show decide ((d : Int) > 60) = false from by simp; omega]
      refine Ev.step (fun k => by rw [spec_trEnd.j0]) ?_
      simp only [Bool.false_eq_true, if_false, bs_size, if_pos (show (0 : Int) ≤ (p : Int) by omega), if_pos (show (p : Int) < (l.length : Int) by omega), bt_bs l p hp, is40, is41, is46, w64n p (by omega), w64n d (by omega)]
      rw [List.drop_eq_getElem_cons hp]
      by_cases h46 : l[p] = 46
      · simp only [if_pos h46]
        rw [readL, if_pos h46]
        simp only [endOf, List.length_drop]
        rw [show (l.length : Int) - ((l.length - (p + 1) : Nat) : Int) = ((p + 1 : Nat) : Int) by omega]
        exact Ev.now _
      · simp only [if_neg h46]
        by_cases h40 : l[p] = 40
        · simp only [if_pos h40]
          rw [readL, if_neg h46, if_pos h40]
          have hlen : (l.drop (p + 1)).length < n := by simp only [List.length_drop] at h ⊢; omega
          have hb := end_ev l hl n (p + 1) (d + 1) (by omega) hlen
          cases hr1 : readL n (l.drop (p + 1)) with
          | none =>
            rw [hr1, show endOf l.length none = -1 from rfl] at hb
            refine Ev.bind hb ?_
            simp only [if_pos (show (-1 : Int) < 0 by decide)]
            exact Ev.now _
          | some x =>
            obtain ⟨t1, rest1⟩ := x
            have hs1 := readL_size _ _ _ _ hr1
            have hl1 : rest1.length ≤ l.length := by
              have := congrArg List.length hs1
              simp only [List.length_drop, List.length_append] at this
              omega
            obtain ⟨q, hq⟩ : ∃ q : Nat, q = l.length - rest1.length := ⟨_, rfl⟩
            have hrest : rest1 = l.drop q := by
              have h1 : l.drop (p + 1 + t1.enc.length) = rest1 := by rw [← List.drop_drop, hs1]; simp
              have h2 := congrArg List.length hs1
              simp only [List.length_drop, List.length_append] at h2
              rw [← h1, hq]
              congr 1
              have := T.enc_length t1
              omega
            have hpq : p + 2 ≤ q := by
              have h2 := congrArg List.length hs1
              simp only [List.length_drop, List.length_append] at h2
              have := T.enc_length t1
              omega
            rw [hr1, show endOf l.length (some (t1, rest1)) = (q : Int) by simp only [endOf]; omega] at hb
            refine Ev.bind hb ?_
            simp only [if_neg (show ¬ ((q : Int) < 0) by omega)]
            have hlen2 : (l.drop q).length < n := by rw [← hrest]; simp only [List.length_drop] at h; omega
            have hb2 := end_ev l hl n q (d + 1) (by omega) hlen2
            rw [← hrest] at hb2
            cases hr2 : readL n rest1 with
            | none =>
              rw [hr2, show endOf l.length none = -1 from rfl] at hb2
              refine Ev.bind hb2 ?_
              simp only [if_pos (show (-1 : Int) < 0 by decide)]
              exact Ev.now _
            | some x =>
              obtain ⟨t2, rest2⟩ := x
              have hs2 := readL_size _ _ _ _ hr2
              have hl2 : rest2.length ≤ rest1.length := by
                have := congrArg List.length hs2
                simp only [List.length_append] at this
                omega
              obtain ⟨u, hu⟩ : ∃ u : Nat, u = l.length - rest2.length := ⟨_, rfl⟩
              have hrest2 : rest2 = l.drop u := by
                have h1 : l.drop (q + t2.enc.length) = rest2 := by rw [← List.drop_drop, ← hrest, hs2]; simp
                have h2 := congrArg List.length hs2
                simp only [List.length_append] at h2
                have := T.enc_length t2
                rw [← h1, hu]
                congr 1
                omega
              rw [hr2, show endOf l.length (some (t2, rest2)) = (u : Int) by simp only [endOf]; omega] at hb2
              refine Ev.bind hb2 ?_
              simp only [if_neg (show ¬ ((u : Int) < 0) by omega), w64n u (by omega)]
              by_cases hu2 : u < l.length
              · simp only [if_neg (show ¬ ((u : Int) ≥ (l.length : Int)) by omega), if_pos (show (u : Int) < (l.length : Int) by omega), if_pos (show (0 : Int) ≤ (u : Int) by omega), bt_bs l u hu2, is40, is41, is46]
                rw [List.drop_eq_getElem_cons hu2] at hrest2
                subst hrest2
                by_cases h41 : l[u] = 41
                · simp only [if_pos h41, endOf, List.length_drop]
                  rw [show (l.length : Int) - ((l.length - (u + 1) : Nat) : Int) = ((u + 1 : Nat) : Int) by omega]
                  exact Ev.now _
                · simp only [if_neg h41, endOf]
                  exact Ev.now _
              · simp only [if_pos (show ((u : Int) ≥ (l.length : Int)) by omega)]
                have : rest2 = [] := by rw [hrest2]; exact List.drop_eq_nil_of_le (by omega)
                subst this
                exact Ev.now _
        · simp only [if_neg h40]
          rw [readL, if_neg h46, if_neg h40]
          exact Ev.now _
    · simp only [if_pos (show (p : Int) ≥ (l.length : Int) by omega)]
      refine Ev.step (fun k => by rw [spec_trEnd.j0]) ?_
      simp only [if_true]
      rw [List.drop_eq_nil_of_le (by omega), readL]
      exact Ev.now _

end Go.Proofs.Ytceabidnjlpkeaa

namespace Go.Proofs.Ytceabidnjlpkeaa
open Go.RowKit Go.Proofs.YtceabidnjlpkeaaW.PrintWords Go.Proofs.Ytceabidnjlpkeaa.PFnExactRotationDistance
set_option linter.unusedVariables false
set_option linter.unusedSimpArgs false

theorem parseL_none {l : List UInt8} (h : parseL l = none) (hl : l.length ≤ 33) (ho : opens l ≤ 8) : ∀ t, readL (l.length + 1) l ≠ some (t, []) := by
  intro t hr
  have hs := readL_size _ _ _ _ hr
  simp only [List.append_nil] at hs
  have hc : t.carets ≤ 8 := by rw [← opens_enc, ← hs]; exact ho
  have hlen : l.length = 3 * t.carets + 1 := by rw [hs, T.enc_length]
  unfold parseL at h
  rw [if_neg (by omega), hr] at h
  simp [hc] at h

theorem trIs_ev (s : ByteArray) (hs : s.size ≤ 2000000) : Ev (fun k => spec_trIs.f k s) (parseB s).isSome := by
  have hc := carets_ev s hs
  have hsz : s.data.toList.length = s.size := by simp
  cases hp : parseB s with
  | some t =>
    obtain rfl := parseB_some hp
    have h8 := parseB_carets hp
    have he := end_ev t.enc (by rw [T.enc_length]; omega) (t.enc.length + 1) 0 0 (Nat.le_refl _) (by simp)
    have hr := readL_enc t (t.enc.length + 1) [] (by omega)
    rw [List.append_nil] at hr
    rw [List.drop_zero, hr, ← text_bs, show endOf t.enc.length (some (t, [])) = (t.text.size : Int) by simp [endOf, T.size_text, T.enc_length]] at he
    have hc2 := carets_text t (by omega)
    refine Ev.congr (fun k => by rw [spec_trIs.f]) ?_
    simp only [if_pos (show (t.text.size : Int) ≤ 33 by rw [T.size_text]; omega)]
    refine Ev.bind hc2 ?_
    simp only [if_pos (show (t.carets : Int) ≤ 8 by omega)]
    refine Ev.bind he ?_
    simpa using Ev.now _
  | none =>
    refine Ev.congr (fun k => by rw [spec_trIs.f]) ?_
    by_cases h33 : (s.size : Int) ≤ 33
    · simp only [if_pos h33]
      refine Ev.bind hc ?_
      by_cases h8 : (opens s.data.toList : Int) ≤ 8
      · simp only [if_pos h8]
        have he := end_ev s.data.toList (by rw [hsz]; omega) (s.data.toList.length + 1) 0 0 (Nat.le_refl _) (by simp)
        rw [List.drop_zero, bs_of] at he
        refine Ev.bind he ?_
        have hn := parseL_none hp (by rw [hsz]; omega) (by omega)
        have hf : (endOf s.data.toList.length (readL (s.data.toList.length + 1) s.data.toList) == (s.size : Int)) = false := by
          cases hr : readL (s.data.toList.length + 1) s.data.toList with
          | none => simp [endOf]
          | some x =>
            obtain ⟨t, rest⟩ := x
            have : rest ≠ [] := fun e => hn t (by rw [hr, e])
            have : 0 < rest.length := List.length_pos_iff.2 this
            simp only [endOf, hsz]
            simp
            omega
        rw [hf]
        exact Ev.now _
      · simp only [if_neg h8]
        exact Ev.now _
    · simp only [if_neg h33]
      exact Ev.now _

theorem brBoth_ev (s t : ByteArray) (hs : s.size ≤ 2000000) (ht : t.size ≤ 2000000) : Ev (fun k => spec_brBoth.f k s t) (pairB s t).isSome := by
  refine Ev.congr (fun k => by rw [spec_brBoth.f]) ?_
  refine Ev.bind (a := (pairB s t).isSome) ?_ (Ev.now _)
  refine Ev.congr (fun k => by rw [spec_prGood.f]) ?_
  refine Ev.bind (trIs_ev s hs) ?_
  cases h1 : parseB s with
  | none => simpa [pairB, h1] using Ev.now _
  | some a =>
    simp only [Option.isSome_some, if_true]
    refine Ev.bind (trIs_ev t ht) ?_
    cases h2 : parseB t with
    | none => simpa [pairB, h1, h2] using Ev.now _
    | some b =>
      simp only [Option.isSome_some, if_true]
      have ha := parseB_carets h1
      have hb := parseB_carets h2
      obtain rfl := parseB_some h1
      obtain rfl := parseB_some h2
      refine Ev.bind (carets_text a (by omega)) ?_
      refine Ev.bind (carets_text b (by omega)) ?_
      rw [pairB_text a b ha hb]
      by_cases h : a.carets = b.carets
      · simpa [h] using Ev.now _
      · rw [if_neg h, show ((a.carets : Int) == (b.carets : Int)) = false by simp; omega]
        exact Ev.now _

theorem enc_leaf {t : T} : t.enc = [46] ↔ t = .nil := by
  cases t with
  | nil => simp [T.enc]
  | node l r => simp [T.enc]

theorem leaf_ev (t : T) : Ev (fun _ => spec_trLeaf.f t.text) (decide (t = .nil)) := by
  have : spec_trLeaf.f t.text = some (decide (t = .nil)) := by
    rw [spec_trLeaf.f, text_bs, bs_toList]
    congr 1
    by_cases h : t = .nil
    · subst h; rfl
    · simp only [h, decide_false]
      exact beq_false_of_ne (fun e => h (enc_leaf.1 e))
  rw [this]
  exact Ev.now _

theorem of_ev (l r : T) (h : l.carets + r.carets ≤ 100000) : Ev (fun _ => spec_trOf.f l.text r.text) (T.node l r).text := by
  have : spec_trOf.f l.text r.text = some (T.node l r).text := by
    rw [spec_trOf.f]
    have h40 : (⟨#[40]⟩ : ByteArray).size = 1 := rfl
    rw [if_pos (by rw [T.size_text]; omega), if_pos (by simp only [ByteArray.size_append, T.size_text, h40]; omega), if_pos (by simp only [ByteArray.size_append, T.size_text, h40]; omega), T.text_node]
  rw [this]
  exact Ev.now _

theorem sides_ev (l r : T) (h : l.carets + r.carets ≤ 10) : Ev (fun k => spec_trSides.f k (T.node l r).text) (l.text, r.text) := by
  have hsz := T.size_text (.node l r)
  have hl := T.enc_length l
  have hr := T.enc_length r
  have hcar : (T.node l r).carets = l.carets + r.carets + 1 := by simp [T.carets]; try omega
  have hlen := T.enc_length (.node l r)
  have henc : (T.node l r).enc = 40 :: (l.enc ++ (r.enc ++ [41])) := by simp [T.enc]
  have he := end_ev (T.node l r).enc (by rw [hlen]; omega) ((T.node l r).enc.length + 1) 1 0 (by omega) (by simp; omega)
  have hrd := readL_enc l ((T.node l r).enc.length + 1) (r.enc ++ [41]) (by rw [hl, hlen]; omega)
  rw [show (T.node l r).enc.drop 1 = l.enc ++ (r.enc ++ [41]) by rw [henc]; rfl, hrd, ← text_bs,
    show endOf (T.node l r).enc.length (some (l, r.enc ++ [41])) = ((1 + l.enc.length : Nat) : Int) by simp only [endOf, hlen, hcar, hl, List.length_append, hr, List.length_cons, List.length_nil]; omega] at he
  refine Ev.congr (fun k => by rw [spec_trSides.f]) ?_
  refine Ev.bind he ?_
  simp only [hsz, hcar, hl, w64 (n := ((3 * (l.carets + r.carets + 1) + 1 : Nat) : Int) - 1) (by omega)]
  simp only [if_pos (show (1 : Int) ≤ ((1 + (3 * l.carets + 1) : Nat) : Int) by omega), if_pos (show ((1 + (3 * l.carets + 1) : Nat) : Int) ≤ ((3 * (l.carets + r.carets + 1) + 1 : Nat) : Int) by omega),
    if_pos (show (0 : Int) ≤ ((1 + (3 * l.carets + 1) : Nat) : Int) by omega), if_pos (show ((1 + (3 * l.carets + 1) : Nat) : Int) ≤ ((3 * (l.carets + r.carets + 1) + 1 : Nat) : Int) - 1 by omega),
    if_pos (show ((3 * (l.carets + r.carets + 1) + 1 : Nat) : Int) - 1 ≤ ((3 * (l.carets + r.carets + 1) + 1 : Nat) : Int) by omega)]
  have e1 : (((1 + (3 * l.carets + 1) : Nat) : Int)).toNat = 1 + l.enc.length := by rw [hl]; omega
  have e2 : (((3 * (l.carets + r.carets + 1) + 1 : Nat) : Int) - 1).toNat = 1 + l.enc.length + r.enc.length := by rw [hl, hr]; omega
  rw [e1, e2]
  have x1 : (T.node l r).text.extract 1 (1 + l.enc.length) = l.text := by
    apply ByteArray.ext
    apply Array.ext'
    simp [T.text, henc, ByteArray.data_extract]
  have x2 : (T.node l r).text.extract (1 + l.enc.length) (1 + l.enc.length + r.enc.length) = r.text := by
    apply ByteArray.ext
    apply Array.ext'
    simp [T.text, henc, ByteArray.data_extract]
    rw [Nat.add_comm 1, List.drop_succ_cons]
    simp
  rw [x1, x2]
  exact Ev.now _

/-- What the reference's turned tree is as a text. -/
def turned : Option T → ByteArray × Bool
  | none => (⟨#[]⟩, false)
  | some n => (n.text, true)

theorem rotate_ev (t : T) (back : Bool) (h : t.carets ≤ 8) : Ev (fun k => spec_brRotate.f k t.text back) (turned (t.rot back)) := by
  refine Ev.congr (fun k => by rw [spec_brRotate.f]) ?_
  refine Ev.bind (leaf_ev t) ?_
  cases t with
  | nil => exact Ev.now _
  | node l r =>
    have hc : (T.node l r).carets = l.carets + r.carets + 1 := by simp [T.carets]; try omega
    simp only [show decide (T.node l r = T.nil) = false by simp, Bool.false_eq_true, if_false]
    refine Ev.bind (sides_ev l r (by omega)) ?_
    cases back with
    | true =>
      simp only [if_true]
      refine Ev.bind (leaf_ev r) ?_
      cases r with
      | nil => exact Ev.now _
      | node a b =>
        have hc2 : (T.node a b).carets = a.carets + b.carets + 1 := by simp [T.carets]; try omega
        simp only [show decide (T.node a b = T.nil) = false by simp, Bool.false_eq_true, if_false]
        refine Ev.bind (sides_ev a b (by omega)) ?_
        refine Ev.bind (of_ev l a (by omega)) ?_
        refine Ev.bind (of_ev (.node l a) b (by simp [T.carets]; omega)) ?_
        exact Ev.now _
    | false =>
      simp only [Bool.false_eq_true, if_false]
      refine Ev.bind (leaf_ev l) ?_
      cases l with
      | nil => exact Ev.now _
      | node a b =>
        have hc2 : (T.node a b).carets = a.carets + b.carets + 1 := by simp [T.carets]; try omega
        simp only [show decide (T.node a b = T.nil) = false by simp, Bool.false_eq_true, if_false]
        refine Ev.bind (sides_ev a b (by omega)) ?_
        refine Ev.bind (of_ev b r (by omega)) ?_
        refine Ev.bind (of_ev a (.node b r) (by simp [T.carets]; omega)) ?_
        exact Ev.now _

end Go.Proofs.Ytceabidnjlpkeaa

namespace Go.Proofs.Ytceabidnjlpkeaa
open Go.RowKit Go.Proofs.YtceabidnjlpkeaaW.PrintWords Go.Proofs.Ytceabidnjlpkeaa.PFnExactRotationDistance
set_option linter.unusedVariables false
set_option linter.unusedSimpArgs false

/-- The addresses at which a tree at an address can be rotated, or back. -/
def T.rplaces (back : Bool) : T → List UInt8 → List (List UInt8)
  | .nil, _ => []
  | .node l r, a => (if ((T.node l r).rot back).isSome then [a] else []) ++ l.rplaces back (a ++ [48]) ++ r.rplaces back (a ++ [49])

theorem T.rplaces_length (back : Bool) (t : T) : ∀ a, (t.rplaces back a).length ≤ t.carets := by
  induction t with
  | nil => intro a; simp [T.rplaces]
  | node l r hl hr =>
    intro a
    have h1 := hl (a ++ [48])
    have h2 := hr (a ++ [49])
    simp only [T.rplaces, T.carets, List.length_append]
    split <;> simp <;> omega

theorem T.places_map (t : T) : ∀ a, t.places a = (t.places []).map (a ++ ·) := by
  induction t with
  | nil => intro a; rfl
  | node l r hl hr =>
    intro a
    rw [T.places, T.places, hl (a ++ [48]), hr (a ++ [49]), hl ([] ++ [48]), hr ([] ++ [49])]
    simp [Function.comp_def]

theorem T.rplaces_map (back : Bool) (t : T) : ∀ a, t.rplaces back a = (t.turns back).map (a ++ ·) := by
  induction t with
  | nil => intro a; rfl
  | node l r hl hr =>
    intro a
    rw [T.rplaces, hl, hr]
    have e : (T.node l r).turns back = (if ((T.node l r).rot back).isSome then [[]] else []) ++ (l.turns back).map ([48] ++ ·) ++ (r.turns back).map ([49] ++ ·) := by
      simp only [T.turns, T.places]
      rw [T.places_map l ([] ++ [48]), T.places_map r ([] ++ [49])]
      rw [List.filter_cons, T.turn_nil, List.filter_append, List.filter_map, List.filter_map]
      have f1 : ((fun a => ((T.node l r).turn back a).isSome) ∘ fun x => [] ++ [48] ++ x) = fun a => (l.turn back a).isSome := by
        funext x; simp [T.turn]
      have f2 : ((fun a => ((T.node l r).turn back a).isSome) ∘ fun x => [] ++ [49] ++ x) = fun a => (r.turn back a).isSome := by
        funext x; simp [T.turn]
      rw [f1, f2]
      split <;> simp
    rw [e]
    split <;> simp [Function.comp_def]

theorem T.rplaces_nil (back : Bool) (t : T) : t.rplaces back [] = t.turns back := by
  rw [T.rplaces_map]; simp

theorem bs48 (a : List UInt8) : bs a ++ (⟨#[48]⟩ : ByteArray) = bs (a ++ [48]) := by rw [bs_append]; rfl
theorem bs49 (a : List UInt8) : bs a ++ (⟨#[49]⟩ : ByteArray) = bs (a ++ [49]) := by rw [bs_append]; rfl

theorem turned_2 (o : Option T) : (turned o).2 = o.isSome := by cases o <;> rfl

theorem places_ev (back : Bool) : ∀ (t : T) (a : List UInt8), t.carets ≤ 8 → a.length ≤ 1000 - t.carets → Ev (fun k => spec_brPlaces.f k t.text (bs a) back) ((t.rplaces back a).map bs)
  | .nil, a, _, _ => by
    refine Ev.step (fun k => by rw [spec_brPlaces.f]) ?_
    refine Ev.bind (leaf_ev .nil) ?_
    exact Ev.now _
  | .node l r, a, h, ha => by
    have hc : (T.node l r).carets = l.carets + r.carets + 1 := by simp [T.carets]; try omega
    have n1 := T.rplaces_length back l (a ++ [48])
    have n2 := T.rplaces_length back r (a ++ [49])
    refine Ev.step (fun k => by rw [spec_brPlaces.f]) ?_
    refine Ev.bind (leaf_ev _) ?_
    simp only [show decide (T.node l r = T.nil) = false by simp, Bool.false_eq_true, if_false]
    refine Ev.bind (rotate_ev _ back h) ?_
    simp only [turned_2]
    have hs := sides_ev l r (by omega)
    have hl := places_ev back l (a ++ [48]) (by omega) (by simp; omega)
    have hr := places_ev back r (a ++ [49]) (by omega) (by simp; omega)
    by_cases hrot : ((T.node l r).rot back).isSome = true
    · simp only [if_pos hrot, List.length_nil, if_pos (show 0 < 8796093022208 by decide), Option.bind_some, List.nil_append]
      refine Ev.bind hs ?_
      simp only [if_pos (show (bs a).size + 1 ≤ 9223372036854775807 by rw [bs_size]; omega), bs48, bs49]
      refine Ev.bind hl ?_
      simp only [List.length_map, List.length_append, List.length_cons, List.length_nil, if_pos (show 0 + 1 + (l.rplaces back (a ++ [48])).length < 8796093022208 by omega)]
      refine Ev.bind hr ?_
      simp only [List.length_map, if_pos (show 0 + 1 + (l.rplaces back (a ++ [48])).length + (r.rplaces back (a ++ [49])).length < 8796093022208 by omega)]
      rw [T.rplaces, if_pos hrot, List.map_append, List.map_append]
      exact Ev.now _
    · simp only [if_neg hrot]
      refine Ev.bind hs ?_
      simp only [if_pos (show (bs a).size + 1 ≤ 9223372036854775807 by rw [bs_size]; omega), bs48, bs49]
      refine Ev.bind hl ?_
      simp only [List.length_map, List.length_nil, List.nil_append, Option.bind_some, if_pos (show 0 + (l.rplaces back (a ++ [48])).length < 8796093022208 by omega)]
      refine Ev.bind hr ?_
      simp only [List.length_map, if_pos (show (l.rplaces back (a ++ [48])).length + (r.rplaces back (a ++ [49])).length < 8796093022208 by omega)]
      rw [T.rplaces, if_neg hrot, List.nil_append, List.map_append]
      exact Ev.now _

theorem turns_ev (back : Bool) (t : T) (h : t.carets ≤ 8) : Ev (fun k => spec_brPlaces.f k t.text (⟨#[]⟩ : ByteArray) back) ((t.turns back).map bs) := by
  have := places_ev back t [] h (Nat.zero_le _)
  rwa [T.rplaces_nil] at this

theorem bt0 (c : UInt8) (a : List UInt8) : bt (bs (c :: a)) 0 = (c.toNat : Int) := bt_bs (c :: a) 0 (by simp)
theorem bs_tail (c : UInt8) (a : List UInt8) : (bs (c :: a)).extract 1 (bs (c :: a)).size = bs a := by
  apply ByteArray.ext
  apply Array.ext'
  simp [bs, ByteArray.data_extract, ByteArray.size]

theorem at_ev (back : Bool) : ∀ (a : List UInt8) (t n : T), t.turn back a = some n → t.carets ≤ 8 → Ev (fun k => spec_brAt.f k t.text (bs a) back) (n.text, true)
  | [], t, n, h, h8 => by
    rw [T.turn_nil] at h
    refine Ev.step (fun k => by rw [spec_brAt.f]) ?_
    simp only [bs_toList, if_true]
    refine Ev.bind (rotate_ev t back h8) ?_
    rw [h]
    exact Ev.now _
  | c :: a, .nil, n, h, h8 => by simp [T.turn] at h
  | c :: a, .node l r, n, h, h8 => by
    have hc : (T.node l r).carets = l.carets + r.carets + 1 := by simp [T.carets]; try omega
    refine Ev.step (fun k => by rw [spec_brAt.f]) ?_
    simp only [bs_toList, if_neg (show ¬ (c :: a = []) by simp)]
    refine Ev.bind (leaf_ev _) ?_
    have hsz : (0 : Int) < ((bs (c :: a)).size : Int) := by rw [bs_size]; simp
    have hsz1 : (1 : Int) ≤ ((bs (c :: a)).size : Int) := by rw [bs_size]; simp; omega
    simp only [show decide (T.node l r = T.nil) = false by simp, Bool.false_eq_true, if_false, if_pos hsz, bt0, is48]
    rw [T.turn] at h
    by_cases h48 : c = 48
    · simp only [if_pos h48] at h ⊢
      obtain ⟨m, hm, rfl⟩ := Option.map_eq_some_iff.1 h
      have hmc := T.turn_carets a hm
      refine Ev.step (fun k => by rw [spec_brAt.j0]) ?_
      simp only [Bool.false_eq_true, if_false]
      refine Ev.bind (sides_ev l r (by omega)) ?_
      simp only [if_pos hsz, bt0, is48, if_pos h48, if_pos hsz1, bs_tail]
      refine Ev.bind (at_ev back a l m hm (by omega)) ?_
      refine Ev.bind (of_ev m r (by omega)) ?_
      exact Ev.now _
    · simp only [if_neg h48] at h ⊢
      by_cases h49 : c = 49
      · simp only [if_pos h49] at h
        obtain ⟨m, hm, rfl⟩ := Option.map_eq_some_iff.1 h
        have hmc := T.turn_carets a hm
        simp only [show (((c.toNat : Int)) != 49) = false by subst h49; rfl]
        refine Ev.step (fun k => by rw [spec_brAt.j0]) ?_
        simp only [Bool.false_eq_true, if_false]
        refine Ev.bind (sides_ev l r (by omega)) ?_
        simp only [if_pos hsz, bt0, is48, if_neg h48, if_pos hsz1, bs_tail]
        refine Ev.bind (at_ev back a r m hm (by omega)) ?_
        refine Ev.bind (of_ev l m (by omega)) ?_
        exact Ev.now _
      · simp [h49] at h

end Go.Proofs.Ytceabidnjlpkeaa

namespace Go.Proofs.Ytceabidnjlpkeaa
open Go.RowKit Go.Proofs.YtceabidnjlpkeaaW.PrintWords Go.Proofs.Ytceabidnjlpkeaa.PFnExactRotationDistance
set_option linter.unusedVariables false
set_option linter.unusedSimpArgs false

theorem rd_texts (ts : List T) (k : Nat) (h : k < ts.length) : rdOf ByteArray.empty (ts.map T.text) (k : Int) = (ts[k]).text := by
  simp [rdOf, List.getD_eq_getElem?_getD, h]

theorem near2_ev (t n : T) (back : Bool) (bl : List Bool) (b1 b2 : Int) (ps : List ByteArray) (q1 : Int) (j : Nat) (hj : j ≤ 1000000) (R : List ByteArray) (ts : List T) (hlen : ts.length ≤ 1000000)
    (hR : Ev (fun k => spec_brNear.l1 k t.text ((insT n ts).map T.text) back bl b1 b2 ps q1 ((j + 1 : Nat) : Int)) R) :
    ∀ (m i : Nat), ts.length - i = m → i ≤ ts.length → insT n ts = ts.take i ++ insT n (ts.drop i) →
    Ev (fun k => spec_brNear.l2 k t.text (ts.map T.text) back n.text (i : Int) bl b1 b2 ps q1 (j : Int)) R
  | 0, i, hm, hi, he => by
    have : i = ts.length := by omega
    subst this
    refine Ev.step (fun k => by rw [spec_brNear.l2]) ?_
    simp only [List.length_map, if_neg (show ¬ ((ts.length : Int) < (ts.length : Int)) by omega), if_pos (show (0 : Int) ≤ (ts.length : Int) by omega), if_pos (show (ts.length : Int) ≤ (ts.length : Int) by omega), Option.bind_some, List.length_nil, List.nil_append, Int.toNat_natCast, List.length_take, List.length_append, List.length_cons, List.length_drop]
    simp only [if_pos (show 0 + min ts.length ts.length < 8796093022208 by omega), if_pos (show min ts.length ts.length < 8796093022208 by omega), if_pos (show min ts.length ts.length + (0 + 1) + (ts.length - ts.length) < 8796093022208 by omega), w64n j (by omega)]
    rw [he] at hR
    have c1 : ts.length + 1 < 8796093022208 := by omega
    have t1 : List.take ts.length (ts.map T.text) = ts.map T.text := List.take_of_length_le (by simp)
    have t2 : List.drop ts.length (ts.map T.text) = [] := List.drop_eq_nil_of_le (by simp)
    simpa [insT, c1, t1, t2] using hR
  | m + 1, i, hm, hi, he => by
    have hlt : i < ts.length := by omega
    refine Ev.step (fun k => by rw [spec_brNear.l2]) ?_
    simp only [List.length_map, if_pos (show ((i : Int) < (ts.length : Int)) by omega), if_pos (show (0 : Int) ≤ (i : Int) by omega), rd_texts ts i hlt]
    rw [List.drop_eq_getElem_cons hlt, insT] at he
    by_cases hb : Op.bytesLess (ts[i]).text.toList n.text.toList = true
    · simp only [if_pos hb, w64n i (by omega)]
      refine near2_ev t n back bl b1 b2 ps q1 j hj R ts hlen hR m (i + 1) (by omega) (by omega) ?_
      rw [if_pos (show tlt ts[i] n = true from hb)] at he
      rw [he, List.take_succ_eq_append_getElem hlt, List.append_assoc]
      rfl
    · simp only [if_neg hb, if_pos (show (i : Int) ≤ (ts.length : Int) by omega), Option.bind_some, List.length_nil, List.nil_append, Int.toNat_natCast, List.length_take, List.length_append, List.length_cons, List.length_drop, List.length_map]
      simp only [if_pos (show 0 + min i ts.length < 8796093022208 by omega), if_pos (show min i ts.length < 8796093022208 by omega), if_pos (show min i ts.length + (0 + 1) + (ts.length - i) < 8796093022208 by omega), w64n j (by omega)]
      rw [if_neg (show ¬ tlt ts[i] n = true from hb), ← List.drop_eq_getElem_cons hlt] at he
      rw [he] at hR
      have c2 : min i ts.length + 1 + (ts.length - i) < 8796093022208 := by omega
      simpa [c2] using hR

theorem insT_length (x : T) (l : List T) : (insT x l).length = l.length + 1 := by
  simpa using (insT_perm x l).length_eq

theorem near1_ev (t : T) (h8 : t.carets ≤ 8) (back : Bool) (bl : List Bool) (b1 : Int) (b2 : Nat) (ps : List (List UInt8)) (hps : ∀ p ∈ ps, ∃ n, t.turn back p = some n) (hpl : ps.length ≤ 1000) (hb2 : b2 ≤ 1000) (R : List ByteArray) :
    ∀ (m j : Nat) (ts : List T), ps.length - j = m → j ≤ ps.length → ts.length ≤ 10000 + j →
    Ev (fun k => spec_brNear.l0 k t.text ((((ps.drop j).filterMap fun a => t.turn back a).foldl (fun l x => insT x l) ts).map T.text) bl b1 ((b2 + 1 : Nat) : Int)) R →
    Ev (fun k => spec_brNear.l1 k t.text (ts.map T.text) back bl b1 (b2 : Int) (ps.map bs) (ps.length : Int) (j : Int)) R
  | 0, j, ts, hm, hj, hts, hR => by
    have : j = ps.length := by omega
    subst this
    refine Ev.step (fun k => by rw [spec_brNear.l1]) ?_
    simp only [if_neg (show ¬ ((ps.length : Int) < (ps.length : Int)) by omega), w64n b2 (by omega)]
    simpa using hR
  | m + 1, j, ts, hm, hj, hts, hR => by
    have hlt : j < ps.length := by omega
    obtain ⟨n, hn⟩ := hps _ (List.getElem_mem hlt)
    refine Ev.step (fun k => by rw [spec_brNear.l1]) ?_
    simp only [List.length_map, if_pos (show ((j : Int) < (ps.length : Int)) by omega), if_pos (show (0 : Int) ≤ (j : Int) by omega), rdOf_get ps j hlt]
    refine Ev.bind (at_ev back _ _ _ hn h8) ?_
    refine near2_ev t n back bl b1 b2 (ps.map bs) _ j (by omega) R ts (by omega) ?_ ts.length 0 rfl (Nat.zero_le _) (by simp)
    refine near1_ev t h8 back bl b1 b2 ps hps hpl hb2 R m (j + 1) (insT n ts) (by omega) (by omega) (by rw [insT_length]; omega) ?_
    rw [List.drop_eq_getElem_cons hlt, List.filterMap_cons_some hn, List.foldl_cons] at hR
    exact hR

theorem near_ev (t : T) (h8 : t.carets ≤ 8) : Ev (fun k => spec_brNear.f k t.text) (t.nbS.map T.text) := by
  refine Ev.congr (fun k => by rw [spec_brNear.f, Option.bind_some]) ?_
  have hf : ∀ p ∈ t.turns false, ∃ n, t.turn false p = some n := fun p hp => T.turns_some hp
  have ht : ∀ p ∈ t.turns true, ∃ n, t.turn true p = some n := fun p hp => T.turns_some hp
  have lf := T.turns_le false t
  have lt := T.turns_le true t
  refine Ev.step (fun k => by rw [spec_brNear.l0]) ?_
  simp only [show (([false, true] : List Bool).length : Int) = 2 from rfl, if_pos (show (0 : Int) < 2 by decide), if_pos (show (0 : Int) ≤ 0 by decide), show rdOf false ([false, true] : List Bool) 0 = false from rfl]
  refine Ev.bind (turns_ev false t h8) ?_
  simp only [List.length_map]
  refine near1_ev t h8 false _ _ 0 _ hf (by omega) (by omega) _ _ 0 [] rfl (Nat.zero_le _) (by simp) ?_
  refine Ev.step (fun k => by rw [spec_brNear.l0]) ?_
  simp only [show (([false, true] : List Bool).length : Int) = 2 from rfl, show ((0 + 1 : Nat) : Int) = 1 from rfl, if_pos (show (1 : Int) < 2 by decide), if_pos (show (0 : Int) ≤ 1 by decide), show rdOf false ([false, true] : List Bool) 1 = true from rfl]
  refine Ev.bind (turns_ev true t h8) ?_
  simp only [List.length_map]
  refine near1_ev t h8 true _ _ 1 _ ht (by omega) (by omega) _ _ 0 _ rfl (Nat.zero_le _) ?_ ?_
  · have := T.nbs_le false t
    have e := (insT_fold_perm (t.nbs false) []).length_eq
    simp only [List.drop_zero]
    simp only [T.nbs] at e this
    rw [e]
    simp only [List.length_append, List.length_nil]
    omega
  · refine Ev.step (fun k => by rw [spec_brNear.l0]) ?_
    simp only [show ((1 + 1 : Nat) : Int) = 2 from rfl, if_neg (show ¬ ((2 : Int) < 2) by decide), List.drop_zero]
    rw [T.nbS, T.nb, List.foldl_append]
    exact Ev.now _

theorem has_l0 (b : T) (ts : List T) (hl : ts.length ≤ 1000000) : ∀ (m i : Nat), ts.length - i = m → i ≤ ts.length →
    Ev (fun k => spec_brHas.l0 k b.text (ts.map T.text) (ts.length : Int) (i : Int)) ((ts.drop i).any fun x => decide (x = b))
  | 0, i, hm, hi => by
    have : i = ts.length := by omega
    subst this
    refine Ev.step (fun k => by rw [spec_brHas.l0]) ?_
    simp only [if_neg (show ¬ ((ts.length : Int) < (ts.length : Int)) by omega)]
    simpa using Ev.now _
  | m + 1, i, hm, hi => by
    have hlt : i < ts.length := by omega
    refine Ev.step (fun k => by rw [spec_brHas.l0]) ?_
    simp only [List.length_map, if_pos (show ((i : Int) < (ts.length : Int)) by omega), if_pos (show (0 : Int) ≤ (i : Int) by omega), rd_texts ts i hlt, text_bs, bs_toList, w64n i (by omega)]
    rw [List.drop_eq_getElem_cons hlt, List.any_cons]
    by_cases he : ts[i] = b
    · simp only [he, if_true, decide_true, Bool.true_or]
      exact Ev.now _
    · simp only [if_neg (show ¬ ((ts[i]).enc = b.enc) from fun e => he (enc_inj e)), decide_eq_false he, Bool.false_or]
      simpa only [text_bs] using has_l0 b ts hl m (i + 1) (by omega) (by omega)

theorem has_ev (b : T) (ts : List T) (hl : ts.length ≤ 1000000) : Ev (fun k => spec_brHas.f k (ts.map T.text) b.text) (ts.any fun x => decide (x = b)) := by
  have := has_l0 b ts hl _ 0 rfl (Nat.zero_le _)
  simpa [spec_brHas.f] using this

end Go.Proofs.Ytceabidnjlpkeaa

namespace Go.Proofs.Ytceabidnjlpkeaa
open Go.RowKit Go.Proofs.YtceabidnjlpkeaaW.PrintWords Go.Proofs.Ytceabidnjlpkeaa.PFnExactRotationDistance
set_option linter.unusedVariables false
set_option linter.unusedSimpArgs false

/-- The trees of numbered trees, as texts. -/
def keysB (L : List (T × Nat)) : List ByteArray := (L.map (·.1)).map T.text
theorem keysB_length (L : List (T × Nat)) : (keysB L).length = L.length := by simp [keysB]
theorem keysB_has (L : List (T × Nat)) (x : T) : ((L.map (·.1)).any fun y => decide (y = x)) = hasL L x := by
  simp [hasL, List.any_map, Function.comp_def]

theorem rot2_ev (n far : Nat) (hn : n ≤ 5) (b : T) (last : List ByteArray) (steps q1 : Int) (i : Nat) (hi : i ≤ 1000000) (R : Int × Bool) (ns : List T) (hnc : ∀ x ∈ ns, x.carets = n) (hnl : ns.length ≤ 1000000) :
    ∀ (m j : Nat) (L : List (T × Nat)) (nxt : List T), ns.length - j = m → j ≤ ns.length → LN n L → nxt.length ≤ L.length →
    Ev (fun k => spec_RotationDistance.l1 k b.text (keysB ((ns.drop j).foldl (visit far) (L, nxt)).1) steps (((ns.drop j).foldl (visit far) (L, nxt)).2.map T.text) last q1 ((i + 1 : Nat) : Int)) R →
    Ev (fun k => spec_RotationDistance.l2 k b.text (keysB L) steps (nxt.map T.text) last q1 (i : Int) (ns.map T.text) (ns.length : Int) (j : Int)) R
  | 0, j, L, nxt, hm, hj, hL, hlen, hR => by
    have : j = ns.length := by omega
    subst this
    refine Ev.step (fun k => by rw [spec_RotationDistance.l2]) ?_
    simp only [if_neg (show ¬ ((ns.length : Int) < (ns.length : Int)) by omega), w64n i (by omega)]
    simpa using hR
  | m + 1, j, L, nxt, hm, hj, hL, hlen, hR => by
    have hlt : j < ns.length := by omega
    have h42 := hL.le hn
    rw [List.drop_eq_getElem_cons hlt, List.foldl_cons] at hR
    have hc := hnc _ (List.getElem_mem hlt)
    refine Ev.step (fun k => by rw [spec_RotationDistance.l2]) ?_
    simp only [List.length_map, if_pos (show ((j : Int) < (ns.length : Int)) by omega), if_pos (show (0 : Int) ≤ (j : Int) by omega), rd_texts ns j hlt]
    have hh := has_ev ns[j] (L.map (·.1)) (by simp; omega)
    rw [keysB_has] at hh
    refine Ev.bind hh ?_
    by_cases hb : hasL L ns[j] = true
    · have e : visit far (L, nxt) ns[j] = (L, nxt) := by unfold visit; rw [if_pos hb]
      rw [e] at hR
      simp only [if_pos hb, w64n j (by omega)]
      exact rot2_ev n far hn b last steps q1 i hi R ns hnc hnl m (j + 1) L nxt (by omega) (by omega) hL hlen hR
    · have e : visit far (L, nxt) ns[j] = (L ++ [(ns[j], far + 1)], nxt ++ [ns[j]]) := by unfold visit; rw [if_neg hb]
      have hL' : LN n (visit far (L, nxt) ns[j]).1 := hL.visit (s := (L, nxt)) hc
      rw [e] at hR hL'
      simp only [if_neg hb, w64n j (by omega), keysB_length, if_pos (show L.length < 8796093022208 by omega), if_pos (show nxt.length < 8796093022208 by omega)]
      have := rot2_ev n far hn b last steps q1 i hi R ns hnc hnl m (j + 1) _ _ (by omega) (by omega) hL' (by simp; omega) hR
      simpa [keysB] using this

theorem rot1_ev (n far : Nat) (hn : n ≤ 5) (b : T) (steps : Nat) (hs : steps ≤ 1000000) (R : Int × Bool) (last : List T) (hlc : ∀ x ∈ last, x.carets = n) (hll : last.length ≤ 1000000) :
    ∀ (m i : Nat) (L : List (T × Nat)) (nxt : List T), last.length - i = m → i ≤ last.length → LN n L → nxt.length ≤ L.length →
    Ev (fun k => spec_RotationDistance.l0 k b.text (keysB (lev far (last.drop i) (L, nxt)).1) ((lev far (last.drop i) (L, nxt)).2.map T.text) ((steps + 1 : Nat) : Int)) R →
    Ev (fun k => spec_RotationDistance.l1 k b.text (keysB L) (steps : Int) (nxt.map T.text) (last.map T.text) (last.length : Int) (i : Int)) R
  | 0, i, L, nxt, hm, hi, hL, hlen, hR => by
    have : i = last.length := by omega
    subst this
    refine Ev.step (fun k => by rw [spec_RotationDistance.l1]) ?_
    simp only [if_neg (show ¬ ((last.length : Int) < (last.length : Int)) by omega), w64n steps (by omega)]
    simpa [lev] using hR
  | m + 1, i, L, nxt, hm, hi, hL, hlen, hR => by
    have hlt : i < last.length := by omega
    have hc := hlc _ (List.getElem_mem hlt)
    rw [List.drop_eq_getElem_cons hlt] at hR
    refine Ev.step (fun k => by rw [spec_RotationDistance.l1]) ?_
    simp only [List.length_map, if_pos (show ((i : Int) < (last.length : Int)) by omega), if_pos (show (0 : Int) ≤ (i : Int) by omega), rd_texts last i hlt]
    refine Ev.bind (near_ev last[i] (by omega)) ?_
    simp only [List.length_map]
    have hnc : ∀ x ∈ (last[i]).nbS, x.carets = n := fun x hx => (nbS_carets hx).trans hc
    have hnl : (last[i]).nbS.length ≤ 1000000 := by rw [T.nbS_length]; have := T.nb_le last[i]; omega
    have K := Kept.visits n far (last[i]).nbS (L, nxt) hnc
    refine rot2_ev n far hn b _ _ _ i (by omega) R (last[i]).nbS hnc hnl _ 0 L nxt rfl (Nat.zero_le _) hL hlen ?_
    rw [List.drop_zero]
    exact rot1_ev n far hn b steps hs R last hlc hll m (i + 1) _ _ (by omega) (by omega) (K.ln hL) (by have h1 := K.len; simp only at h1; omega) hR

theorem rot0_ev (n : Nat) (hn : n ≤ 5) (b : T) (res : List (T × Nat)) : ∀ (k : Nat) (steps : Nat) (L : List (T × Nat)) (last : List T), steps + k ≤ 100000 → LN n L → last.length ≤ L.length →
    (∀ x ∈ last, x.carets = n ∧ hasL L x = true ∧ lookL L x = steps) → (hasL L b = true → b ∈ last) → bfsN k L last = some res →
    Ev (fun r => spec_RotationDistance.l0 r b.text (keysB L) (last.map T.text) (steps : Int)) ((lookL res b : Int), hasL res b) := by
  intro k
  induction k using Nat.strongRecOn with
  | _ k ih =>
  intro steps L last hk hL hll hlast hb hbfs
  have h42 := hL.le hn
  refine Ev.step (fun k => by rw [spec_RotationDistance.l0]) ?_
  simp only [List.length_map]
  cases last with
  | nil =>
    have : L = res := by cases k <;> simpa [bfsN] using hbfs
    subst this
    have hno : hasL L b = false := by
      cases h : hasL L b with
      | false => rfl
      | true => exact absurd (hb h) (by simp)
    have hlk : lookL L b = 0 := by
      unfold lookL
      rw [List.find?_eq_none.2 (fun p hp => ?_)]
      · rfl
      · intro hp2
        have : hasL L b = true := by unfold hasL; exact List.any_eq_true.2 ⟨p, hp, hp2⟩
        rw [hno] at this
        cases this
    simp only [List.length_nil, if_neg (show ¬ (((0 : Nat) : Int) > 0) by decide), hno, hlk]
    exact Ev.now _
  | cons x q =>
    have hpos : (((x :: q).length : Nat) : Int) > 0 := by simp only [List.length_cons]; omega
    simp only [if_pos hpos]
    refine Ev.bind (has_ev b (x :: q) (by omega)) ?_
    by_cases hm : b ∈ x :: q
    · have ha : ((x :: q).any fun y => decide (y = b)) = true := List.any_eq_true.2 ⟨b, hm, by simp⟩
      have hbl := hlast b hm
      have := bfs_keeps n k L (x :: q) res (fun t ht => (hlast t ht).1) hL hbfs b hbl.2.1
      rw [ha, this.1, this.2, hbl.2.2]
      simp only [if_true]
      exact Ev.now _
    · have ha : ((x :: q).any fun y => decide (y = b)) = false := by
        rw [List.any_eq_false]
        intro y hy hd
        have : y = b := by simpa using hd
        exact hm (this ▸ hy)
      have hnb : hasL L b ≠ true := fun h => hm (hb h)
      have hlc : ∀ y ∈ x :: q, y.carets = n := fun y hy => (hlast y hy).1
      have K := Kept.lev n steps (x :: q) (L, []) hlc
      obtain ⟨k', hk', hr⟩ := lev_bfs n steps res (x :: q) k L [] hlast (by simpa using hbfs)
      have hk2 : k' < k := by simp only [List.length_cons] at hk'; omega
      simp only [ha, Bool.false_eq_true, if_false]
      have := rot1_ev n steps hn b steps (by omega) ((lookL res b : Int), hasL res b) (x :: q) hlc (by omega) _ 0 L [] rfl (Nat.zero_le _) hL (Nat.zero_le _) ?_
      · simpa using this
      · rw [List.drop_zero]
        refine ih k' hk2 (steps + 1) _ _ (by omega) (K.ln hL) (by have h1 := K.len; simp only [List.length_nil] at h1; omega) ?_ ?_ hr
        · intro t ht
          rcases K.new t ht with h1 | h1
          · simp at h1
          · obtain ⟨p, hp, he⟩ := List.mem_map.1 (hasL_mem.1 h1.1)
            subst he
            exact ⟨(K.ln hL).2 p hp, h1.1, h1.2⟩
        · intro h
          rcases K.from_ b h with h1 | h1
          · exact absurd h1 hnb
          · exact h1

/-- What both sides return. -/
def rdist (s t : ByteArray) : Int × Bool :=
  match pairB s t with
  | none => (0, false)
  | some (a, b) => if a.carets ≤ 5 then match bfsN 42 [(a, 0)] [a] with
    | some res => ((lookL res b : Int), hasL res b)
    | none => (0, false)
    else (0, false)

theorem start_total (a : T) (h : a.carets ≤ 5) : ∃ res, bfsN 42 [(a, 0)] [a] = some res :=
  bfs_total a.carets h 42 [(a, 0)] [a] ⟨by simp, by simp⟩ (by simp) (by simp)

theorem rotdist_ev (s t : ByteArray) (hs : s.size ≤ 2000000) (ht : t.size ≤ 2000000) : Ev (fun k => spec_RotationDistance.f k s t) (rdist s t) := by
  refine Ev.congr (fun k => by rw [spec_RotationDistance.f]) ?_
  refine Ev.bind (brBoth_ev s t hs ht) ?_
  cases hp : pairB s t with
  | none =>
    simp only [Option.isSome_none, Bool.false_eq_true, if_false, rdist, hp]
    refine Ev.step (fun k => by rw [spec_RotationDistance.j0]) ?_
    exact Ev.now _
  | some p =>
    obtain ⟨a, b⟩ := p
    obtain ⟨rfl, rfl, hc⟩ := pairB_some hp
    simp only at hc
    have ha8 : a.carets ≤ 8 := by
      have := T.size_text a
      unfold pairB at hp
      split at hp
      · rename_i a' b' ha hb
        split at hp
        · injection hp with hp
          injection hp with h1 h2
          subst h1
          exact parseB_carets ha
        · cases hp
      · cases hp
    simp only [Option.isSome_some, if_true]
    refine Ev.bind (carets_text a (by omega)) ?_
    refine Ev.step (fun k => by rw [spec_RotationDistance.j0]) ?_
    by_cases h5 : a.carets ≤ 5
    · obtain ⟨res, hr⟩ := start_total a h5
      simp only [rdist, hp, if_pos h5, hr, show decide ((a.carets : Int) > 5) = false by simp; omega, Bool.false_eq_true, if_false]
      have := rot0_ev a.carets h5 b res 42 0 [(a, 0)] [a] (by omega) ⟨by simp, by simp⟩ (by simp) (by simp [hasL, lookL]) (by simp [hasL]; exact fun h => h.symm) hr
      simpa [keysB] using this
    · simp only [rdist, hp, if_neg h5, show decide ((a.carets : Int) > 5) = true by simp; omega, if_true]
      exact Ev.now _

set_option maxHeartbeats 6400000 in
theorem rotdist_any (s t : ByteArray) (w : World) (hs : s.size ≤ 2000000) (ht : t.size ≤ 2000000) :
    Calls Try.prog 14 #[.string s, .string t] w fun e w' => e = .returned (.tuple #[.int .i64 (rdist s t).1, .bool (rdist s t).2]) ∧ Below w.heap.size w w' := by
  cases hp : pairB s t with
  | none =>
    have e : rdist s t = (0, false) := by simp only [rdist, hp]
    rw [e]
    exact rotdist_bad s t w (by omega) (by omega) hp
  | some p =>
    obtain ⟨a, b⟩ := p
    obtain ⟨rfl, rfl, hc⟩ := pairB_some hp
    simp only at hc
    by_cases h5 : a.carets ≤ 5
    · obtain ⟨res, hr⟩ := start_total a h5
      have e : rdist a.text b.text = ((lookL res b : Int), hasL res b) := by simp only [rdist, hp, if_pos h5, hr]
      simp only at hs ht ⊢
      rw [e]
      exact rotdist_ok a b w h5 hc 42 (by omega) res hr
    · have e : rdist a.text b.text = (0, false) := by simp only [rdist, hp, if_neg h5]
      have ha8 : a.carets ≤ 8 := by
        unfold pairB at hp
        split at hp
        · rename_i a' b' ha hb
          split at hp
          · injection hp with hp
            injection hp with h1 h2
            subst h1
            exact parseB_carets ha
          · cases hp
        · cases hp
      simp only at hs ht ⊢
      rw [e]
      exact rotdist_big a b w (by omega) ha8 hc

end Go.Proofs.Ytceabidnjlpkeaa

namespace Go.Proofs.Ytceabidnjlpkeaa
open Go.RowKit Go.Proofs.YtceabidnjlpkeaaW.PrintWords Go.Proofs.Ytceabidnjlpkeaa.PFnExactRotationDistance
set_option linter.unusedVariables false
set_option linter.unusedSimpArgs false

set_option maxHeartbeats 6400000 in
set_option maxRecDepth 1000000 in
theorem law_rotdist (a0 a1 : ByteArray) (w : World) (h0 : a0.size ≤ 140737488351232) (h1 : a1.size ≤ 140737488351232) :
    Calls Try.prog 4 #[.string a0, .string a1] w fun e w' => e = .returned (.bool true) ∧ Below w.heap.size w w' := by
  by_cases b0 : a0.size ≤ 1048576
  · have c0 : decide ((1048576 : Int) < (a0.size : Int)) = false := by simp; omega
    by_cases b1 : a1.size ≤ 1048576
    · have c1 : decide ((1048576 : Int) < (a1.size : Int)) = false := by simp; omega
      obtain ⟨k, hk⟩ := (rotdist_ev a0 a1 (by omega) (by omega)).rounds
      have C1 := fun w => Lib.hid (spec_RotationDistance.calls k a0 a1 (rdist a0 a1).1 (rdist a0 a1).2 w hk)
      have C2 := fun w => Lib.hid (rotdist_any a0 a1 w (by omega) (by omega))
      generalize (rdist a0 a1).1 = r1 at C1 C2
      generalize (rdist a0 a1).2 = r2 at C1 C2
      clear hk
      have hr1 : decide (r1 = r1) = true := by simp
      go_enter Try.func4, Try.ntmps4
      go_wp2_with fail
      refine (C1 _).out.mono ?_
      rintro e w1 ⟨rfl, hb1⟩
      go_wp2_with fail
      refine (C2 _).out.mono ?_
      rintro e w2 ⟨rfl, hb2⟩
      cases r2 <;> go_wp2_with fail
      all_goals
        go_ret
        exact ⟨rfl, hb1.trans (hb2.mono hb1.size)⟩
    · have c1 : decide ((1048576 : Int) < (a1.size : Int)) = true := by simp; omega
      go_enter Try.func4, Try.ntmps4
      go_wp2_with fail
      go_ret
      exact ⟨rfl, Below.refl _ _⟩
  · have c0 : decide ((1048576 : Int) < (a0.size : Int)) = true := by simp; omega
    go_enter Try.func4, Try.ntmps4
    go_wp2_with fail
    go_ret
    exact ⟨rfl, Below.refl _ _⟩

end Go.Proofs.Ytceabidnjlpkeaa

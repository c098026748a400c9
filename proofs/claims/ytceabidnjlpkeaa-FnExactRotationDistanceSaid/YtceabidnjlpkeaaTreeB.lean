/- The contracts of read, parse and of pairs (pairOf, inverse, plain), for all texts. -/
import Derived.Test.YtceabidnjlpkeaaTreeA
namespace Go.Proofs.Ytceabidnjlpkeaa
open Go.RowKit Go.Proofs.YtceabidnjlpkeaaW.PrintWords
set_option linter.unusedVariables false
set_option linter.unusedSimpArgs false

/-- What read tells. -/
def ReadR (w : World) (r : Option (T × List UInt8)) (e : Ending) (w' : World) : Prop :=
  Below w.heap.size w w' ∧ match r with
    | none => e = .returned (.tuple #[.pointer none, .string ⟨#[]⟩, .bool false])
    | some (t, rest) => ∃ v, PT w' t v ∧ e = .returned (.tuple #[v, .string ⟨rest.toArray⟩, .bool true])

theorem ReadR.no (w w' : World) (h : Below w.heap.size w w') : ReadR w none (.returned (.tuple #[.pointer none, .string ⟨#[]⟩, .bool false])) w' := ⟨h, rfl⟩



theorem readL_length (n : Nat) : ∀ (s : List UInt8) (t : T) (rest : List UInt8), readL n s = some (t, rest) → rest.length < s.length := by
  induction n with
  | zero => intro s t rest h; simp [readL] at h
  | succ n ih =>
    intro s t rest h
    cases s with
    | nil => simp [readL] at h
    | cons c s =>
      simp only [readL] at h
      split at h
      · simp only [Option.some.injEq, Prod.mk.injEq] at h
        obtain ⟨_, rfl⟩ := h
        simp
      · split at h
        · split at h
          · cases h
          · rename_i l r1 h1
            split at h
            · cases h
            · cases h
            · rename_i r d more h2
              split at h
              · simp only [Option.some.injEq, Prod.mk.injEq] at h
                obtain ⟨_, rfl⟩ := h
                have a1 := ih _ _ _ h1
                have a2 := ih _ _ _ h2
                simp at a2 ⊢
                omega
              · cases h
        · cases h

theorem u8_eq {c : UInt8} {k : Nat} (h : c.toNat = k) : ((c.toNat : Int) == k) = true := by simp [h]
theorem u8_ne {c : UInt8} {k : Nat} (h : c.toNat ≠ k) : ((c.toNat : Int) == k) = false := by simp; omega

set_option maxHeartbeats 1600000 in
set_option maxRecDepth 1000000 in
theorem read_any (n : Nat) : ∀ (s : List UInt8) (w : World), s.length < n → s.length ≤ 100000 →
    Calls Try.prog 84 #[.string ⟨s.toArray⟩] w (ReadR w (readL n s)) := by
  induction n with
  | zero => intro s w h; omega
  | succ n ih =>
    intro s w hn hs
    cases s with
    | nil =>
      go_enter Try.func84, Try.ntmps84
      go_wp2
      go_ret3
      exact ReadR.no _ _ (Below.refl _ _)
    | cons c s =>
      simp only [List.length_cons] at hn hs
      have ih := Lib.hid ih
      have hidx : ∀ h, (ByteArray.mk (c :: s).toArray)[0]'h = c := fun _ => rfl
      by_cases c1 : c.toNat = 46
      · have t1 : ((c.toNat : Int) == 46) = true := u8_eq c1
        have hc : c = 46 := by apply UInt8.toNat_inj.1; simpa using c1
        subst hc
        have ex1 : (ByteArray.mk (46 :: s).toArray).extract 1 (s.length + 1) = ⟨s.toArray⟩ := by
          apply ByteArray.ext
          simp [ByteArray.data_extract]
        clear c1
        go_enter Try.func84, Try.ntmps84
        go_wp2
        go_quiet (fail)
        go_wp2
        go_ret3
        exact ⟨pw_below_drewN (Below.refl _ _) _, .pointer none, rfl, rfl⟩
      · have t1 : ((c.toNat : Int) == 46) = false := u8_ne c1
        have hc : c ≠ 46 := by rintro rfl; exact c1 rfl
        by_cases c2 : c.toNat = 40
        · have t2 : ((c.toNat : Int) != 40) = false := by simp [c2]
          have hc2 : c = 40 := by apply UInt8.toNat_inj.1; simpa using c2
          subst hc2
          have ex1 : (ByteArray.mk (40 :: s).toArray).extract 1 (s.length + 1) = ⟨s.toArray⟩ := by
            apply ByteArray.ext
            simp [ByteArray.data_extract]
          have C1 := ih.out s w (by omega) (by omega)
          rcases hr1 : readL n s with _ | ⟨l, rest⟩
          · rw [hr1] at C1
            have hf : readL (n + 1) (40 :: s) = none := by simp [readL, hr1]
            have HF := Lib.hid hf
            have C1 := Lib.hid C1
            clear hc hf hr1 c1 c2
            go_enter Try.func84, Try.ntmps84
            go_wp2_with fail
            refine C1.out.mono ?_
            rintro e w' ⟨hb, rfl⟩
            go_wp2
            go_ret3
            rw [HF.out]
            exact ReadR.no _ _ hb
          · rw [hr1] at C1
            have hl1 := readL_length _ _ _ _ hr1
            rcases hr2 : readL n rest with _ | ⟨r, more⟩
            · have hf : readL (n + 1) (40 :: s) = none := by simp [readL, hr1, hr2]
              have HF := Lib.hid hf
              have C1 := Lib.hid C1
              have C2 := fun w => Lib.hid (ih.out rest w (by omega) (by omega))
              simp only [hr2] at C2
              clear hc hf hr1 hr2 c1 c2
              go_enter Try.func84, Try.ntmps84
              go_wp2_with fail
              refine C1.out.mono ?_
              rintro e w1 ⟨hb, v1, hp1, rfl⟩
              go_wp2_with fail
              refine (C2 _).out.mono ?_
              rintro e w2 ⟨hb2, rfl⟩
              go_wp2
              go_ret3
              rw [HF.out]
              exact ReadR.no _ _ (hb.trans (hb2.mono hb.size))
            · have C1 := Lib.hid C1
              have C2 := fun w => Lib.hid (ih.out rest w (by omega) (by omega))
              simp only [hr2] at C2
              cases more with
              | nil =>
                have hf : readL (n + 1) (40 :: s) = none := by simp [readL, hr1, hr2]
                have HF := Lib.hid hf
                clear hc hf hr1 hr2 c1 c2
                go_enter Try.func84, Try.ntmps84
                go_wp2_with fail
                refine C1.out.mono ?_
                rintro e w1 ⟨hb, v1, hp1, rfl⟩
                go_wp2_with fail
                refine (C2 _).out.mono ?_
                rintro e w2 ⟨hb2, v2, hp2, rfl⟩
                go_wp2
                go_ret3
                rw [HF.out]
                exact ReadR.no _ _ (hb.trans (hb2.mono hb.size))
              | cons d more =>
                have hidx2 : ∀ h, (ByteArray.mk (d :: more).toArray)[0]'h = d := fun _ => rfl
                by_cases c3 : d.toNat = 41
                · have t3 : ((d.toNat : Int) != 41) = false := by simp [c3]
                  have hd : d = 41 := by apply UInt8.toNat_inj.1; simpa using c3
                  have hf : readL (n + 1) (40 :: s) = some (.node l r, more) := by simp [readL, hr1, hr2, hd]
                  have HF := Lib.hid hf
                  have ex2 : (ByteArray.mk (d :: more).toArray).extract 1 (more.length + 1) = ⟨more.toArray⟩ := by
                    apply ByteArray.ext
                    simp [ByteArray.data_extract]
                  clear hc hf hr1 hr2 c1 c2 c3 hd
                  go_enter Try.func84, Try.ntmps84
                  go_wp2_with fail
                  refine C1.out.mono ?_
                  rintro e w1 ⟨hb, v1, hp1, rfl⟩
                  go_wp2_with fail
                  refine (C2 _).out.mono ?_
                  rintro e w2 ⟨hb2, v2, hp2, rfl⟩
                  obtain ⟨A1, rfl⟩ := hp1.ptr
                  obtain ⟨A2, rfl⟩ := hp2.ptr
                  go_wp2
                  go_region
                  go_wp2
                  go_ret3
                  rw [HF.out]
                  exact ⟨((hb.trans (hb2.mono hb.size)).alloc (Nat.le_trans hb.size hb2.size) _).drew, .pointer (some ⟨w2.heap.size, 0, none⟩), (PT.new hp1 hp2 hb2).drew, rfl⟩
                · have t3 : ((d.toNat : Int) != 41) = true := by simp [bne]; omega
                  have hd : d ≠ 41 := by rintro rfl; exact c3 rfl
                  have hf : readL (n + 1) (40 :: s) = none := by simp [readL, hr1, hr2, hd]
                  have HF := Lib.hid hf
                  clear hc hf hr1 hr2 c1 c2 c3 hd
                  go_enter Try.func84, Try.ntmps84
                  go_wp2_with fail
                  refine C1.out.mono ?_
                  rintro e w1 ⟨hb, v1, hp1, rfl⟩
                  go_wp2_with fail
                  refine (C2 _).out.mono ?_
                  rintro e w2 ⟨hb2, v2, hp2, rfl⟩
                  go_wp2
                  go_ret3
                  rw [HF.out]
                  exact ReadR.no _ _ (hb.trans (hb2.mono hb.size))
        · have t2 : ((c.toNat : Int) != 40) = true := by simp [bne]; omega
          have hf : readL (n + 1) (c :: s) = none := by
            simp only [readL, if_neg hc]
            rw [if_neg]
            rintro rfl
            exact c2 rfl
          have HF := Lib.hid hf
          clear hc c1 c2 hf
          go_enter Try.func84, Try.ntmps84
          go_wp2
          go_ret3
          rw [HF.out]
          exact ReadR.no _ _ (Below.refl _ _)

end Go.Proofs.Ytceabidnjlpkeaa

namespace Go.Proofs.Ytceabidnjlpkeaa
open Go.RowKit Go.Proofs.YtceabidnjlpkeaaW.PrintWords
set_option linter.unusedVariables false
set_option linter.unusedSimpArgs false

/-- The tree with a text, if it has not too many carets. -/
def parseL (s : List UInt8) : Option T :=
  if 25 < s.length then none
  else match readL (s.length + 1) s with
    | some (t, []) => if t.carets ≤ 8 then some t else none
    | _ => none

def ParseR (w : World) (r : Option T) (e : Ending) (w' : World) : Prop :=
  Below w.heap.size w w' ∧ match r with
    | none => e = .returned (.tuple #[.pointer none, .bool false])
    | some t => ∃ v, PT w' t v ∧ e = .returned (.tuple #[v, .bool true])

theorem readL_size (n : Nat) : ∀ (s : List UInt8) (t : T) (rest : List UInt8), readL n s = some (t, rest) → s = t.enc ++ rest := by
  induction n with
  | zero => intro s t rest h; simp [readL] at h
  | succ n ih =>
    intro s t rest h
    cases s with
    | nil => simp [readL] at h
    | cons c s =>
      simp only [readL] at h
      split at h
      · rename_i hc
        simp only [Option.some.injEq, Prod.mk.injEq] at h
        obtain ⟨rfl, rfl⟩ := h
        simp [T.enc, hc]
      · split at h
        · rename_i hc
          split at h
          · cases h
          · rename_i l r1 h1
            split at h
            · cases h
            · cases h
            · rename_i r d more h2
              split at h
              · rename_i hd
                simp only [Option.some.injEq, Prod.mk.injEq] at h
                obtain ⟨rfl, rfl⟩ := h
                rw [ih _ _ _ h1, ih _ _ _ h2, hc, hd]
                simp [T.enc]
              · cases h
        · cases h

set_option maxHeartbeats 3200000 in
set_option maxRecDepth 1000000 in
theorem parse_list (s : List UInt8) (w : World) (hs : s.length ≤ 4611686018427387904) : Calls Try.prog 61 #[.string ⟨s.toArray⟩] w (ParseR w (parseL s)) := by
  by_cases hl : 25 < s.length
  · have hfin : parseL s = none := by simp [parseL, hl]
    have HF := Lib.hid hfin
    have hl' : (25 : Int) < (s.length : Int) := by omega
    clear hfin hl
    go_enter Try.func61, Try.ntmps61
    go_wp2
    go_ret2
    rw [HF.out]
    exact ⟨Below.refl _ _, rfl⟩
  · have C1 := Lib.hid (read_any (s.length + 1) s w (by omega) (by omega))
    have hl' : (s.length : Int) ≤ 25 := by omega
    have hln : s.length ≤ 25 := by omega
    rcases hr : readL (s.length + 1) s with _ | ⟨t, rest⟩
    · have hfin : parseL s = none := by simp [parseL, hl, hr]
      have HF := Lib.hid hfin
      rw [hr] at C1
      clear hfin hl hr
      go_enter Try.func61, Try.ntmps61
      go_wp2_with fail
      refine C1.out.mono ?_
      rintro e w1 ⟨hb, rfl⟩
      go_wp2
      go_ret2
      rw [HF.out]
      exact ⟨hb, rfl⟩
    · have hsz := readL_size _ _ _ _ hr
      have hc8 : t.carets ≤ 8 := by
        have h1 := congrArg List.length hsz
        simp [T.enc_length] at h1
        omega
      rw [hr] at C1
      cases rest with
      | cons c rest =>
        have hfin : parseL s = none := by simp [parseL, hl, hr]
        have HF := Lib.hid hfin
        clear hfin hl hr hsz hc8
        go_enter Try.func61, Try.ntmps61
        go_wp2_with fail
        refine C1.out.mono ?_
        rintro e w1 ⟨hb, v, hp, rfl⟩
        obtain ⟨A, rfl⟩ := hp.ptr
        go_wp2
        go_ret2
        rw [HF.out]
        exact ⟨hb, rfl⟩
      | nil =>
        have hfin : parseL s = some t := by simp [parseL, hl, hr, hc8]
        have HF := Lib.hid hfin
        have h8' : (t.carets : Int) ≤ 8 := by omega
        have h80 : 0 ≤ (t.carets : Int) := by omega
        clear hfin hl hr hsz
        go_enter Try.func61, Try.ntmps61
        go_wp2_with fail
        refine C1.out.mono ?_
        rintro e w1 ⟨hb, v, hp, rfl⟩
        go_wp2_with fail
        refine (carets_any t _ _ hp (by omega)).mono ?_
        rintro e w' ⟨rfl, n, rfl⟩
        obtain ⟨A, rfl⟩ := hp.ptr
        go_wp2
        go_ret2
        rw [HF.out]
        exact ⟨pw_below_drewN hb n, _, hp.drewN n, rfl⟩

/-- The tree with a text. -/
def parseB (s : ByteArray) : Option T := parseL s.data.toList

theorem parse_any (s : ByteArray) (w : World) (hs : s.size ≤ 4611686018427387904) : Calls Try.prog 61 #[.string s] w (ParseR w (parseB s)) :=
  parse_list s.data.toList w (by simpa using hs)

/-- A pair of trees in memory, as a value. -/
def PP (w : World) (p : T × T) (v : Value) : Prop := ∃ a b, v = .agg #[a, b] ∧ PT w p.1 a ∧ PT w p.2 b

/-- The pair with two texts. -/
def pairB (s t : ByteArray) : Option (T × T) :=
  match parseB s, parseB t with
  | some a, some b => if a.carets = b.carets then some (a, b) else none
  | _, _ => none

def PairR (w : World) (r : Option (T × T)) (e : Ending) (w' : World) : Prop :=
  Below w.heap.size w w' ∧ match r with
    | none => ∃ p v, PP w' p v ∧ e = .returned (.tuple #[v, .bool false])
    | some p => ∃ v, PP w' p v ∧ e = .returned (.tuple #[v, .bool true])

end Go.Proofs.Ytceabidnjlpkeaa

namespace Go.Proofs.Ytceabidnjlpkeaa
open Go.RowKit Go.Proofs.YtceabidnjlpkeaaW.PrintWords
set_option linter.unusedVariables false
set_option linter.unusedSimpArgs false

theorem ParseR.shape {w w' : World} {r : Option T} {e : Ending} (h : ParseR w r e w') :
    ∃ t v, PT w' t v ∧ Below w.heap.size w w' ∧ e = .returned (.tuple #[v, .bool r.isSome]) ∧ (∀ t', r = some t' → t' = t) := by
  obtain ⟨hb, h⟩ := h
  cases r with
  | none => exact ⟨.nil, .pointer none, rfl, hb, h, by simp⟩
  | some t => obtain ⟨v, hp, he⟩ := h; exact ⟨t, v, hp, hb, he, by simp⟩

theorem parseB_carets {s : ByteArray} {t : T} (h : parseB s = some t) : t.carets ≤ 8 := by
  simp only [parseB, parseL] at h
  split at h
  · cases h
  · split at h
    · split at h
      · simp at h; subst h; assumption
      · cases h
    · cases h

set_option maxHeartbeats 3200000 in
set_option maxRecDepth 1000000 in
theorem pairOf_any (s t : ByteArray) (w : World) (hs : s.size ≤ 4611686018427387904) (ht : t.size ≤ 4611686018427387904) :
    Calls Try.prog 31 #[.agg #[.string s, .string t]] w (PairR w (pairB s t)) := by
  have C1 := fun w => Lib.hid (parse_any s w hs)
  have C2 := fun w => Lib.hid (parse_any t w ht)
  rcases h1 : parseB s with _ | a
  · have hfin : pairB s t = none := by simp [pairB, h1]
    have HF := Lib.hid hfin
    simp only [h1] at C1
    clear hfin h1 hs ht
    go_enter Try.func31, Try.ntmps31
    go_wp2_with fail
    refine (C1 _).out.mono ?_
    rintro e w1 ⟨hb1, rfl⟩
    obtain ⟨hc, hf⟩ := bcell hb1
    have hz : w.heap.size + 1 < w1.heap.size := by have := hb1.size; simp at this; omega
    go_wp2_with fail
    refine (C2 _).out.mono ?_
    intro e w2 hp2
    obtain ⟨t2, v2, hpt, hb2, rfl, _⟩ := hp2.shape
    obtain ⟨A2, rfl⟩ := hpt.ptr
    clear hp2
    clear hc hf hz
    have hb := hb1.trans (hb2.mono hb1.size)
    obtain ⟨hc, hf⟩ := bcell hb
    have hz : w.heap.size + 1 < w2.heap.size := by have := hb.size; simp at this; omega
    go_wp2_with fail
    rw [HF.out]
    have hg : Ty w2 (w.heap.size + 1) 54 := by simpa using (Ty.new (w.alloc (Obj.cells #[Value.string s, Value.string t] 29)) #[Value.pointer none, Value.pointer none] 54 (0, 0)).below hb
    refine bodyPost_ret (v := .tuple #[.agg #[.pointer none, .pointer A2], .bool false]) (by simp [results, Try.results31, go_sem, hc, hz]) rfl ⟨?_, (.nil, t2), _, ⟨_, _, rfl, (((show PT w2 .nil (.pointer none) from rfl).set hg (by decide) _ _).set (hg.setCell _ _) (by decide) _ _), ((hpt.set hg (by decide) _ _).set (hg.setCell _ _) (by decide) _ _)⟩, rfl⟩
    exact ((below_alloc (below_alloc (Below.refl w.heap.size w) _) _).trans (hb.mono (by simp; omega))).setCell (by simp) _ |>.setCell (by simp) _
  · simp only [h1] at C1
    have ha := parseB_carets h1
    have ha0 : 0 ≤ (a.carets : Int) := by omega
    have ha8 : (a.carets : Int) ≤ 8 := by omega
    rcases h2 : parseB t with _ | b
    · have hfin : pairB s t = none := by simp [pairB, h1, h2]
      have HF := Lib.hid hfin
      simp only [h2] at C2
      clear hfin h1 h2 hs ht
      go_enter Try.func31, Try.ntmps31
      go_wp2_with fail
      refine (C1 _).out.mono ?_
      rintro e w1 ⟨hb1, v1, hp1, rfl⟩
      obtain ⟨A1, rfl⟩ := hp1.ptr
      obtain ⟨hc, hf⟩ := bcell hb1
      have hz : w.heap.size + 1 < w1.heap.size := by have := hb1.size; simp at this; omega
      go_wp2_with fail
      refine (C2 _).out.mono ?_
      rintro e w2 ⟨hb2, rfl⟩
      clear hc hf hz
      have hb := hb1.trans (hb2.mono hb1.size)
      obtain ⟨hc, hf⟩ := bcell hb
      have hz : w.heap.size + 1 < w2.heap.size := by have := hb.size; simp at this; omega
      go_wp2_with fail
      rw [HF.out]
      have hg : Ty w2 (w.heap.size + 1) 54 := by simpa using (Ty.new (w.alloc (Obj.cells #[Value.string s, Value.string t] 29)) #[Value.pointer none, Value.pointer none] 54 (0, 0)).below hb
      refine bodyPost_ret (v := .tuple #[.agg #[.pointer A1, .pointer none], .bool false]) (by simp [results, Try.results31, go_sem, hc, hz]) rfl ⟨?_, (a, .nil), _, ⟨_, _, rfl, (((hp1.below hb2).set hg (by decide) _ _).set (hg.setCell _ _) (by decide) _ _), (((show PT w2 .nil (.pointer none) from rfl).set hg (by decide) _ _).set (hg.setCell _ _) (by decide) _ _)⟩, rfl⟩
      exact ((below_alloc (below_alloc (Below.refl w.heap.size w) _) _).trans (hb.mono (by simp; omega))).setCell (by simp) _ |>.setCell (by simp) _
    · simp only [h2] at C2
      have hbc := parseB_carets h2
      have hb0 : 0 ≤ (b.carets : Int) := by omega
      have hb8 : (b.carets : Int) ≤ 8 := by omega
      by_cases heq : a.carets = b.carets
      · have hfin : pairB s t = some (a, b) := by simp [pairB, h1, h2, heq]
        have HF := Lib.hid hfin
        have HE := Lib.hid (show ((a.carets : Int) == (b.carets : Int)) = true by simp [heq])
        have HE' := HE.out
        clear hfin h1 h2 hs ht heq
        go_enter Try.func31, Try.ntmps31
        go_wp2_with fail
        refine (C1 _).out.mono ?_
        rintro e w1 ⟨hb1, v1, hp1, rfl⟩
        obtain ⟨A1, rfl⟩ := hp1.ptr
        obtain ⟨hc, hf⟩ := bcell hb1
        have hz : w.heap.size + 1 < w1.heap.size := by have := hb1.size; simp at this; omega
        go_wp2_with fail
        refine (C2 _).out.mono ?_
        rintro e w2 ⟨hb2, v2, hpt, rfl⟩
        obtain ⟨A2, rfl⟩ := hpt.ptr
        clear hc hf hz
        have hb := hb1.trans (hb2.mono hb1.size)
        obtain ⟨hc, hf⟩ := bcell hb
        have hz : w.heap.size + 1 < w2.heap.size := by have := hb.size; simp at this; omega
        go_wp2_with fail
        refine (carets_any a _ _ (hp1.below hb2) (by omega)).mono ?_
        rintro e w' ⟨rfl, n1, rfl⟩
        go_wp2_with fail
        refine (carets_any b _ _ (hpt.drewN n1) (by omega)).mono ?_
        rintro e w' ⟨rfl, n2, rfl⟩
        go_wp2_with fail
        rw [HF.out]
        have hg : Ty w2 (w.heap.size + 1) 54 := by simpa using (Ty.new (w.alloc (Obj.cells #[Value.string s, Value.string t] 29)) #[Value.pointer none, Value.pointer none] 54 (0, 0)).below hb
        refine bodyPost_ret (v := .tuple #[.agg #[.pointer A1, .pointer A2], .bool true]) (by simp [results, Try.results31, go_sem, hc, hz, HE.out]) rfl ⟨?_, _, ⟨_, _, rfl, ((((hp1.below hb2).drewN _).set (hg.drewN _) (by decide) _ _).set ((hg.drewN _).setCell _ _) (by decide) _ _), (((hpt.drewN _).set (hg.drewN _) (by decide) _ _).set ((hg.drewN _).setCell _ _) (by decide) _ _)⟩, rfl⟩
        exact (pw_below_drewN ((below_alloc (below_alloc (Below.refl w.heap.size w) _) _).trans (hb.mono (by simp; omega))) _).setCell (by simp) _ |>.setCell (by simp) _
      · have hfin : pairB s t = none := by simp [pairB, h1, h2, heq]
        have HF := Lib.hid hfin
        have HE := Lib.hid (show ((a.carets : Int) == (b.carets : Int)) = false by simp; omega)
        have HE' := HE.out
        clear hfin h1 h2 hs ht heq
        go_enter Try.func31, Try.ntmps31
        go_wp2_with fail
        refine (C1 _).out.mono ?_
        rintro e w1 ⟨hb1, v1, hp1, rfl⟩
        obtain ⟨A1, rfl⟩ := hp1.ptr
        obtain ⟨hc, hf⟩ := bcell hb1
        have hz : w.heap.size + 1 < w1.heap.size := by have := hb1.size; simp at this; omega
        go_wp2_with fail
        refine (C2 _).out.mono ?_
        rintro e w2 ⟨hb2, v2, hpt, rfl⟩
        obtain ⟨A2, rfl⟩ := hpt.ptr
        clear hc hf hz
        have hb := hb1.trans (hb2.mono hb1.size)
        obtain ⟨hc, hf⟩ := bcell hb
        have hz : w.heap.size + 1 < w2.heap.size := by have := hb.size; simp at this; omega
        go_wp2_with fail
        refine (carets_any a _ _ (hp1.below hb2) (by omega)).mono ?_
        rintro e w' ⟨rfl, n1, rfl⟩
        go_wp2_with fail
        refine (carets_any b _ _ (hpt.drewN n1) (by omega)).mono ?_
        rintro e w' ⟨rfl, n2, rfl⟩
        go_wp2_with fail
        rw [HF.out]
        have hg : Ty w2 (w.heap.size + 1) 54 := by simpa using (Ty.new (w.alloc (Obj.cells #[Value.string s, Value.string t] 29)) #[Value.pointer none, Value.pointer none] 54 (0, 0)).below hb
        refine bodyPost_ret (v := .tuple #[.agg #[.pointer A1, .pointer A2], .bool false]) (by simp [results, Try.results31, go_sem, hc, hz, HE.out]) rfl ⟨?_, (a, b), _, ⟨_, _, rfl, ((((hp1.below hb2).drewN _).set (hg.drewN _) (by decide) _ _).set ((hg.drewN _).setCell _ _) (by decide) _ _), (((hpt.drewN _).set (hg.drewN _) (by decide) _ _).set ((hg.drewN _).setCell _ _) (by decide) _ _)⟩, rfl⟩
        exact (pw_below_drewN ((below_alloc (below_alloc (Below.refl w.heap.size w) _) _).trans (hb.mono (by simp; omega))) _).setCell (by simp) _ |>.setCell (by simp) _

end Go.Proofs.Ytceabidnjlpkeaa

namespace Go.Proofs.Ytceabidnjlpkeaa
open Go.RowKit Go.Proofs.YtceabidnjlpkeaaW.PrintWords
set_option linter.unusedVariables false
set_option linter.unusedSimpArgs false

/-- A pair of trees that a call makes. -/
def PairV (w : World) (p : T × T) (en : Ending) (w' : World) : Prop :=
  ∃ v0 : Value, en = .returned v0 ∧ PP w' p v0 ∧ Below w.heap.size w w'

theorem PP.below {w w1 : World} {p : T × T} {v : Value} (h : PP w p v) (hb : Below w.heap.size w w1) : PP w1 p v := by
  obtain ⟨a, b, rfl, ha, hb'⟩ := h
  exact ⟨a, b, rfl, ha.below hb, hb'.below hb⟩
theorem PP.drewN {w : World} {p : T × T} {v : Value} (h : PP w p v) (n : Nat) : PP (w.drewN n) p v := by
  obtain ⟨a, b, rfl, ha, hb'⟩ := h
  exact ⟨a, b, rfl, ha.drewN n, hb'.drewN n⟩

set_option maxHeartbeats 3200000 in
set_option maxRecDepth 1000000 in
theorem inverse_any (p : T × T) (v : Value) (w : World) (h : PP w p v) :
    Calls Try.prog 35 #[v] w (PairV w (p.2, p.1)) := by
  obtain ⟨a, b, rfl, ha, hb⟩ := h
  obtain ⟨A, rfl⟩ := ha.ptr
  obtain ⟨B, rfl⟩ := hb.ptr
  go_enter Try.func35, Try.ntmps35
  go_wp2_with fail
  exact bodyPost_ret (v := .agg #[.pointer B, .pointer A]) (by simp [results, Try.results35, go_sem]) rfl ⟨_, rfl, ⟨_, _, rfl, (hb.alloc _).alloc _, (ha.alloc _).alloc _⟩, below_alloc (below_alloc (Below.refl _ _) _) _⟩

set_option maxHeartbeats 3200000 in
set_option maxRecDepth 1000000 in
theorem plain_any (p : T × T) (v : Value) (w : World) (h : PP w p v) (h1 : p.1.carets ≤ 1000000) (h2 : p.2.carets ≤ 1000000) :
    Calls Try.prog 36 #[v] w fun e w' => e = .returned (.agg #[.string p.1.text, .string p.2.text]) ∧ Below w.heap.size w w' := by
  obtain ⟨a, b, rfl, ha, hb⟩ := h
  obtain ⟨A, rfl⟩ := ha.ptr
  obtain ⟨B, rfl⟩ := hb.ptr
  go_enter Try.func36, Try.ntmps36
  have C1 := fun w h => Lib.hid (text_any p.1 w (.pointer A) h (by omega))
  have C2 := fun w h => Lib.hid (text_any p.2 w (.pointer B) h (by omega))
  go_wp2_with fail
  go_region_held3 (fun w' => w'.cell? ⟨w.heap.size, 0, none⟩ = some (Value.pointer A) ∧ w'.cell? ⟨w.heap.size, 1, none⟩ = some (Value.pointer B)) (go_keep)
    (first
    | (go_at_call_of 42 (Value.pointer A); refine (C1 _ ?_).out.mono ?_; exact ((ha.alloc _).alloc _).drew; rintro e w2 ⟨rfl, n1, rfl⟩)
    | (go_at_call_of 42 (Value.pointer B); refine (C2 _ ?_).out.mono ?_; exact ((hb.alloc _).alloc _).drewN _; rintro e w2 ⟨rfl, n2, rfl⟩))
  go_wp2
  refine bodyPost_ret (v := .agg #[.string p.1.text, .string p.2.text]) (by simp [results, Try.results36, go_sem]) rfl ⟨rfl, ?_⟩
  exact ((pw_below_drewN (below_alloc (below_alloc (Below.refl w.heap.size w) _) _) _).setCell (by simp) _).setCell (by simp) _

end Go.Proofs.Ytceabidnjlpkeaa

/-
  THE ENGINE, part 26: functions without a body that the model stands in for; closed results laid into any heap.
-/
import Derived.Test.YtepchknpgeopfaaGreatDoorEng25
import Derived.Lib.Bytealg
set_option linter.unusedVariables false
set_option linter.unusedSimpArgs false
namespace Go.Proofs.YtepchknpgeopfaaGreatDoor.E
open Go

variable {P : Program}

/-- What the model says of a function without a body. -/
def ExtFn (P : Program) (f : FuncId) (e : Array Value → Sem Value) : Prop :=
  ∃ fn, P.funcs[f]? = some fn ∧ (fn.name == "runtime.NumGoroutine") = false ∧ fn.body.isNone = true ∧ Extern.findNext fn = none ∧ Extern.find fn = some e

theorem ExtFn.run {f : FuncId} {e : Array Value → Sem Value} (h : ExtFn P f e) {args : Array Value} {w w' : World} {v : Value} (hr : (e args).run P w = .ok v w') : (callFunc f args).run P w = .ok (.value v) w' := by
  obtain ⟨fn, h1, h2, h3, h4, h5⟩ := h
  simp only [callFunc, Sem.run_bind, run_program, Result.andThen_ok, h1, h2, Bool.false_eq_true, if_false, h3, if_true, h4, h5, mark, Sem.run]
  simp [hr]

/-! ### strings -/

def idxQ (c : Nat) : List UInt8 → Nat → Int
  | [], _ => -1
  | x :: xs, i => bif Nat.beq x.toNat c then (i : Int) else idxQ c xs (i + 1)

theorem beq8 (x c : UInt8) : Nat.beq x.toNat c.toNat = (x == c) := by
  by_cases h : x = c
  · subst h; simp
  · have h1 : Nat.beq x.toNat c.toNat = false := by
      cases hb : Nat.beq x.toNat c.toNat with
      | true => exact absurd (UInt8.toNat_inj.1 (Nat.eq_of_beq_eq_true hb)) h
      | false => rfl
    have h2 : (x == c) = false := by simpa using h
    rw [h1, h2]

theorem idxQ_eq (c : UInt8) : ∀ (l : List UInt8) (i : Nat), idxQ c.toNat l i = if Lib.indexByte l c == -1 then -1 else Lib.indexByte l c + i
  | [], i => by simp [idxQ, Lib.indexByte]
  | x :: xs, i => by
    have hg := Lib.indexByte_ge xs c
    simp only [idxQ, Lib.indexByte, beq8, idxQ_eq c xs (i + 1)]
    by_cases hxc : (x == c) = true
    · simp [hxc]
    · have hxc : (x == c) = false := by simpa using hxc
      simp only [hxc, cond_false, Bool.false_eq_true, if_false]
      by_cases h : Lib.indexByte xs c = -1
      · simp [h]
      · have h1 : (Lib.indexByte xs c == -1) = false := by simpa using h
        have h2 : (Lib.indexByte xs c + 1 == -1) = false := by
          have : Lib.indexByte xs c + 1 ≠ -1 := by omega
          simpa using this
        simp only [h1, Bool.false_eq_true, if_false, h2]
        omega

def indexByteP : List Value → M Value
  | [.string s, .int .u8 c] => M.pure (.int .i64 (idxQ c.toNat.toUInt8.toNat (bl s) 0))
  | _ => M.fail

def cntQ (c : Nat) : List UInt8 → Nat → Nat
  | [], n => n
  | x :: xs, n => bif Nat.beq x.toNat c then cntQ c xs (n + 1) else cntQ c xs n

theorem cntQ_eq (c : UInt8) : ∀ (l : List UInt8) (n : Nat), cntQ c.toNat l n = n + l.count c
  | [], n => by simp [cntQ]
  | x :: xs, n => by
    simp only [cntQ, beq8, List.count_cons]
    cases h : x == c with
    | true => simp only [cond_true, cntQ_eq c xs, if_true]; omega
    | false => simp only [cond_false, cntQ_eq c xs, Bool.false_eq_true, if_false]; omega

def countP : List Value → M Value
  | [.string s, .int .u8 c] => M.pure (.int .i64 (cntQ c.toNat.toUInt8.toNat (bl s) 0 : Nat))
  | _ => M.fail

theorem lrel1 {ρ : Emb} {x : Value} {xs : List Value} {c : Array Value} (h : LRel ρ (x :: xs) c.toList) : ∃ y ys, c.toList = y :: ys ∧ VRel ρ x y ∧ LRel ρ xs ys := by
  generalize c.toList = l at h
  cases h with
  | cons h t => exact ⟨_, _, rfl, h, t⟩

theorem callAt_indexByte {f : FuncId} (hf : ExtFn P f Extern.BytealgIndexByte.indexByte) {args : List Value} {H H' : AH} {v : Value} (h : indexByteP args H = some (v, H')) : CallAt P f args H v H' := by
  unfold indexByteP at h
  split at h
  · rename_i s c
    cases h
    refine .inr fun ρ w cargs hR hL => ?_
    obtain ⟨y, ys, e1, r1, hL⟩ := lrel1 hL
    cases r1
    cases hL with
    | cons r2 hL =>
      cases r2
      cases hL
      have e : cargs = #[.string s, .int .u8 c] := by apply Array.ext'; exact e1
      subst e
      refine ⟨w, _, ρ, hf.run (Lib.run_indexByteString s c w), hR, .refl _ _ _, ?_⟩
      have := idxQ_eq c.toNat.toUInt8 (bl s) 0
      rw [this]
      by_cases hh : Lib.indexByte (bl s) c.toNat.toUInt8 = -1
      · rw [show Lib.indexByte s.data.toList c.toNat.toUInt8 = -1 from hh]
        simp only [hh]
        exact .int _ _
      · have h1 : (Lib.indexByte (bl s) c.toNat.toUInt8 == -1) = false := by simpa using hh
        rw [h1]
        simp only [Bool.false_eq_true, if_false]
        have h2 : Lib.indexByte (bl s) c.toNat.toUInt8 + ((0 : Nat) : Int) = Lib.indexByte s.data.toList c.toNat.toUInt8 := by simp [bl]
        rw [h2]
        exact .int _ _
  · cases h

theorem callAt_count {f : FuncId} (hf : ExtFn P f Extern.BytealgCount.count) {args : List Value} {H H' : AH} {v : Value} (h : countP args H = some (v, H')) : CallAt P f args H v H' := by
  unfold countP at h
  split at h
  · rename_i s c
    cases h
    refine .inr fun ρ w cargs hR hL => ?_
    obtain ⟨y, ys, e1, r1, hL⟩ := lrel1 hL
    cases r1
    cases hL with
    | cons r2 hL =>
      cases r2
      cases hL
      have e : cargs = #[.string s, .int .u8 c] := by apply Array.ext'; exact e1
      subst e
      refine ⟨w, _, ρ, hf.run (Lib.run_countString s c w), hR, .refl _ _ _, ?_⟩
      rw [cntQ_eq]
      simp only [Nat.zero_add, Lib.countByte, bl]
      exact .int _ _
  · cases h

/-! ### pointers, maps -/

def sameP : List Value → M Value
  | [.pointer p] => M.pure (.pointer p)
  | _ => M.fail

theorem callAt_same {f : FuncId} (hf : ExtFn P f Extern.AbiNoEscape.same) {args : List Value} {H H' : AH} {v : Value} (h : sameP args H = some (v, H')) : CallAt P f args H v H' := by
  unfold sameP at h
  split at h
  · rename_i p
    cases h
    refine .inr fun ρ w cargs hR hL => ?_
    obtain ⟨y, ys, e1, r1, hL⟩ := lrel1 hL
    cases hL
    have e : cargs = #[y] := by apply Array.ext'; exact e1
    subst e
    exact ⟨w, _, ρ, hf.run (v := y) (w := w) (w' := w) (show (pure y : Sem Value).run P w = _ from by simp), hR, .refl _ _ _, r1⟩
  · cases h

def getM3 (m : Nat) : M (List (Value × Value) × List Nat × Nat) := fun H => (mapAt3 H m).map fun q => (q, H)

def cloneP : List Value → M Value
  | [.iface t (.map (some m))] => M.bind (getM3 m) fun q => M.bind (newAt none (.map q.1 q.2.1 q.2.2)) fun b => M.pure (.iface t (.map (some b)))
  | _ => M.fail

theorem callAt_clone {f : FuncId} (hf : ExtFn P f Extern.MapsClone.clone) {args : List Value} {H H' : AH} {v : Value} (h : cloneP args H = some (v, H')) : CallAt P f args H v H' := by
  unfold cloneP at h
  split at h
  · rename_i t m
    obtain ⟨q, H0, h0, h⟩ := bind_some h
    unfold getM3 at h0
    cases hm : mapAt3 H m with
    | none => simp [hm] at h0
    | some q' =>
      obtain ⟨es, bs, c⟩ := q'
      simp only [hm, Option.map_some, Option.some.injEq, Prod.mk.injEq] at h0
      obtain ⟨rfl, rfl⟩ := h0
      obtain ⟨b, H1, h1, h2⟩ := bind_some h
      obtain ⟨rfl, rfl⟩ := pure_some h2
      refine .inr fun ρ w cargs hR hL => ?_
      obtain ⟨y, ys, e1, r1, hL⟩ := lrel1 hL
      cases hL
      cases r1 with
      | iface _ r1 =>
        cases r1 with
        | map hb =>
          rename_i i
          have e : cargs = #[.iface t (.map (some i.cb))] := by apply Array.ext'; exact e1
          subst e
          obtain ⟨hxb, es', hw, he, hbs, hget⟩ := mapAt3_rel (P := P) hR hb hm
          have hb0 : ρ b = none := by
            rcases newAt_eq h1 with ⟨_, rfl, _⟩ | ⟨ha, _, _, _⟩
            · exact hR.fresh _ (Nat.le_refl _)
            · cases ha
          obtain ⟨_, h3, h4⟩ := newAt_sim (alc := none) (n := 0) (m := 0) (o := .map es' c) (w' := { w with heap := w.heap.push (.map es' c) }) hR (fun b h => by cases h) h1 rfl
            ⟨es', by simp, he.mono (Emb.put_ext hb0), hbs⟩
          refine ⟨_, .iface t (.map (some w.heap.size)), _, hf.run ?_, h3, h4, .iface _ (.map (i := ⟨w.heap.size, 0, 0, 0⟩) (Emb.put_same _ _ _))⟩
          have hdef : Extern.MapsClone.clone #[.iface t (.map (some i.cb))] = (do
              let .map entries clock ← getObj i.cb | stuck "maps.clone: a map expected"
              pure (.iface t (.map (some (← newObj (.map entries clock)))))) := rfl
          rw [hdef]
          simp [hget]
  · cases h

end Go.Proofs.YtepchknpgeopfaaGreatDoor.E

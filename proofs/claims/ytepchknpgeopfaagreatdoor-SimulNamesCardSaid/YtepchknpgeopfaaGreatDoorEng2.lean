/-
  THE ENGINE, part 2: what it means that a world bears an abstract heap; the operations of memory are borne by it.
-/
import Derived.Test.YtepchknpgeopfaaGreatDoorEng1
import Derived.Laws.Cells
import Derived.Laws.World
set_option linter.unusedVariables false
set_option linter.unusedSimpArgs false
namespace Go.Proofs.YtepchknpgeopfaaGreatDoor.E
open Go

/-- Where an abstract block lies: the block, how far its first cell stands behind that block's, its length, the block's length. -/
structure Info where
  cb : Nat
  d : Nat
  n : Nat
  m : Nat

abbrev Emb := Nat → Option Info

inductive VRel (ρ : Emb) : Value → Value → Prop
  | junk (v : Value) : VRel ρ junk v
  | bool (b : Bool) : VRel ρ (.bool b) (.bool b)
  | int (k : IntKind) (n : Int) : VRel ρ (.int k n) (.int k n)
  | str (s : ByteArray) : VRel ρ (.string s) (.string s)
  | ptr0 : VRel ρ (.pointer none) (.pointer none)
  | ptr {b o : Nat} {i : Info} (h : ρ b = some i) : VRel ρ (.pointer (some ⟨b, o, none⟩)) (.pointer (some ⟨i.cb, o + i.d, none⟩))
  | sl0 : VRel ρ (.slice none 0 0) (.slice none 0 0)
  | sl {b o len cap co : Nat} {i : Info} (h : ρ b = some i) (hl : len ≤ cap) (ha : co = o + i.d ∨ cap = 0) :
      VRel ρ (.slice (some ⟨b, o, none⟩) len cap) (.slice (some ⟨i.cb, co, none⟩) len cap)
  | slo {b o s len cap cap' co : Nat} {i : Info} (h : ρ b = some i) (hl : len ≤ cap) (hc : cap ≤ cap') (he : o + cap * s = i.n) (hm : co + cap' * s ≤ i.m ∨ cap' = 0) (ha : co = o + i.d ∨ cap' = 0) :
      VRel ρ (.slice (some ⟨b, o, some s⟩) len cap) (.slice (some ⟨i.cb, co, none⟩) len cap')
  | map0 : VRel ρ (.map none) (.map none)
  | map {b : Nat} {i : Info} (h : ρ b = some i) : VRel ρ (.map (some b)) (.map (some i.cb))
  | func0 : VRel ρ .nilFunc .nilFunc
  | func (fn : Fn) {xs ys xs' ys' : Array Value} (hs : xs.size = xs'.size) (ht : ys.size = ys'.size)
      (hx : ∀ (i : Nat) (h : i < xs.size) (h' : i < xs'.size), VRel ρ xs[i] xs'[i]) (hy : ∀ (i : Nat) (h : i < ys.size) (h' : i < ys'.size), VRel ρ ys[i] ys'[i]) :
      VRel ρ (.func fn xs ys) (.func fn xs' ys')
  | iface (t : TypeId) {v v' : Value} (h : VRel ρ v v') : VRel ρ (.iface t v) (.iface t v')
  | iface0 : VRel ρ .nilIface .nilIface
  | agg {xs xs' : Array Value} (hs : xs.size = xs'.size) (hx : ∀ (i : Nat) (h : i < xs.size) (h' : i < xs'.size), VRel ρ xs[i] xs'[i]) : VRel ρ (.agg xs) (.agg xs')
  | tup {xs xs' : Array Value} (hs : xs.size = xs'.size) (hx : ∀ (i : Nat) (h : i < xs.size) (h' : i < xs'.size), VRel ρ xs[i] xs'[i]) : VRel ρ (.tuple xs) (.tuple xs')

def Ext (ρ ρ' : Emb) : Prop := ∀ b i, ρ b = some i → ρ' b = some i
theorem Ext.refl (ρ : Emb) : Ext ρ ρ := fun _ _ h => h
theorem Ext.trans {a b c : Emb} (h : Ext a b) (h' : Ext b c) : Ext a c := fun x i e => h' x i (h x i e)

theorem VRel.mono {ρ ρ' : Emb} (he : Ext ρ ρ') {v v' : Value} (h : VRel ρ v v') : VRel ρ' v v' := by
  induction h with
  | junk v => exact .junk v
  | bool b => exact .bool b
  | int k n => exact .int k n
  | str s => exact .str s
  | ptr0 => exact .ptr0
  | ptr h => exact .ptr (he _ _ h)
  | sl0 => exact .sl0
  | sl h hl ha => exact .sl (he _ _ h) hl ha
  | slo h hl hc h1 hm ha => exact .slo (he _ _ h) hl hc h1 hm ha
  | map0 => exact .map0
  | map h => exact .map (he _ _ h)
  | func0 => exact .func0
  | func fn hs ht _ _ ix iy => exact .func fn hs ht ix iy
  | iface t _ ih => exact .iface t ih
  | iface0 => exact .iface0
  | agg hs _ ix => exact .agg hs ix
  | tup hs _ ix => exact .tup hs ix

inductive All2 {α β : Type} (R : α → β → Prop) : List α → List β → Prop
  | nil : All2 R [] []
  | cons {x : α} {y : β} {xs : List α} {ys : List β} (h : R x y) (t : All2 R xs ys) : All2 R (x :: xs) (y :: ys)

/-- Lists of values, one by one. -/
abbrev LRel (ρ : Emb) (xs ys : List Value) : Prop := All2 (VRel ρ) xs ys

theorem All2.mono {ρ ρ' : Emb} (he : Ext ρ ρ') {xs ys : List Value} (h : LRel ρ xs ys) : LRel ρ' xs ys := by
  induction h with
  | nil => exact .nil
  | cons h _ ih => exact .cons (h.mono he) ih

section
variable {α β : Type} {T : α → β → Prop}

theorem All2.length {xs : List α} {ys : List β} (h : All2 T xs ys) : xs.length = ys.length := by
  induction h with
  | nil => rfl
  | cons _ _ ih => simp [ih]

theorem All2.append {xs xs' : List α} {ys ys' : List β} (h : All2 T xs ys) (h' : All2 T xs' ys') : All2 T (xs ++ xs') (ys ++ ys') := by
  induction h with
  | nil => exact h'
  | cons h _ ih => exact .cons h ih

theorem All2.get {xs : List α} {ys : List β} (h : All2 T xs ys) {i : Nat} {v : α} (hv : xs[i]? = some v) : ∃ v', ys[i]? = some v' ∧ T v v' := by
  induction h generalizing i with
  | nil => simp at hv
  | cons h _ ih =>
    cases i with
    | zero => simp at hv; subst hv; exact ⟨_, rfl, h⟩
    | succ i => exact ih (by simpa using hv)

theorem All2.of_get : ∀ {xs : List α} {ys : List β}, xs.length = ys.length → (∀ (i : Nat) v v', xs[i]? = some v → ys[i]? = some v' → T v v') → All2 T xs ys
  | [], [], _, _ => .nil
  | [], _ :: _, h, _ => by simp at h
  | _ :: _, [], h, _ => by simp at h
  | x :: xs, y :: ys, hl, h => .cons (h 0 x y rfl rfl) (All2.of_get (by simpa using hl) fun i v v' a b => h (i + 1) v v' (by simpa using a) (by simpa using b))

theorem All2.take {xs : List α} {ys : List β} (h : All2 T xs ys) (n : Nat) : All2 T (xs.take n) (ys.take n) := by
  induction h generalizing n with
  | nil => simp; exact .nil
  | cons h _ ih => cases n with
    | zero => simp; exact .nil
    | succ n => exact .cons h (ih n)

theorem All2.drop {xs : List α} {ys : List β} (h : All2 T xs ys) (n : Nat) : All2 T (xs.drop n) (ys.drop n) := by
  induction h generalizing n with
  | nil => simp; exact .nil
  | cons h h' ih => cases n with
    | zero => exact .cons h h'
    | succ n => exact ih n

theorem All2.imp {S : α → β → Prop} (f : ∀ a b, T a b → S a b) {xs : List α} {ys : List β} (h : All2 T xs ys) : All2 S xs ys := by
  induction h with
  | nil => exact .nil
  | cons h _ ih => exact .cons (f _ _ h) ih

end

theorem All2.flatten {ρ : Emb} {xs ys : List (List Value)} (h : All2 (LRel ρ) xs ys) : LRel ρ xs.flatten ys.flatten := by
  induction h with
  | nil => exact .nil
  | cons h _ ih => exact h.append ih

theorem VRel.undef {ρ : Emb} : VRel ρ undef undef := .tup rfl (fun i h => by simp [Go.undef] at h)

theorem All2.getD {ρ : Emb} {xs ys : List Value} (h : LRel ρ xs ys) (i : Nat) : VRel ρ (xs.getD i undef) (ys.getD i undef) := by
  induction h generalizing i with
  | nil => simp only [List.getD_nil]; exact VRel.undef
  | cons h _ ih =>
    cases i with
    | zero => simpa using h
    | succ i => simpa using ih i

theorem aggL {ρ : Emb} {xs xs' : Array Value} (h : VRel ρ (.agg xs) (.agg xs')) : LRel ρ xs.toList xs'.toList := by
  cases h with
  | agg hs hx =>
    refine All2.of_get (by simpa using hs) fun i v v' a b => ?_
    simp only [Array.getElem?_toList] at a b
    obtain ⟨h1, rfl⟩ := Array.getElem?_eq_some_iff.1 a
    obtain ⟨h2, rfl⟩ := Array.getElem?_eq_some_iff.1 b
    exact hx i h1 h2

theorem arrL {ρ : Emb} {xs xs' : Array Value} (hs : xs.size = xs'.size) (hx : ∀ (i : Nat) (h : i < xs.size) (h' : i < xs'.size), VRel ρ xs[i] xs'[i]) : LRel ρ xs.toList xs'.toList :=
  aggL (.agg hs hx)

theorem Larr {ρ : Emb} {xs xs' : Array Value} (h : LRel ρ xs.toList xs'.toList) : xs.size = xs'.size ∧ ∀ (i : Nat) (h : i < xs.size) (h' : i < xs'.size), VRel ρ xs[i] xs'[i] := by
  refine ⟨by simpa using h.length, fun i h1 h2 => ?_⟩
  obtain ⟨v', e, r⟩ := h.get (i := i) (v := xs[i]) (by simp [h1])
  rw [Array.getElem?_toList, Array.getElem?_eq_getElem h2] at e
  cases e
  exact r

theorem Lagg {ρ : Emb} {xs xs' : List Value} (h : LRel ρ xs xs') : VRel ρ (.agg xs.toArray) (.agg xs'.toArray) := by
  obtain ⟨a, b⟩ := Larr (xs := xs.toArray) (xs' := xs'.toArray) (by simpa using h)
  exact .agg a b
theorem Ltup {ρ : Emb} {xs xs' : List Value} (h : LRel ρ xs xs') : VRel ρ (.tuple xs.toArray) (.tuple xs'.toArray) := by
  obtain ⟨a, b⟩ := Larr (xs := xs.toArray) (xs' := xs'.toArray) (by simpa using h)
  exact .tup a b

theorem cellOk_rel {ρ : Emb} {v v' : Value} (h : VRel ρ v v') (hc : cellOk v = true) : v'.oneCell' = true ∧ v'.cells = #[v'] ∧ v.cells = #[v] := by
  cases h <;> simp [cellOk, Value.oneCell', Value.cells] at * <;> simp [E.junk, cellOk] at hc

theorem cells_rel {ρ : Emb} {v v' : Value} (h : VRel ρ v v') (hc : cellsOk v = true) : LRel ρ v.cells.toList v'.cells.toList ∧ ∀ x ∈ v'.cells.toList, x.oneCell' = true := by
  cases h with
  | agg hs hx =>
    rename_i xs xs'
    have hl : LRel ρ xs.toList xs'.toList := arrL hs hx
    refine ⟨hl, fun x hx' => ?_⟩
    simp only [Value.cells] at hx'
    obtain ⟨i, hi, rfl⟩ := List.getElem_of_mem hx'
    have hi' : i < xs.toList.length := by rw [hl.length]; exact hi
    have e : xs.toList[i]? = some xs.toList[i] := by simp [hi']
    obtain ⟨v', e', r⟩ := hl.get e
    have hv : v' = xs'.toList[i] := by rw [List.getElem?_eq_getElem hi] at e'; cases e'; rfl
    subst hv
    have hk : cellOk xs.toList[i] = true := by
      simp only [cellsOk, Value.cells, List.all_eq_true] at hc
      exact hc _ (List.getElem_mem hi')
    exact (cellOk_rel r hk).1
  | junk v => simp [cellsOk, E.junk, Value.cells, cellOk] at hc
  | tup hs hx => simp [cellsOk, Value.cells, cellOk] at hc
  | _ =>
    constructor
    · refine .cons ?_ .nil
      constructor <;> assumption
    · intro x hx
      simp [Value.cells] at hx
      subst hx
      rfl

theorem all_oneCell {ρ : Emb} {xs ys : List Value} (h : LRel ρ xs ys) (hc : xs.all cellOk = true) : ∀ y ∈ ys, y.oneCell' = true := by
  induction h with
  | nil => intro y hy; cases hy
  | cons h _ ih =>
    simp only [List.all_cons, Bool.and_eq_true] at hc
    intro y hy
    cases hy with
    | head => exact (cellOk_rel h hc.1).1
    | tail _ hm => exact ih hc.2 y hm

/-! ### A world that bears an abstract heap -/

def Blk.wr : Blk → Bool
  | .row _ _ rw => rw
  | _ => true

def ERel (ρ : Emb) (es : List (Value × Value)) (es' : List MapEntry) : Prop := All2 (fun e e' => VRel ρ e.1 e'.key ∧ VRel ρ e.2 e'.val) es es'

theorem ERel.mono {ρ ρ' : Emb} (he : Ext ρ ρ') {es : List (Value × Value)} {es' : List MapEntry} (h : ERel ρ es es') : ERel ρ' es es' := by
  induction h with
  | nil => exact .nil
  | cons h _ ih => exact .cons ⟨h.1.mono he, h.2.mono he⟩ ih

def RowR (ρ : Emb) (w : World) (i : Info) (e : TypeId) (cs : List Value) (rw : Bool) : Prop :=
  ∃ cc fz, w.heap[i.cb]? = some (.cells cc e fz) ∧ cc.size = i.m ∧ i.d + cs.length ≤ cc.size ∧ (rw = true → fz = (0, 0)) ∧
    ∀ (o : Nat) v, cs[o]? = some v → ∃ v', cc[o + i.d]? = some v' ∧ VRel ρ v v'

def BlkR (ρ : Emb) (w : World) (i : Info) : Blk → Prop
  | .row e cs rw => (i.n = cs.length ∧ (special e = true → i.d = 0 ∧ i.m = cs.length)) ∧ RowR ρ w i e cs rw
  | .map es bs clock => ∃ es', w.heap[i.cb]? = some (.map es' clock) ∧ ERel ρ es es'.toList ∧ es'.toList.map (·.born) = bs
  | .siter s pos => i.d = 0 ∧ w.heap[i.cb]? = some (.stringIter s pos)
  | .miter none since seen last => i.d = 0 ∧ w.heap[i.cb]? = some (.mapIter none since seen.toArray last)
  | .miter (some m) since seen last => i.d = 0 ∧ ∃ j, ρ m = some j ∧ w.heap[i.cb]? = some (.mapIter (some j.cb) since seen.toArray last)

structure Rel (ρ : Emb) (H : AH) (w : World) : Prop where
  fresh : ∀ b, H.next ≤ b → ρ b = none
  inh : ∀ b i, ρ b = some i → i.cb < w.heap.size
  blk : ∀ b x, H.at_ b = some x → ∃ i, ρ b = some i ∧ BlkR ρ w i x
  inj : ∀ b b' x y i i', H.at_ b = some x → H.at_ b' = some y → ρ b = some i → ρ b' = some i' → b ≠ b' → x.wr = true → i.cb ≠ i'.cb

def foot (ρ : Emb) (H : AH) (cb : Nat) : Prop := ∃ b x i, H.at_ b = some x ∧ x.wr = true ∧ ρ b = some i ∧ i.cb = cb

/-- A block of the world that some abstract block stands for. -/
def occ (ρ : Emb) (H : AH) (cb : Nat) : Prop := ∃ b x i, H.at_ b = some x ∧ ρ b = some i ∧ i.cb = cb

/-- What a computation does, at most, to a world that bears an abstract heap. 'alc' is the number laid by for its own block. -/
structure Evo (alc : Option Nat) (ρ : Emb) (H : AH) (w : World) (ρ' : Emb) (H' : AH) (w' : World) : Prop where
  ext : Ext ρ ρ'
  size : w.heap.size ≤ w'.heap.size
  keep : ∀ cb, cb < w.heap.size → ¬ foot ρ H cb → w'.heap[cb]? = w.heap[cb]?
  foots : ∀ cb, foot ρ' H' cb → foot ρ H cb ∨ w.heap.size ≤ cb
  occs : ∀ cb, occ ρ' H' cb → occ ρ H cb ∨ w.heap.size ≤ cb
  low : ∀ b, b < H.next → alc ≠ some b → ρ b = none → ρ' b = none
  dead : ∀ b, b < H.next → alc ≠ some b → H.at_ b = none → H'.at_ b = none
  os : w'.os = w.os
  out : w'.output = w.output
  next : H.next ≤ H'.next

theorem Evo.refl {alc : Option Nat} (ρ : Emb) (H : AH) (w : World) : Evo alc ρ H w ρ H w :=
  ⟨.refl _, Nat.le_refl _, fun _ _ _ => rfl, fun _ h => .inl h, fun _ h => .inl h, fun _ _ _ h => h, fun _ _ _ h => h, rfl, rfl, Nat.le_refl _⟩

theorem Evo.weaken {alc : Option Nat} {ρ ρ' : Emb} {H H' : AH} {w w' : World} (h : Evo none ρ H w ρ' H' w') : Evo alc ρ H w ρ' H' w' :=
  ⟨h.ext, h.size, h.keep, h.foots, h.occs, fun b h1 _ => h.low b h1 (fun e => by cases e), fun b h1 _ => h.dead b h1 (fun e => by cases e), h.os, h.out, h.next⟩

theorem Evo.trans {alc : Option Nat} {ρ ρ' ρ'' : Emb} {H H' H'' : AH} {w w' w'' : World} (h : Evo alc ρ H w ρ' H' w') (h' : Evo alc ρ' H' w' ρ'' H'' w'') : Evo alc ρ H w ρ'' H'' w'' where
  ext := h.ext.trans h'.ext
  size := Nat.le_trans h.size h'.size
  keep cb hl hf := by
    have hf' : ¬ foot ρ' H' cb := fun hc => by
      rcases h.foots cb hc with h1 | h1
      · exact hf h1
      · omega
    rw [h'.keep cb (Nat.lt_of_lt_of_le hl h.size) hf', h.keep cb hl hf]
  foots cb hc := by
    rcases h'.foots cb hc with h1 | h1
    · exact h.foots cb h1
    · exact .inr (Nat.le_trans h.size h1)
  occs cb hc := by
    rcases h'.occs cb hc with h1 | h1
    · exact h.occs cb h1
    · exact .inr (Nat.le_trans h.size h1)
  low b h1 h2 h3 := h'.low b (Nat.lt_of_lt_of_le h1 h.next) h2 (h.low b h1 h2 h3)
  dead b h1 h2 h3 := h'.dead b (Nat.lt_of_lt_of_le h1 h.next) h2 (h.dead b h1 h2 h3)
  os := h'.os.trans h.os
  out := h'.out.trans h.out
  next := Nat.le_trans h.next h'.next

theorem Rel.low {ρ : Emb} {H : AH} {w : World} (h : Rel ρ H w) {b : Nat} {x : Blk} (hx : H.at_ b = some x) : b < H.next := by
  obtain ⟨i, hi, _⟩ := h.blk b x hx
  rcases Nat.lt_or_ge b H.next with h1 | h1
  · exact h1
  · rw [h.fresh b h1] at hi; cases hi

theorem RowR.mono {ρ ρ' : Emb} (he : Ext ρ ρ') {w : World} {i : Info} {e : TypeId} {cs : List Value} {rw : Bool} (h : RowR ρ w i e cs rw) : RowR ρ' w i e cs rw := by
  obtain ⟨cc, fz, h1, h2, h3, h4, h5⟩ := h
  exact ⟨cc, fz, h1, h2, h3, h4, fun o v hv => let ⟨v', a, b⟩ := h5 o v hv; ⟨v', a, b.mono he⟩⟩

theorem BlkR.mono {ρ ρ' : Emb} (he : Ext ρ ρ') {w : World} {i : Info} {x : Blk} (h : BlkR ρ w i x) : BlkR ρ' w i x := by
  cases x with
  | row e cs rw => exact ⟨h.1, h.2.mono he⟩
  | map es bs c => obtain ⟨es', h1, h2, h3⟩ := h; exact ⟨es', h1, h2.mono he, h3⟩
  | miter m since seen last => cases m with
    | none => exact h
    | some m => obtain ⟨h0, j, h1, h2⟩ := h; exact ⟨h0, j, he _ _ h1, h2⟩
  | siter s pos => exact h

theorem BlkR.same {ρ : Emb} {w w' : World} {i : Info} {x : Blk} (hw : w'.heap[i.cb]? = w.heap[i.cb]?) (h : BlkR ρ w i x) : BlkR ρ w' i x := by
  cases x with
  | row e cs rw => obtain ⟨h0, cc, fz, h1, h2⟩ := h; exact ⟨h0, cc, fz, hw.trans h1, h2⟩
  | map es bs c => obtain ⟨es', h1, h2⟩ := h; exact ⟨es', hw.trans h1, h2⟩
  | siter s pos => exact ⟨h.1, hw.trans h.2⟩
  | miter m since seen last => cases m with
    | none => exact ⟨h.1, hw.trans h.2⟩
    | some m => obtain ⟨h0, j, h1, h2⟩ := h; exact ⟨h0, j, h1, hw.trans h2⟩

/-! ### Reading -/

theorem rowAt_some {H : AH} {b : Nat} {cs : List Value} (h : rowAt H b = some cs) : ∃ e rw, H.at_ b = some (.row e cs rw) := by
  unfold rowAt at h
  split at h
  · rename_i e cs' rw hx; cases h; exact ⟨e, rw, hx⟩
  · cases h

theorem Rel.cell {ρ : Emb} {H : AH} {w : World} (hR : Rel ρ H w) {b o : Nat} {cs : List Value} {v : Value} {i : Info} (hc : rowAt H b = some cs) (hi : ρ b = some i) (hv : cs[o]? = some v) :
    ∃ v', w.cell? ⟨i.cb, o + i.d, none⟩ = some v' ∧ VRel ρ v v' := by
  obtain ⟨e, rw, hx⟩ := rowAt_some hc
  obtain ⟨j, hj, hb⟩ := hR.blk b _ hx
  rw [hi] at hj; cases hj
  obtain ⟨_, cc, fz, h1, _, _, _, h5⟩ := hb
  obtain ⟨v', h6, h7⟩ := h5 o v hv
  exact ⟨v', by simp [World.cell?, h1, h6], h7⟩

theorem load1_sim {ρ : Emb} {H H' : AH} {w : World} (hR : Rel ρ H w) {a ac v : Value} (ha : VRel ρ a ac) (h : load1 a H = some (v, H')) :
    H' = H ∧ ∃ cb co vc, ac = .pointer (some ⟨cb, co, none⟩) ∧ w.cell? ⟨cb, co, none⟩ = some vc ∧ VRel ρ v vc := by
  unfold load1 at h
  split at h
  · rename_i b o
    split at h
    · rename_i cs hcs
      split at h
      · rename_i u hu
        cases h
        cases ha with
        | ptr hi =>
          obtain ⟨v', h1, h2⟩ := hR.cell hcs hi hu
          exact ⟨rfl, _, _, v', rfl, h1, h2⟩
      · cases h
    · cases h
  · cases h

theorem readN_sim {ρ : Emb} {H : AH} {w : World} (hR : Rel ρ H w) {b o n : Nat} {i : Info} {vs : List Value} (hi : ρ b = some i) (h : readN H b o n = some vs) :
    vs.length = n ∧ ∃ vc, LRel ρ vs vc ∧ ∀ (j : Nat) u, vc[j]? = some u → w.cell? ((⟨i.cb, o + i.d, none⟩ : Addr).add j) = some u := by
  unfold readN at h
  split at h
  · rename_i cs hcs
    split at h
    · rename_i hle
      cases h
      refine ⟨by simp; omega, ?_⟩
      obtain ⟨e, rw, hx⟩ := rowAt_some hcs
      obtain ⟨j, hj, hb⟩ := hR.blk b _ hx
      rw [hi] at hj; cases hj
      obtain ⟨_, cc, fz, h1, _, h3, _, h5⟩ := hb
      refine ⟨(cc.toList.drop (o + i.d)).take n, All2.of_get (by simp; omega) fun j v v' hv hv' => ?_, fun j u hu => ?_⟩
      · have hj : j < n := by
          rcases Nat.lt_or_ge j n with q | q
          · exact q
          · rw [List.getElem?_take, if_neg (by omega)] at hv; cases hv
        rw [List.getElem?_take_of_lt hj, List.getElem?_drop] at hv hv'
        obtain ⟨v'', h6, h7⟩ := h5 _ _ hv
        rw [show o + i.d + j = o + j + i.d from by omega, Array.getElem?_toList, h6] at hv'
        cases hv'
        exact h7
      · have hj : j < n := by
          rcases Nat.lt_or_ge j n with q | q
          · exact q
          · rw [List.getElem?_take, if_neg (by omega)] at hu; cases hu
        rw [List.getElem?_take_of_lt hj, List.getElem?_drop, Array.getElem?_toList] at hu
        have : (⟨i.cb, o + i.d, none⟩ : Addr).add j = ⟨i.cb, o + i.d + j, none⟩ := by
          unfold Addr.add; split <;> simp_all
        rw [this]
        simp [World.cell?, h1, hu]
    · cases h
  · cases h

theorem loadN_sim {ρ : Emb} {H H' : AH} {w : World} (hR : Rel ρ H w) {n : Nat} {a ac v : Value} (ha : VRel ρ a ac) (h : loadN n a H = some (v, H')) :
    H' = H ∧ ∃ cb co vc, ac = .pointer (some ⟨cb, co, none⟩) ∧ (∀ P, (loadCells ⟨cb, co, none⟩ n).run P w = .ok vc w) ∧ VRel ρ v (.agg vc) := by
  unfold loadN at h
  split at h
  · rename_i b o
    split at h
    · rename_i vs hvs
      cases h
      cases ha with
      | ptr hi =>
        obtain ⟨hl, vc, h1, h2⟩ := readN_sim hR hi hvs
        refine ⟨rfl, _, _, vc.toArray, rfl, fun P => ?_, Lagg h1⟩
        have := run_loadCells_list (P := P) w _ vc h2
        rwa [← h1.length, hl] at this
    · cases h
  · cases h

/-! ### Types -/

theorem info_of_underlying {P : Program} {t : TypeId} {d : TypeDesc} (h : P.underlying t = some d) : ∃ i, P.info? t = some i := by
  unfold Program.underlying at h
  cases hi : P.info? t with
  | some i => exact ⟨i, rfl⟩
  | none => simp [hi] at h

theorem run_underlying' {P : Program} {t : TypeId} {d : TypeDesc} (w : World) (h : P.underlying t = some d) : (underlying t).run P w = .ok d w := by
  simp [underlying, h]

theorem run_sizeOf' {P : Program} {t : TypeId} {i : TypeInfo} (w : World) (h : P.info? t = some i) : (sizeOf t).run P w = .ok (P.cellsOf t) w := by
  simp [sizeOf, typeInfo, h, Program.cellsOf]

theorem run_typeInfo' {P : Program} {t : TypeId} {i : TypeInfo} (w : World) (h : P.info? t = some i) : (typeInfo t).run P w = .ok i w := by
  simp [typeInfo, h]

theorem run_zeroValue' {P : Program} {t : TypeId} {i : TypeInfo} {v : Value} (w : World) (h : P.info? t = some i) (hz : i.zero = some v) : (zeroValue t).run P w = .ok v w := by
  simp [zeroValue, typeInfo, h, hz]

end Go.Proofs.YtepchknpgeopfaaGreatDoor.E

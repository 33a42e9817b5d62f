/-
  THE ENGINE, part 27: closed runs whose results are laid into any heap.
-/
import Derived.Test.YtepchknpgeopfaaGreatDoorEng26
set_option linter.unusedVariables false
set_option linter.unusedSimpArgs false
namespace Go.Proofs.YtepchknpgeopfaaGreatDoor.E
open Go

/-! ### Values with other numbers of blocks -/

def mapS (g : Nat → Nat) : Value → Value
  | .pointer (some ⟨b, o, m⟩) => .pointer (some ⟨g b, o, m⟩)
  | .slice (some ⟨b, o, m⟩) l c => .slice (some ⟨g b, o, m⟩) l c
  | .map (some b) => .map (some (g b))
  | v => v

def mapA (g : Nat → Nat) : Value → Value
  | .agg ⟨l⟩ => .agg ⟨l.map (mapS g)⟩
  | v => mapS g v

def mapV (g : Nat → Nat) : Value → Value
  | .tuple ⟨l⟩ => .tuple ⟨l.map (mapA g)⟩
  | v => mapA g v

/-- Nothing but what 'mapS' sees through, and numbers below k. -/
def okS (k : Nat) : Value → Bool
  | .bool _ | .int _ _ | .string _ | .pointer none | .slice none _ _ | .map none | .nilFunc | .nilIface => true
  | .pointer (some a) | .slice (some a) _ _ => Nat.blt a.block k
  | .map (some b) => Nat.blt b k
  | _ => false

def okA (k : Nat) : Value → Bool
  | .agg ⟨l⟩ => l.all (okS k)
  | v => okS k v

def okV (k : Nat) : Value → Bool
  | .tuple ⟨l⟩ => l.all (okA k)
  | v => okA k v

theorem blt_lt {a k : Nat} (h : Nat.blt a k = true) : a < k := Nat.lt_of_lt_of_le (Nat.lt_succ_self a) (Nat.le_of_ble_eq_true h)

section
variable {ρ1 ρ2 : Emb} {p q : Nat → Nat} {k : Nat}

theorem mapS_rel (hg : ∀ i, i < k → ρ2 (q i) = ρ1 (p i)) {v vc : Value} (hk : okS k v = true) (h : VRel ρ1 (mapS p v) vc) : VRel ρ2 (mapS q v) vc := by
  cases v with
  | bool b => cases h; exact .bool _
  | int a b => cases h; exact .int _ _
  | string s => cases h; exact .str _
  | pointer a =>
    cases a with
    | none => cases h; exact .ptr0
    | some a =>
      obtain ⟨b, o, m⟩ := a
      have hb := blt_lt hk
      cases h with
      | ptr hi => exact .ptr (by rw [hg _ hb]; exact hi)
  | slice a l c =>
    cases a with
    | none => cases h; exact .sl0
    | some a =>
      obtain ⟨b, o, m⟩ := a
      have hb := blt_lt hk
      cases h with
      | sl hi hl ha => exact .sl (by rw [hg _ hb]; exact hi) hl ha
      | slo hi hl hc h1 hm ha => exact .slo (by rw [hg _ hb]; exact hi) hl hc h1 hm ha
  | map a =>
    cases a with
    | none => cases h; exact .map0
    | some b =>
      have hb := blt_lt hk
      cases h with
      | map hi => exact .map (by rw [hg _ hb]; exact hi)
  | nilFunc => cases h; exact .func0
  | nilIface => cases h; exact .iface0
  | _ => simp [okS] at hk

theorem mapL_rel {f : (Nat → Nat) → Value → Value} {ok : Value → Bool} (hf : ∀ v vc, ok v = true → VRel ρ1 (f p v) vc → VRel ρ2 (f q v) vc) :
    ∀ {l us : List Value}, l.all ok = true → LRel ρ1 (l.map (f p)) us → LRel ρ2 (l.map (f q)) us
  | [], us, _, h => by cases h; exact .nil
  | v :: l, us, hk, h => by
    simp only [List.all_cons, Bool.and_eq_true] at hk
    cases h with
    | cons h1 h2 => exact .cons (hf _ _ hk.1 h1) (mapL_rel hf hk.2 h2)

theorem mapA_rel (hg : ∀ i, i < k → ρ2 (q i) = ρ1 (p i)) {v vc : Value} (hk : okA k v = true) (h : VRel ρ1 (mapA p v) vc) : VRel ρ2 (mapA q v) vc := by
  by_cases ha : ∃ l, v = .agg ⟨l⟩
  · obtain ⟨l, rfl⟩ := ha
    obtain ⟨cs, rfl⟩ := h.of_agg
    exact Lagg (xs := l.map (mapS q)) (xs' := cs.toList) (mapL_rel (f := mapS) (fun v vc => mapS_rel hg) hk (aggL h))
  · have e : ∀ g, mapA g v = mapS g v := fun g => by
      cases v <;> first | rfl | (exfalso; exact ha ⟨_, rfl⟩)
    have e2 : okA k v = okS k v := by
      cases v <;> first | rfl | (exfalso; exact ha ⟨_, rfl⟩)
    rw [e] at h ⊢
    rw [e2] at hk
    exact mapS_rel hg hk h

theorem mapV_rel (hg : ∀ i, i < k → ρ2 (q i) = ρ1 (p i)) {v vc : Value} (hk : okV k v = true) (h : VRel ρ1 (mapV p v) vc) : VRel ρ2 (mapV q v) vc := by
  by_cases ha : ∃ l, v = .tuple ⟨l⟩
  · obtain ⟨l, rfl⟩ := ha
    have h' : ∃ cs : Array Value, vc = .tuple cs ∧ LRel ρ1 (l.map (mapA p)) cs.toList := by
      cases h with
      | tup hs hx => exact ⟨_, rfl, arrL hs hx⟩
    obtain ⟨cs, rfl, hl⟩ := h'
    exact Ltup (xs := l.map (mapA q)) (xs' := cs.toList) (mapL_rel (f := mapA) (fun v vc => mapA_rel hg) hk hl)
  · have e : ∀ g, mapV g v = mapA g v := fun g => by
      cases v <;> first | rfl | (exfalso; exact ha ⟨_, rfl⟩)
    have e2 : okV k v = okA k v := by
      cases v <;> first | rfl | (exfalso; exact ha ⟨_, rfl⟩)
    rw [e] at h ⊢
    rw [e2] at hk
    exact mapA_rel hg hk h

end

/-! ### Rows laid at the end of a heap -/

structure RowB where
  e : TypeId
  cs : List Value
  rw : Bool

def RowB.blk (g : Nat → Nat) (r : RowB) : Blk := .row r.e (r.cs.map (mapS g)) r.rw

/-- So many rows, laid from a heap's next number on. -/
def AH.lay (H : AH) (rows : List RowB) : AH :=
  { next := H.next + rows.length, at_ := fun b => if H.next ≤ b then (match rows[b - H.next]? with | some r => some (r.blk (H.next + ·)) | none => H.at_ b) else H.at_ b }

def giveM (rows : List RowB) (v : Value) : M Value := fun H => some (mapV (H.next + ·) v, H.lay rows)

theorem callAt_give {P : Program} {f : FuncId} {args : List Value} {v0 : Value} {S' : AH} (h : CallAt P f args ⟨0, fun _ => none⟩ v0 S') (hargs : args.all plainC = true)
    {rows : List RowB} {v : Value} (g : Nat → Nat) (hv : v0 = mapV g v) (hok : okV rows.length v = true) (hrows : rows.all (fun r => r.cs.all (okS rows.length)) = true)
    (hat : ∀ i r, rows[i]? = some r → S'.at_ (g i) = some (r.blk g)) (hinj : ∀ i j, i < rows.length → j < rows.length → g i = g j → i = j) (H : AH) :
    CallAt P f args H (mapV (H.next + ·) v) (H.lay rows) := by
  have hlit : ∀ {ρ : Emb} {xs ys : List Value}, xs.all plainC = true → LRel ρ xs ys → ∀ ρ' : Emb, LRel ρ' xs ys := by
    intro ρ xs ys hp hr ρ'
    induction hr with
    | nil => exact .nil
    | cons h t ih =>
      simp only [List.all_cons, Bool.and_eq_true] at hp
      refine .cons ?_ (ih hp.2)
      have hp1 := hp.1
      cases h <;> first | (simp [plainC, E.junk] at hp1; done) | constructor
  have hR0 : ∀ w : World, Rel (fun _ => none) ⟨0, fun _ => none⟩ w := fun w =>
    ⟨fun _ _ => rfl, (fun _ _ h => by cases h), (fun _ _ h => by cases h), (fun _ _ _ _ _ _ h => by cases h)⟩
  have key : ∀ {ρ : Emb} {w w' : World} {ρ' : Emb} {vc : Value}, Rel ρ H w → Rel ρ' S' w' → Evo none (fun _ => none) ⟨0, fun _ => none⟩ w ρ' S' w' → VRel ρ' v0 vc →
      ∃ ρ'', Rel ρ'' (H.lay rows) w' ∧ Evo none ρ H w ρ'' (H.lay rows) w' ∧ VRel ρ'' (mapV (H.next + ·) v) vc := by
    intro ρ w w' ρ' vc hR hS hE hvc
    have hk : ∀ cb, cb < w.heap.size → w'.heap[cb]? = w.heap[cb]? := fun cb hl => hE.keep cb hl (fun ⟨b, x, i, hb, _⟩ => by cases hb)
    obtain ⟨ρ2, hρ2⟩ : ∃ ρ2 : Emb, ρ2 = fun b => if H.next ≤ b then (if b - H.next < rows.length then ρ' (g (b - H.next)) else none) else ρ b := ⟨_, rfl⟩
    have hnew : ∀ i, i < rows.length → ρ2 (H.next + i) = ρ' (g i) := fun i hi => by
      rw [hρ2]; simp only
      rw [if_pos (by omega), if_pos (by omega)]
      congr 2; omega
    have hold : ∀ b, b < H.next → ρ2 b = ρ b := fun b hb => by rw [hρ2]; simp only; rw [if_neg (by omega)]
    have hlayN : ∀ i r, rows[i]? = some r → (H.lay rows).at_ (H.next + i) = some (r.blk (H.next + ·)) := fun i r hr => by
      simp only [AH.lay]
      rw [if_pos (by omega), show H.next + i - H.next = i from by omega, hr]
    have hlayO : ∀ b, b < H.next → (H.lay rows).at_ b = H.at_ b := fun b hb => by
      simp only [AH.lay]; rw [if_neg (by omega)]
    -- every block of the new heap is an old one or a laid one
    have hcase : ∀ b x, (H.lay rows).at_ b = some x → (b < H.next ∧ H.at_ b = some x) ∨ ∃ i r, b = H.next + i ∧ rows[i]? = some r ∧ x = r.blk (H.next + ·) := by
      intro b x hb
      by_cases hl : b < H.next
      · exact .inl ⟨hl, by rw [← hlayO b hl]; exact hb⟩
      · simp only [AH.lay] at hb
        rw [if_pos (by omega)] at hb
        cases hr : rows[b - H.next]? with
        | none =>
          simp only [hr] at hb
          exact absurd (hR.low hb) hl
        | some r =>
          simp only [hr, Option.some.injEq] at hb
          exact .inr ⟨b - H.next, r, by omega, hr, hb.symm⟩
    have hsz : ∀ i r j, rows[i]? = some r → ρ' (g i) = some j → w.heap.size ≤ j.cb := by
      intro i r j hr hj
      rcases hE.occs j.cb ⟨g i, _, j, hat i r hr, hj, rfl⟩ with ⟨b, x, _, hb, _⟩ | h1
      · cases hb
      · exact h1
    refine ⟨ρ2, ⟨fun b hb => ?_, fun b j hj => ?_, fun b x hb => ?_, fun b1 b2 x y i1 i2 hx hy h1 h2 hne hw => ?_⟩, ⟨fun b j hj => ?_, hE.size, fun cb hl _ => hk cb hl, fun cb hf => ?_, fun cb hf => ?_, fun b hb _ hn => by rw [hold b hb]; exact hn, fun b hb _ hn => by rw [hlayO b hb]; exact hn, hE.os, hE.out, by simp [AH.lay]⟩, ?_⟩
    · simp only [AH.lay] at hb
      rw [hρ2]; simp only
      rw [if_pos (by omega), if_neg (by omega)]
    · by_cases hl : b < H.next
      · rw [hold b hl] at hj; exact Nat.lt_of_lt_of_le (hR.inh b j hj) hE.size
      · by_cases hr : b - H.next < rows.length
        · have : b = H.next + (b - H.next) := by omega
          rw [this, hnew _ hr] at hj
          exact hS.inh _ j hj
        · rw [hρ2] at hj; simp only at hj
          rw [if_pos (by omega), if_neg hr] at hj; cases hj
    · rcases hcase b x hb with ⟨hl, hx⟩ | ⟨i, r, rfl, hr, rfl⟩
      · obtain ⟨j, hj, hbj⟩ := hR.blk b x hx
        have hs : BlkR ρ w' j x := hbj.same (hk _ (hR.inh b j hj))
        refine ⟨j, by rw [hold b hl]; exact hj, hs.mono fun c q hq => ?_⟩
        by_cases hc : c < H.next
        · rw [hold c hc]; exact hq
        · rw [hR.fresh c (by omega)] at hq; cases hq
      · have hi : i < rows.length := (List.getElem?_eq_some_iff.1 hr).1
        obtain ⟨j, hj, hbj⟩ := hS.blk (g i) _ (hat i r hr)
        refine ⟨j, by rw [hnew i hi]; exact hj, ?_⟩
        obtain ⟨⟨a1, a2⟩, cc, fz, c1, c2, c3, c4, c5⟩ := hbj
        have hrk : r.cs.all (okS rows.length) = true := (List.all_eq_true.1 hrows) r (List.mem_of_getElem? hr)
        refine ⟨⟨by simpa using a1, fun hs => by have := a2 hs; simpa using this⟩, cc, fz, c1, c2, by simpa using c3, c4, fun o u hu => ?_⟩
        rw [List.getElem?_map] at hu
        cases ho : r.cs[o]? with
        | none => simp [ho] at hu
        | some u0 =>
          simp only [ho, Option.map_some, Option.some.injEq] at hu
          subst hu
          obtain ⟨v', d1, d2⟩ := c5 o (mapS g u0) (by rw [List.getElem?_map, ho]; rfl)
          exact ⟨v', d1, mapS_rel (p := g) (q := (H.next + ·)) hnew ((List.all_eq_true.1 hrk) u0 (List.mem_of_getElem? ho)) d2⟩
    · rcases hcase b1 x hx with ⟨l1, hx'⟩ | ⟨i, r, rfl, hr, rfl⟩
      · rcases hcase b2 y hy with ⟨l2, hy'⟩ | ⟨j, s, rfl, hs, rfl⟩
        · rw [hold b1 l1] at h1; rw [hold b2 l2] at h2
          exact hR.inj b1 b2 x y i1 i2 hx' hy' h1 h2 hne hw
        · have hj : j < rows.length := (List.getElem?_eq_some_iff.1 hs).1
          rw [hold b1 l1] at h1; rw [hnew j hj] at h2
          have := hsz j s i2 hs h2
          have := hR.inh b1 i1 h1
          omega
      · have hi : i < rows.length := (List.getElem?_eq_some_iff.1 hr).1
        rw [hnew i hi] at h1
        rcases hcase b2 y hy with ⟨l2, hy'⟩ | ⟨j, s, rfl, hs, rfl⟩
        · rw [hold b2 l2] at h2
          have := hsz i r i1 hr h1
          have := hR.inh b2 i2 h2
          omega
        · have hj : j < rows.length := (List.getElem?_eq_some_iff.1 hs).1
          rw [hnew j hj] at h2
          exact hS.inj (g i) (g j) _ _ i1 i2 (hat i r hr) (hat j s hs) h1 h2 (fun e => hne (by rw [hinj i j hi hj e])) hw
    · by_cases hb : b < H.next
      · rw [hold b hb]; exact hj
      · rw [hR.fresh b (by omega)] at hj; cases hj
    · obtain ⟨b, x, j, hx, hw, hj, e⟩ := hf
      rcases hcase b x hx with ⟨hl, hx'⟩ | ⟨i, r, rfl, hr, rfl⟩
      · rw [hold b hl] at hj; exact .inl ⟨b, x, j, hx', hw, hj, e⟩
      · rw [hnew i (List.getElem?_eq_some_iff.1 hr).1] at hj
        exact .inr (e ▸ hsz i r j hr hj)
    · obtain ⟨b, x, j, hx, hj, e⟩ := hf
      rcases hcase b x hx with ⟨hl, hx'⟩ | ⟨i, r, rfl, hr, rfl⟩
      · rw [hold b hl] at hj; exact .inl ⟨b, x, j, hx', hj, e⟩
      · rw [hnew i (List.getElem?_eq_some_iff.1 hr).1] at hj
        exact .inr (e ▸ hsz i r j hr hj)
    · rw [hv] at hvc
      exact mapV_rel (p := g) (q := (H.next + ·)) hnew hok hvc
  rcases h with ⟨he, h⟩ | h
  · refine .inl ⟨he, fun ρ w cargs hR hL => ?_⟩
    refine (h (fun _ => none) w cargs (hR0 w) (hlit hargs hL _)).mono ?_
    intro e w' hp
    obtain ⟨vc, ρ', h0, h1, h2, h3⟩ := hp
    obtain ⟨ρ'', k1, k2, k3⟩ := key hR h1 h2 h3
    exact ⟨vc, ρ'', h0, k1, k2, k3⟩
  · refine .inr fun ρ w cargs hR hL => ?_
    obtain ⟨w', vc, ρ', h0, h1, h2, h3⟩ := h (fun _ => none) w cargs (hR0 w) (hlit hargs hL _)
    obtain ⟨ρ'', k1, k2, k3⟩ := key hR h1 h2 h3
    exact ⟨w', vc, ρ'', h0, k1, k2, k3⟩

/-! ### The same, quickly -/

noncomputable def layT (n : Nat) : List RowB → Nat → Tr → Tr
  | [], _, t => t
  | r :: rows, i, t => layT n rows (i + 1) (t.set (n + i) (some (r.blk (n + ·))))

noncomputable def giveT (rows : List RowB) (v : Value) : TM Value := fun T =>
  forceN T.next fun n => bif Nat.blt (n + rows.length) 1099511627776 then some (mapV (n + ·) v, ⟨n + rows.length, layT n rows 0 T.t⟩) else none

theorem get_layT (n : Nat) : ∀ (rows : List RowB) (i : Nat) (t : Tr) (b : Nat), n + i + rows.length < 2 ^ 40 →
    (layT n rows i t).get b = if n + i ≤ b then (match rows[b - (n + i)]? with | some r => some (r.blk (n + ·)) | none => t.get b) else t.get b
  | [], i, t, b, _ => by simp [layT]
  | r :: rows, i, t, b, h => by
    simp only [List.length_cons] at h
    rw [layT, get_layT n rows (i + 1) _ b (by omega), Tr.get_set _ _ _ _ (by omega)]
    by_cases h1 : n + (i + 1) ≤ b
    · have hne : ¬ b = n + i := by omega
      have h2 : n + i ≤ b := by omega
      have e : b - (n + i) = b - (n + (i + 1)) + 1 := by omega
      rw [if_pos h1, if_pos h2, e, List.getElem?_cons_succ]
      simp only [if_neg hne]
    · rw [if_neg h1]
      by_cases h2 : b = n + i
      · subst h2
        rw [if_pos rfl, if_pos (Nat.le_refl _), Nat.sub_self]; rfl
      · rw [if_neg h2, if_neg (by omega)]

theorem giveT_sim (rows : List RowB) (v : Value) : SimT (giveT rows v) (giveM rows v) := by
  intro T u T' h
  unfold giveT at h
  rw [forceN_eq] at h
  cases hb : Nat.blt (T.next + rows.length) 1099511627776 with
  | false => rw [hb] at h; cases h
  | true =>
    rw [hb] at h
    simp only [cond_true] at h
    cases h
    have hlt := blt_lt hb
    have e : T.ah.lay rows = (⟨T.next + rows.length, layT T.next rows 0 T.t⟩ : TH).ah := by
      refine AH.ext rfl fun b => ?_
      show (T.ah.lay rows).at_ b = (layT T.next rows 0 T.t).get b
      rw [get_layT T.next rows 0 T.t b (by omega)]
      simp only [AH.lay, Nat.add_zero]
      rfl
    show some (mapV (T.ah.next + ·) v, T.ah.lay rows) = _
    rw [e]
    rfl

/-! ### A closed run, told by the kernel -/

noncomputable def outOf (r : Option (Value × TH)) (gs : List Nat) : Option (Value × List (Option Blk)) :=
  match r with
  | some (v, T) => some (v, gs.map T.t.get)
  | none => none

theorem callAt_out {P : Program} {ann : FuncId → Ann} {tab : FuncId → Option QFn} {prim : FuncId → Option (List Value → TM Value)} (ht : ∀ f q, tab f = some q → QOk P ann f q) {E : Env} (hE : E.Ok) (hP : E.P = P) (ha : E.ann = ann) (hp : PrimSim E prim)
    {m : Nat} {f : FuncId} {args : List Value} {gs : List Nat} {rows : List RowB} {v : Value}
    (h : outOf (evFunQ tab prim m f args ⟨0, .e⟩) gs = some (mapV (gs.getD · 0) v, rows.map fun r => some (r.blk (gs.getD · 0))))
    (hargs : args.all plainC = true) (hok : okV rows.length v = true) (hrows : rows.all (fun r => r.cs.all (okS rows.length)) = true) (hlen : gs.length = rows.length) (hnd : gs.Nodup) (H : AH) :
    CallAt P f args H (mapV (H.next + ·) v) (H.lay rows) := by
  unfold outOf at h
  cases hr : evFunQ tab prim m f args ⟨0, .e⟩ with
  | none => rw [hr] at h; cases h
  | some r =>
    obtain ⟨v0, T'⟩ := r
    rw [hr] at h
    simp only [Option.some.injEq, Prod.mk.injEq] at h
    obtain ⟨h1, h2⟩ := h
    have hd := den_of_q ht hP ha hp hr
    have he : (⟨0, .e⟩ : TH).ah = ⟨0, fun _ => none⟩ := rfl
    rw [he] at hd
    have hc := den_sim hE hd
    rw [hP] at hc
    refine callAt_give hc hargs (gs.getD · 0) h1 hok hrows (fun i r hi => ?_) (fun i j hi hj e => ?_) H
    · have hil : i < gs.length := by rw [hlen]; exact (List.getElem?_eq_some_iff.1 hi).1
      have e1 := congrArg (fun l => l[i]?) h2
      simp only [List.getElem?_map, hi, Option.map_some, List.getElem?_eq_getElem hil] at e1
      show T'.t.get (gs.getD i 0) = _
      have e2 : gs.getD i 0 = gs[i] := by simp [List.getD, List.getElem?_eq_getElem hil]
      rw [e2]
      exact Option.some.inj e1
    · have hil : i < gs.length := by rw [hlen]; exact hi
      have hjl : j < gs.length := by rw [hlen]; exact hj
      simp only [List.getD, List.getElem?_eq_getElem hil, List.getElem?_eq_getElem hjl, Option.getD_some] at e
      have hpw := List.pairwise_iff_getElem.1 hnd
      rcases Nat.lt_trichotomy i j with h | h | h
      · exact absurd e (hpw i j hil hjl h)
      · exact h
      · exact absurd e.symm (hpw j i hjl hil h)

end Go.Proofs.YtepchknpgeopfaaGreatDoor.E

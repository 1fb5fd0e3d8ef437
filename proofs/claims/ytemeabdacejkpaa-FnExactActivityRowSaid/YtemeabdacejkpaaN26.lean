/-
  The meta layer, part 26: whole functions; tables.
-/
import Derived.Test.YtemeabdacejkpaaN25
namespace Go.Abs
open Go.RowKit
set_option linter.unusedVariables false
set_option linter.unusedSimpArgs false

/-- the captured variables' cells, as a function finds them -/
def entC : List Ty → Nat → Ctx
  | [], _ => []
  | t :: ts, i => (i, .val (.ptr t) .p) :: entC ts (i + 1)
def envC : (cs : List Ty) → (i : Nat) → Ty.dens cs → Env (entC cs i)
  | [], _, _ => ()
  | t :: ts, i, y => (y.1, envC ts (i + 1) y.2)
def decIo : Option Nat → Option Nat | some (n + 1) => some n | _ => none
def entM : Option Nat → Md → Md | some 0, im => im | _, _ => .p
/-- a function's frame when it is entered -/
def ent0 (im : Md) : List Ty → List Ty → Option Nat → Nat → Ctx
  | [], cs, _, i => entC cs i
  | t :: ts, cs, io, i => (i, .val t (entM io im)) :: ent0 im ts cs (decIo io) (i + 1)
def env0 (im : Md) : (ps cs : List Ty) → (io : Option Nat) → (i : Nat) → Ty.dens ps → Ty.dens cs → Env (ent0 im ps cs io i)
  | [], cs, _, i, _, y => envC cs i y
  | t :: ts, cs, io, i, x, y => (x.1, env0 im ts cs (decIo io) (i + 1) x.2 y)

/-- a whole function, read ahead -/
def fnF (C : FC) (cs : List Ty) (body : Code) (xs : Ty.dens C.ps) (ys : Ty.dens cs) : Option C.RT :=
  if C.ps.length + cs.length ≤ C.n then
    match cst C body C.ret [] (ent0 C.im C.ps cs C.io 0) with
    | some r =>
      if r.dead then r.g (env0 C.im C.ps cs C.io 0 xs ys) fun o => match o with
        | .ret y => some y
        | _ => none
      else match retR C r.Δ with
        | some h => r.g (env0 C.im C.ps cs C.io 0 xs ys) fun o => match o with
          | .ret y => some y
          | .norm e => some (h e)
          | _ => none
        | none => none
    | none => none
  else none

section
variable {M : Program} {w : World} {P : Prot}

theorem CapR.at : ∀ {cs : List Ty} {i : Nat} {y : Ty.dens cs} {vs : List Value}, CapR M w P cs y vs → ∀ {tm : Nat → Value} {Tf : Nat → List Nat}, (∀ j v, vs[j]? = some v → tm (i + j) = v) →
    vs.length = cs.length ∧ ∀ t, RepE M w P tm Tf (dyn (entC cs i) (envC cs i y) t) (tm t) [] ∧ (t < i ∨ i + cs.length ≤ t → dyn (entC cs i) (envC cs i y) t = Ex.non)
  | [], i, y, vs, h, tm, Tf, ht => ⟨by rw [show vs = [] from h]; rfl, fun t => ⟨rfl, fun _ => rfl⟩⟩
  | c :: cs, i, y, vs, h, tm, Tf, ht => by
    obtain ⟨v, r, rfl, h1, h3⟩ := h
    have ih := CapR.at (i := i + 1) h3 (tm := tm) (Tf := Tf) (fun j v hj => by
      have := ht (j + 1) v (by simpa using hj)
      rwa [show i + (j + 1) = i + 1 + j by omega] at this)
    refine ⟨by simp [ih.1], fun t => ?_⟩
    by_cases hti : i = t
    · subst hti
      have e : dyn (entC (c :: cs) i) (envC (c :: cs) i y) i = ⟨.val (.ptr c) .p, fun _ => y.1⟩ := dyn_eq (p := (i, .val (.ptr c) .p))
      rw [e]
      refine ⟨?_, fun h => ?_⟩
      · rw [show tm i = v from ht 0 _ rfl]; exact h1
      · simp only [List.length_cons] at h; omega
    · have e : dyn (entC (c :: cs) i) (envC (c :: cs) i y) t = dyn (entC cs (i + 1)) (envC cs (i + 1) y.2) t := dyn_ne (p := (i, .val (.ptr c) .p)) hti
      rw [e]
      exact ⟨(ih.2 t).1, fun h => (ih.2 t).2 (by simp only [List.length_cons] at h; omega)⟩

/-- what the slots own when a function is entered -/
def T0 (io : Option Nat) (i : Nat) (Ti : List Nat) (t : Nat) : List Nat := match io with | some n => if t = i + n then Ti else [] | none => []

theorem ArgsR.cons {im : Md} {io : Option Nat} {t : Ty} {ts : List Ty} {x : Ty.dens (t :: ts)} {vs : List Value} {Ti : List Nat} (h : ArgsR M w P im io (t :: ts) x vs Ti) :
    ∃ v r Ti', vs = v :: r ∧ RepV M t w P (entM io im) x.1 v (T0 io 0 Ti 0) ∧ ArgsR M w P im (decIo io) ts x.2 r Ti' ∧ (∀ i k, T0 (decIo io) (i + 1) Ti' k = if k = i then [] else T0 io i Ti k) := by
  rcases io with _ | _ | n
  · obtain ⟨v, r, h1, h2, h3⟩ := h
    exact ⟨v, r, Ti, h1, h2, h3, fun i k => by simp [T0, decIo]⟩
  · obtain ⟨v, r, h1, h2, h3⟩ := h
    refine ⟨v, r, [], h1, by simpa [T0, entM] using h2, ArgsR.of_none h3, fun i k => ?_⟩
    simp only [T0, decIo, Nat.add_zero]
    split
    · rfl
    · rfl
  · obtain ⟨v, r, h1, h2, h3⟩ := h
    refine ⟨v, r, Ti, h1, by simpa [T0, entM] using h2, h3, fun i k => ?_⟩
    simp only [T0, decIo]
    by_cases hk : k = i
    · subst hk; rw [if_pos rfl, if_neg (by omega)]
    · rw [if_neg hk, show i + 1 + n = i + (n + 1) by omega]

theorem ArgsR.at {im : Md} : ∀ {ps cs : List Ty} {io : Option Nat} {i : Nat} {x : Ty.dens ps} {y : Ty.dens cs} {vs caps : List Value} {Ti : List Nat}, ArgsR M w P im io ps x vs Ti → CapR M w P cs y caps →
    ∀ {tm : Nat → Value} {Tf : Nat → List Nat}, (∀ j v, (vs ++ caps)[j]? = some v → tm (i + j) = v) →
    (vs ++ caps).length = ps.length + cs.length ∧ (∀ n, io = some n → Ti = [] ∨ n < vs.length) ∧ ∀ t, RepE M w P tm Tf (dyn (ent0 im ps cs io i) (env0 im ps cs io i x y) t) (tm t) (T0 io i Ti t) ∧ (t < i ∨ i + (ps.length + cs.length) ≤ t → dyn (ent0 im ps cs io i) (env0 im ps cs io i x y) t = Ex.non)
  | [], cs, io, i, x, y, vs, caps, Ti, h, hp, tm, Tf, ht => by
    have h : vs = [] ∧ Ti = [] := by rcases io with _ | _ | _ <;> exact h
    obtain ⟨rfl, rfl⟩ := h
    have := CapR.at hp (tm := tm) (Tf := Tf) (i := i) ht
    have hT : ∀ t, T0 io i [] t = [] := fun t => by unfold T0; split <;> simp
    refine ⟨by simpa using this.1, fun _ _ => .inl rfl, fun t => ⟨by rw [hT]; exact (this.2 t).1, fun h => (this.2 t).2 (by simpa using h)⟩⟩
  | p :: ps, cs, io, i, x, y, vs, caps, Ti, h, hp, tm, Tf, ht => by
    obtain ⟨v, r, Ti', rfl, h1, h2, h3⟩ := h.cons
    have ih := ArgsR.at (i := i + 1) (x := x.2) h2 hp (tm := tm) (Tf := Tf) (fun j v hj => by
      have := ht (j + 1) v (by simpa using hj)
      rwa [show i + (j + 1) = i + 1 + j by omega] at this)
    refine ⟨by have := ih.1; simp only [List.cons_append, List.length_cons] at this ⊢; omega, fun n hn => ?_, fun t => ?_⟩
    · subst hn
      cases n with
      | zero => exact .inr (by simp)
      | succ n =>
        rcases ih.2.1 n rfl with h' | h'
        · left
          have := h3 0 (0 + (n + 1))
          simp only [T0, decIo] at this
          rw [if_pos (by omega), if_neg (by omega), if_pos trivial] at this
          rw [← this]; exact h'
        · exact .inr (by simp; omega)
    · by_cases hti : i = t
      · subst hti
        have e : dyn (ent0 im (p :: ps) cs io i) (env0 im (p :: ps) cs io i x y) i = ⟨.val p (entM io im), fun _ => x.1⟩ := dyn_eq (p := (i, .val p (entM io im)))
        rw [e]
        refine ⟨?_, fun h => ?_⟩
        · have : tm i = v := ht 0 v rfl
          rw [this]
          have e0 : T0 io i Ti i = T0 io 0 Ti 0 := by
            unfold T0
            cases io with
            | none => rfl
            | some n =>
              simp only
              by_cases hn : n = 0
              · rw [if_pos (by omega), if_pos (by omega)]
              · rw [if_neg (by omega), if_neg (by omega)]
          rw [e0]
          exact h1
        · simp only [List.length_cons] at h; omega
      · have e : dyn (ent0 im (p :: ps) cs io i) (env0 im (p :: ps) cs io i x y) t = dyn (ent0 im ps cs (decIo io) (i + 1)) (env0 im ps cs (decIo io) (i + 1) x.2 y) t := dyn_ne (p := (i, .val p (entM io im))) hti
        rw [e]
        have h4 := h3 i t
        rw [if_neg (Ne.symm hti)] at h4
        rw [← h4]
        exact ⟨(ih.2.2 t).1, fun h => (ih.2.2 t).2 (by simp only [List.length_cons] at h; omega)⟩
end

/-- What is read ahead of a function is what it computes. -/
theorem fnF_ok {M : Program} (hm : M.follows .mixedOrders = true) {f : FuncId} {fn : Func} {F : FC} {cs : List Ty} {body : Code} (hT : TabOk M F.Tb) (hsg : ∀ f s, F.Tb.sg f = some s → SigOk M f s)
    (hpin : ∀ t, F.Tb.pin t = false → F.io ≠ some t) (hiol : ∀ k, F.io = some k → k < F.ps.length)
    (hf : M.funcs[f]? = some fn) (hb : fn.body = some body) (hn : fn.ntmps = F.n) (hrv : fn.results.toList = F.rv) (hname : fn.name ≠ "runtime.NumGoroutine") :
    SigOk M f ⟨F.ps, cs, F.io, F.im, F.R, F.m, fnF F cs body⟩ := by
  refine ⟨⟨fn, hf, hname, by rw [hb]; rfl⟩, fun w P xs ys vs caps Ti y hthere hv hTi hTp hcap hy => ?_⟩
  replace hy : fnF F cs body xs ys = some y := hy
  replace hv : ArgsR M w P F.im F.io F.ps xs vs Ti := hv
  replace hcap : CapR M w P cs ys caps := hcap
  unfold fnF at hy
  split at hy
  · rename_i hle
    refine calls_of_wp hf hb ?_
    generalize htm : (List.toArray (vs ++ caps) ++ Array.replicate (fn.ntmps - (List.toArray (vs ++ caps)).size) undef : Array Value) = tmps
    have hat : ∀ j v, (vs ++ caps)[j]? = some v → tmps.getD (0 + j) undef = v := fun j v hj => by
      rw [← htm, Nat.zero_add]
      have hlt : j < (vs ++ caps).length := (List.getElem?_eq_some_iff.1 hj).1
      rw [Array.getD_eq_getD_getElem?, Array.getElem?_append_left (by simpa using hlt)]
      simp only [List.getElem?_toArray, hj, Option.getD_some]
    obtain ⟨hlen, hio0, hrep⟩ := ArgsR.at (i := 0) hv hcap (tm := fun t => tmps.getD t undef) (Tf := fun t => T0 F.io 0 Ti t) hat
    have hvl : vs.length = F.ps.length := by
      have h2 := (CapR.at (i := 0) hcap (tm := fun j => caps.getD j undef) (Tf := fun _ => []) (fun j v hj => by simp [List.getD_eq_getElem?_getD, hj])).1
      simp only [List.length_append] at hlen; omega
    have hsz : tmps.size = F.n := by
      rw [← htm, Array.size_append, Array.size_replicate, List.size_toArray, hlen, hn]
      omega
    let C : Cx := ⟨M, F.n, fun t => if F.io = some t then vs[t]? else none, Ti, w, P⟩
    have hT0 : ∀ t, T0 F.io 0 Ti t = Ti ∨ T0 F.io 0 Ti t = [] := fun t => by
      unfold T0; split
      · split
        · exact .inl rfl
        · exact .inr rfl
      · exact .inr rfl
    have hpv : ∀ k, F.io = some k → ∃ v, vs[k]? = some v ∧ C.pv k = some v := fun k hk => by
      have hlt : k < vs.length := by rw [hvl]; exact hiol k hk
      exact ⟨vs[k], List.getElem?_eq_getElem hlt, by simp only [C, hk, if_true]; exact List.getElem?_eq_getElem hlt⟩
    have hpin' : ∀ t, F.Tb.pin t = false → C.pv t = none := fun t ht => by simp only [C]; rw [if_neg (hpin t ht)]
    have hsim : SimE C (ent0 F.im F.ps cs F.io 0) (env0 F.im F.ps cs F.io 0 xs ys) { tmps := tmps, defers := [] } w := by
      refine ⟨P, fun t => T0 F.io 0 Ti t, hsz, rfl, fun t ht => (hrep t).2 (.inr (by have : F.n ≤ t := ht; omega)), fun t ht => ?_, ⟨rfl, rfl, rfl, Nat.le_refl _, fun _ _ _ => rfl, fun k hk o => (hTp k hk).2 o, fun _ _ h => h, fun _ _ h => .inl h, hthere⟩, fun t ht => (hrep t).1, fun t => ?_, fun t u htu b hb hb' => ?_, fun t b hb => ?_, fun t v hv => ?_⟩
      · have ht : F.n ≤ t := ht
        unfold T0; split
        · rename_i k hk
          have := hiol k hk
          rw [if_neg (by omega)]
        · rfl
      · rcases hT0 t with h | h
        · simp only [h]; exact hTi
        · simp only [h]; exact List.nodup_nil
      · simp only [T0] at hb hb'
        split at hb
        · rename_i k hk
          rw [hk] at hb'
          simp only at hb'
          split at hb
          · rename_i h1
            split at hb'
            · rename_i h2; exact htu (h1.trans h2.symm)
            · simp at hb'
          · simp at hb
        · simp at hb
      · rcases hT0 t with h | h
        · simp only [h] at hb; exact ⟨.inr hb, (hTp b hb).1⟩
        · simp only [h] at hb; simp at hb
      · simp only [C] at hv
        split at hv
        · have := hat t v (by rw [List.getElem?_append_left (List.getElem?_eq_some_iff.1 hv).1]; exact hv)
          rw [Nat.zero_add] at this
          exact this
        · cases hv
    have hret : ∀ y, ∀ a w', RetE C fn F vs y a w' → bodyPost M fn (fun e w' => ∃ u P' Tr Tq, e = .returned u ∧ PExt Ti w P w' P' ∧ RepV M F.R w' P' F.m y.1 u Tr ∧ IoR M w' P' F.im F.ps F.io y.2 vs Tq ∧
        (Tr ++ Tq).Nodup ∧ ∀ b ∈ Tr ++ Tq, b ∈ Ti ∨ (w.heap.size ≤ b ∧ b < w'.heap.size)) .ret a w' := by
      rintro y a w' ⟨hd, v, P', Tr, Tq, h1, h2, h3, h4, h5, h6⟩
      refine ⟨hd, v, h1, v, P', Tr, Tq, rfl, h2, h3, h4, h5, fun b hb => ?_⟩
      obtain ⟨k1, k2⟩ := h6 b hb
      rcases k1 with k1 | k1
      · exact .inr ⟨k1, k2⟩
      · exact .inl k1
    have cs := fun {Γ : Ctx} {r : SR F.RT Γ} (hc : cst F body F.ret [] Γ = some r) {s : Env Γ} {out : Out (Env r.Δ) (XT r.X) F.RT} (ho : r.f s = some out) {a : Act} {w : World} {Q : Exit → Act → World → Prop} (h : SimE C Γ s a w) (hQ : OPost C fn F vs Q r.X r.Δ out) =>
      cst_sound (C := C) hm hT hsg hpin' rfl hpv hrv body hc ho h hQ
    split at hy
    · rename_i r hr
      split at hy
      · rw [r.ok] at hy
        obtain ⟨o, ho, hy⟩ := bind_some hy
        refine cs hr ho hsim ?_
        cases o with
        | norm e => cases hy
        | exit z => cases hy
        | ret y' => cases hy; exact hret y
      · split at hy
        · rename_i h hh
          rw [r.ok] at hy
          obtain ⟨o, ho, hy⟩ := bind_some hy
          refine cs hr ho hsim ?_
          cases o with
          | norm e =>
            cases hy
            exact fun a' w' h' => hret _ a' w' (retR_sound (C := C) hT rfl hpv hrv hh h')
          | exit z => cases hy
          | ret y' => cases hy; exact hret y
        · cases hy
    · cases hy
  · cases hy

/-! ### Tables -/

/-- looking up a number -/
def lk {α : Type} : List (Nat × α) → Nat → Option α
  | [], _ => none
  | p :: l, n => if p.1 = n then some p.2 else lk l n

def LkAll {α : Type} (Q : Nat → α → Prop) : List (Nat × α) → Prop
  | [] => True
  | p :: l => Q p.1 p.2 ∧ LkAll Q l

theorem lk_all {α : Type} {Q : Nat → α → Prop} : ∀ {l : List (Nat × α)}, LkAll Q l → ∀ n x, lk l n = some x → Q n x
  | [], _, n, x, h => by cases h
  | p :: l, hl, n, x, h => by
    simp only [lk] at h
    split at h
    · rename_i e; cases h; exact e ▸ hl.1
    · exact lk_all hl.2 n x h

/-- what is told of a function: its parameters' types, which of them is turned in place and how that is held; its result, how that is held; how slots are to be held -/
structure Hd where
  ps : List Ty
  cs : List Ty
  io : Option Nat
  im : Md
  R : Ty
  m : Md
  dm : List (Nat × Md)

def mkTab (tys : List (Nat × Ty)) (sgs : List (Nat × FSig)) (h : Hd) : Tab := ⟨lk tys, lk sgs, lk h.dm, fun _ => false, fun n => decide (h.io = some n)⟩
/-- what is fixed for a function of the program -/
def mkFC (tys : List (Nat × Ty)) (sgs : List (Nat × FSig)) (fn : Func) (h : Hd) : FC :=
  ⟨mkTab tys sgs h, fn.ntmps, h.ps, h.io, h.im, h.R, h.m, fn.results.toList⟩
/-- a function of the program, read ahead -/
def fnOf (tys : List (Nat × Ty)) (sgs : List (Nat × FSig)) (fn : Func) (h : Hd) : FSig :=
  ⟨h.ps, h.cs, h.io, h.im, h.R, h.m, fnF (mkFC tys sgs fn h) h.cs (fn.body.getD .skip)⟩
/-- Is this function read? -/
def readOk (tys : List (Nat × Ty)) (sgs : List (Nat × FSig)) (fn : Func) (h : Hd) : Bool :=
  match cst (mkFC tys sgs fn h) (fn.body.getD .skip) (mkFC tys sgs fn h).ret [] (ent0 h.im h.ps h.cs h.io 0) with
  | some r => r.dead || (match retR (mkFC tys sgs fn h) r.Δ with | some _ => true | none => false)
  | none => false
theorem fnOf_ok {M : Program} (hm : M.follows .mixedOrders = true) {tys : List (Nat × Ty)} {sgs : List (Nat × FSig)} {f : FuncId} {fn : Func} {h : Hd}
    (hT : LkAll (TnOk M) tys) (hsg : LkAll (SigOk M) sgs) (hf : M.funcs[f]? = some fn) (hname : fn.name ≠ "runtime.NumGoroutine") (hb : fn.body.isSome = true) (hio : ∀ k, h.io = some k → k < h.ps.length) : SigOk M f (fnOf tys sgs fn h) :=
  fnF_ok hm (F := mkFC tys sgs fn h) (lk_all hT) (lk_all hsg) (fun t ht => by have := of_decide_eq_false ht; exact this) hio hf (by cases h : fn.body with | none => rw [h] at hb; cases hb | some b => rfl) rfl rfl hname
end Go.Abs

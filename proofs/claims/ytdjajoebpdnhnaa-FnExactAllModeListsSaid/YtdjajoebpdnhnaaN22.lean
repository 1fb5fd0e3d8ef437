/-
  The meta layer, part 22: the reading of a region whose order is left open.
-/
import Derived.Test.YtdjajoebpdnhnaaN21
namespace Go.Abs
open Go.RowKit
set_option linter.unusedVariables false
set_option linter.unusedSimpArgs false

def hangs (ds U : List Nat) (e : Ent) : Bool := ds.any (fun d => e.on d) || U.any fun i => e.onT i
theorem hangs_false {ds U : List Nat} {e : Ent} (h : hangs ds U e = false) : HOk ds e ∧ ∀ i ∈ U, e.onT i = false := by
  unfold hangs at h
  simp only [Bool.or_eq_false_iff, List.any_eq_false, Bool.not_eq_true] at h
  exact ⟨h.1, h.2⟩

/-- of an operation: the slots that it writes beside its own; those whose entries are dropped with them; its entry. None if its entry hangs on a slot of the region -/
def usOf (Tb : Tab) (ops : Array Oper) (ds U : List Nat) (acc : List Info) (Γ : Ctx) (o : Oper) : Option (List Nat × List Nat × Ent) :=
  match runs ops Γ.get o with
  | some true => match xop Tb [] Γ.get o with
    | some r0 =>
      let dl := (acc.filter fun q => r0.us.any fun p => q.2.2.2.1.onT p.1).flatMap (·.2.2.1)
      match xop Tb dl Γ.get o with
      | some r => if ds.any (fun d => r.e.on d) || !(r.us.all fun p => U.contains p.1 || ds.contains p.1) || !(U.all fun i => !r.e.onT i || (rdOf ops Γ.get o).contains i) ||
            !(acc.all fun q => q.2.2.1.all (fun t => dl.contains t) || r.us.all fun p => !U.contains p.1 || !q.2.2.2.1.onT p.1) then none else some (r.us.map (·.1), dl, r.e)
      | none => none
    | none => none
  | _ => some ([], [], .und)

/-- the slot of a Bool by which later operations go -/
def kbSlot (gs : List Nat) (Γ : Ctx) (o : Oper) : Option ((d : Nat) × { p : Env Γ → Bool // o.dst = some d ∧ ∃ m, Γ.get d = ⟨.val .bool m, p⟩ }) :=
  match ho : o.dst with
  | some d => if gs.contains d then
      match h : Γ.get d with
      | ⟨.val .bool m, p⟩ => some ⟨d, p, ho ▸ rfl, m, h⟩
      | _ => none
    else none
  | none => none

def dops (Tb : Tab) (n : Nat) (ops : Array Oper) (ds U ks gs : List Nat) : List Oper → List Info → (Γ : Ctx) → Option (CR Γ)
  | [], _, Γ =>
    let Δ := joinC ks (fun k => (Γ.get k).1) (fun k => (Γ.get k).1)
    match weakTo Γ.get Δ with
    | some ρ => some (CR.pure Δ ρ)
    | none => none
  | o :: l, acc, Γ => match usOf Tb ops ds U acc Γ o with
    | some ⟨us, dl, e⟩ => match cop Tb n dl (keys Γ) ops o Γ with
      | some r1 =>
        let rd := rdOf ops Γ.get o ++ dl
        let wr := us ++ o.dst.toList
        if (o.dst.toList.all fun d => ds.contains d) && (o.after.all fun e => !binds e || decide (e.on < acc.length)) && tiedB (predsOf o) acc 0 acc rd wr then
          match kbSlot gs r1.Δ o with
          | some ⟨d, p, _⟩ =>
            match dops Tb n ops ds U ks gs l (acc ++ [(rd, wr, o.dst.toList, e, predsOf o)]) (setKb r1.Δ d true).Γ, dops Tb n ops ds U ks gs l (acc ++ [(rd, wr, o.dst.toList, e, predsOf o)]) (setKb r1.Δ d false).Γ with
            | some r, some r' =>
              let Δ := joinC ks (fun k => (r.Δ.get k).1) (fun k => (r'.Δ.get k).1)
              match weakTo r.Δ.get Δ, weakTo r'.Δ.get Δ with
              | some ρ, some ρ' => some (r1.seq (CR.split p (setKb r1.Δ d true).ρ (setKb r1.Δ d false).ρ r r' Δ ρ ρ'))
              | _, _ => none
            | _, _ => none
          | none => match dops Tb n ops ds U ks gs l (acc ++ [(rd, wr, o.dst.toList, e, predsOf o)]) r1.Δ with
            | some r2 => some (r1.seq r2)
            | none => none
        else none
      | none => none
    | none => none

def dstsOf (ops : Array Oper) : List Nat := ops.toList.filterMap (·.dst)
/-- the slots by which operations of the region go -/
def gsOf (ops : Array Oper) : List Nat := ops.toList.flatMap fun o => guardOf ops o ++ match o.op with | .pick (.tmp t) _ _ => [t] | _ => []

/-- the slots out of which operations of the region take -/
def takesOf (Tb : Tab) (n : Nat) (ops : Array Oper) (gs : List Nat) : List Oper → (Γ : Ctx) → List Nat
  | [], _ => []
  | o :: l, Γ =>
    let q := match cop Tb n [] (keys Γ) ops o Γ with
      | some r1 => some (([] : List Nat), r1)
      | none => match cop Tb n (keys Γ) (keys Γ) ops o Γ with
        | some r1 => some (keys Γ, r1)
        | none => none
    match q with
    | some (dl, r1) =>
      let us := match runs ops Γ.get o with
        | some true => (match xop Tb dl Γ.get o with | some r => r.us.map (·.1) | none => [])
        | _ => []
      match kbSlot gs r1.Δ o with
      | some ⟨d, _, _⟩ => us ++ takesOf Tb n ops gs l (setKb r1.Δ d true).Γ ++ takesOf Tb n ops gs l (setKb r1.Δ d false).Γ
      | none => us ++ takesOf Tb n ops gs l r1.Δ
    | none => []

def dedup : List Nat → List Nat
  | [] => []
  | a :: l => if l.contains a then dedup l else a :: dedup l

def cany (Tb : Tab) (n : Nat) (ops : Array Oper) (ks : List Nat) (Γ : Ctx) : Option (CR Γ) :=
  let ds := dstsOf ops
  let U := dedup (takesOf Tb n ops (gsOf ops) ops.toList Γ)
  let Γ' := Γ.filter fun p => !hangs ds U p.2
  match weakTo Γ.get Γ' with
  | some ρ => match dops Tb n ops ds U ks (gsOf ops) ops.toList [] Γ' with
    | some r => some (CR.pre ρ r)
    | none => none
  | none => none

/-- what one operation writes, and the frame behind it -/
theorem opW_of {Tb : Tab} {n : Nat} {ops : Array Oper} {ds U : List Nat} {acc : List Info} {o : Oper} {Γ : Ctx} {us dl : List Nat} {e : Ent} (hu : usOf Tb ops ds U acc Γ o = some (us, dl, e)) {r1 : CR Γ} (hc : cop Tb n dl (keys Γ) ops o Γ = some r1) {s : Env Γ} {s1 : Env r1.Δ} (hf : r1.f s = some s1)
    (hh : NoHang ds (dyn Γ s)) (hds : ∀ d, o.dst = some d → d ∈ ds) :
    Drops ops ds U dl acc o (dyn Γ s) us e ∧ ∃ W, OpW Tb n ops ds dl o (dyn Γ s) us e W ∧ app (dyn Γ s) W = dyn r1.Δ s1 ∧
      ∀ d m b, o.dst = some d → dyn r1.Δ s1 d = ⟨.val .bool m, fun _ => b⟩ → ∃ W', OpW Tb n ops ds dl o (dyn Γ s) us e W' ∧ app (dyn Γ s) W' = put (dyn r1.Δ s1) d ⟨.kb b, fun _ => ()⟩ := by
  have hrn := runs_nat s ops Γ.get o
  unfold cop at hc
  split at hc
  · rename_i h1
    have h1' : runs ops (dyn Γ s) o = some true := hrn.trans h1
    split at hc
    · rename_i hk
      obtain ⟨q, y, h2, h3, h4, h5⟩ := cexec_run hc hf h1'
      unfold usOf at hu
      rw [h1] at hu
      simp only at hu
      split at hu
      · rename_i r0 hx0
        split at hu
        · rename_i r hx
          split at hu
          · cases hu
          · rename_i hno
            cases hu
            have hxn := xop_nat s Tb ((acc.filter fun q => r0.us.any fun p => q.2.2.2.1.onT p.1).flatMap (·.2.2.1)) Γ.get o
            rw [hx] at hxn
            rw [show xop Tb _ (dyn Γ s) o = some (r.at s) from hxn] at h2
            cases h2
            simp only [Bool.or_eq_true, not_or, Bool.not_eq_true', Bool.not_eq_false, Bool.not_eq_true] at hno
            obtain ⟨⟨⟨hno1, hno2⟩, hno3⟩, hno4⟩ := hno
            have hus : (r.at s).us.map (·.1) = r.us.map (·.1) := by
              unfold Res.at
              rw [List.map_map]
              rfl
            have he : HOk ds (r.at s).e := fun d hd => by
              have := List.any_eq_false.1 hno1 d hd
              exact show r.e.on d = false by simpa using this
            have hnon : ∀ t, t ∉ keys Γ → dyn Γ s t = Ex.non := fun t ht => dyn_keys s ht
            have hfree := chk_free h3 hnon
            have hw : ∀ p ∈ (r.at s).ws y, HOk ds p.2.1 := ws_hok fun p hp => (chk_us h3 p hp).2
            have hfr : ∀ x : Ex Unit, updF (dyn Γ s) o.dst x ((r.at s).ws y) = app (dyn Γ s) ((r.at s).ws y ++ o.dst.toList.map fun d => (d, x)) := updF_app hh hds hw
            have hop1 : OpW Tb n ops ds _ o (dyn Γ s) ((r.at s).us.map (·.1)) (r.at s).e ((r.at s).ws y ++ o.dst.toList.map fun d => (d, ⟨(r.at s).e, fun _ => (r.at s).f () y⟩)) := .run (r.at s) y h1' hxn (chk_nil h3) h4 he hfree
            rw [hus] at hop1
            refine ⟨⟨fun i hi => ?_, fun i hi hon => ?_, fun q hq t ht i hi hiU hon => ?_⟩, _, hop1, ?_, fun d m b hd hb => ?_⟩
            · obtain ⟨p, hp, rfl⟩ := List.mem_map.1 hi
              have := List.all_eq_true.1 hno2 p hp
              simpa using this
            · have := List.all_eq_true.1 hno3 i hi
              rw [show r.e.onT i = true from hon] at this
              show i ∈ rdOf ops Γ.get o
              simpa using this
            · have := List.all_eq_true.1 hno4 q hq
              simp only [Bool.or_eq_true, List.all_eq_true, Bool.not_eq_true'] at this
              rcases this with h | h
              · simpa using h t ht
              · obtain ⟨p, hp, rfl⟩ := List.mem_map.1 hi
                have h := h p hp
                rcases h with h | h
                · have : p.1 ∉ U := by simpa using h
                  exact absurd hiU this
                · rw [hon] at h; cases h
            · rw [h5, hfr]
            · rw [h5, hfr, hd] at hb
              have hxe : (⟨(r.at s).e, fun _ => (r.at s).f () y⟩ : Ex Unit) = ⟨.val .bool m, fun _ => b⟩ := by
                rw [app_append] at hb
                have : setE (app (dyn Γ s) ((r.at s).ws y)) d ⟨(r.at s).e, fun _ => (r.at s).f () y⟩ d = ⟨.val .bool m, fun _ => b⟩ := hb
                unfold setE at this
                rw [if_pos rfl] at this
                exact this
              have hop2 : OpW Tb n ops ds _ o (dyn Γ s) ((r.at s).us.map (·.1)) (r.at s).e ((r.at s).ws y ++ [(d, ⟨.kb b, fun _ => ()⟩)]) := .kb (r.at s) y d m b h1' hxn (chk_nil h3) h4 hd hxe hfree
              rw [hus] at hop2
              refine ⟨_, hop2, ?_⟩
              have hh1 : NoHang ds (app (dyn Γ s) ((r.at s).ws y ++ [(d, ⟨(r.at s).e, fun _ => (r.at s).f () y⟩)])) := app_hang hh fun p hp' => by
                rcases List.mem_append.1 hp' with hp' | hp'
                · exact hw p hp'
                · obtain rfl := by simpa using hp'
                  exact he
              rw [h5, hfr, hd]
              show _ = put (app (dyn Γ s) ((r.at s).ws y ++ [(d, ⟨(r.at s).e, fun _ => (r.at s).f () y⟩)])) d _
              rw [put_setE hh1 (hds d hd), app_append, app_append]
              funext t
              show setE _ _ _ t = setE (setE _ _ _) _ _ t
              unfold setE
              split <;> rfl
        · cases hu
      · cases hu
    · cases hc
  · rename_i h1
    have h1' : runs ops (dyn Γ s) o = some false := hrn.trans h1
    split at hc
    · rename_i d hd
      split at hc
      · rename_i hdn
        simp only [Bool.and_eq_true, decide_eq_true_eq, Bool.not_eq_true'] at hdn
        unfold usOf at hu
        rw [h1] at hu
        cases hu
        cases hc
        cases hf
        have e := CE.put_fr (CE.here Γ) d ⟨.und, fun _ => ()⟩ s
        have e' : dyn _ _ = put (dyn Γ s) d ⟨.und, fun _ => ()⟩ := e
        refine ⟨⟨fun i hi => absurd hi (by simp), fun i _ h => absurd h (by simp [Ent.onT]), fun q _ t _ i hi => absurd hi (by simp)⟩, _, .skip d h1' hd hdn.1 hdn.2, ?_, fun d' m b hd' hb => ?_⟩
        · exact ((put_setE hh (hds d hd) ⟨.und, fun _ => ()⟩).symm).trans e'.symm
        · rw [hd] at hd'
          cases hd'
          replace hb : put (dyn Γ s) d ⟨.und, fun _ => ()⟩ d = ⟨.val .bool m, fun _ => b⟩ := (congrFun e' d).symm.trans hb
          unfold put at hb
          rw [if_pos rfl] at hb
          cases hb
      · cases hc
    · cases hc
  · cases hc

theorem rdOf_nat {ops : Array Oper} {Γ : Ctx} (s : Env Γ) (o : Oper) : rdOf ops (dyn Γ s) o = rdOf ops Γ.get o := rfl

theorem setKb_hang {ds : List Nat} {fr : Fr} (h : NoHang ds fr) (d : Nat) (b : Bool) : NoHang ds (put fr d ⟨.kb b, fun _ => ()⟩) := fun t => by
  unfold put
  split
  · exact fun _ _ => rfl
  · split
    · exact fun _ _ => rfl
    · exact h t

theorem dops_run {Tb : Tab} {n : Nat} {ops : Array Oper} {ds U ks gs : List Nat} : ∀ {l : List Oper} {acc : List Info} {Γ : Ctx} {r : CR Γ}, dops Tb n ops ds U ks gs l acc Γ = some r → ∀ {s : Env Γ} {s' : Env r.Δ}, r.f s = some s' →
    NoHang ds (dyn Γ s) → ∃ Ws acc' fr', DPath Tb n ops ds U acc l (dyn Γ s) Ws acc' fr' ∧ FWk fr' (dyn r.Δ s')
  | [], acc, Γ, r, h, s, s', hf, hh => by
    simp only [dops] at h
    split at h
    · rename_i ρ hρ
      cases h
      cases hf
      exact ⟨_, _, _, .nil _ _, weakTo_wk s hρ⟩
    · cases h
  | o :: l, acc, Γ, r, h, s, s', hf, hh => by
    simp only [dops] at h
    split at h
    · rename_i us dl e hus
      split at h
      · rename_i r1 h1
        split at h
        · rename_i hc
          simp only [Bool.and_eq_true, List.all_eq_true, decide_eq_true_eq] at hc
          obtain ⟨⟨hds, hedge⟩, htied⟩ := hc
          have hds' : ∀ d, o.dst = some d → d ∈ ds := fun d hd => by simpa using hds d (by rw [hd]; simp)
          have hedge' : ∀ e ∈ o.after, binds e = true → e.on < acc.length := fun e he hb => by
            have := Array.all_eq_true'.1 hedge e he
            rw [hb] at this
            simpa using this
          have hgo := fun {s1 : Env r1.Δ} (hq : r1.f s = some s1) => opW_of hus h1 hq hh hds'
          split at h
          · rename_i d p hp _
            obtain ⟨hod, m, hget⟩ := hp
            split at h
            · rename_i r2 r3 h2 h3
              split at h
              · rename_i ρ2 ρ3 hρ2 hρ3
                cases h
                obtain ⟨s1, hq, hf⟩ := bind_some hf
                replace hf : (if p s1 then (r2.f ((setKb r1.Δ d true).ρ s1)).bind (fun e => some (ρ2 e)) else (r3.f ((setKb r1.Δ d false).ρ s1)).bind (fun e => some (ρ3 e))) = some s' := hf
                have hd : dyn r1.Δ s1 d = ⟨.val .bool m, fun _ => p s1⟩ := by unfold dyn; rw [hget]; rfl
                obtain ⟨kd, W, k1, k3, k4⟩ := hgo hq
                obtain ⟨W', q1, q3⟩ := k4 d m (p s1) hod hd
                have q2 := q1.dom
                have hh1 : NoHang ds (dyn r1.Δ s1) := k3 ▸ app_hang hh k1.hang
                cases hps : p s1 with
                | true =>
                  rw [hps] at hf q3
                  simp only [if_true] at hf
                  obtain ⟨s2, hq2, hf⟩ := bind_some hf
                  cases hf
                  obtain ⟨Ws, acc', fr', j1, j2⟩ := dops_run h2 hq2 (by rw [setKb_fr]; exact setKb_hang hh1 d true)
                  rw [setKb_fr, ← q3] at j1
                  exact ⟨W' :: Ws, acc', fr', .step acc o l _ dl us e W' Ws acc' fr' q1 hds' hedge' (by rw [q2]; exact htied) kd (by rw [q2]; exact j1), j2.trans (weakTo_wk s2 hρ2)⟩
                | false =>
                  rw [hps] at hf q3
                  simp only [Bool.false_eq_true, if_false] at hf
                  obtain ⟨s2, hq2, hf⟩ := bind_some hf
                  cases hf
                  obtain ⟨Ws, acc', fr', j1, j2⟩ := dops_run h3 hq2 (by rw [setKb_fr]; exact setKb_hang hh1 d false)
                  rw [setKb_fr, ← q3] at j1
                  exact ⟨W' :: Ws, acc', fr', .step acc o l _ dl us e W' Ws acc' fr' q1 hds' hedge' (by rw [q2]; exact htied) kd (by rw [q2]; exact j1), j2.trans (weakTo_wk s2 hρ3)⟩
              · cases h
            · cases h
          · split at h
            · rename_i r2 h2
              cases h
              obtain ⟨s1, hq, hf⟩ := bind_some hf
              obtain ⟨kd, W, k1, k3, k4⟩ := hgo hq
              have k2 := k1.dom
              obtain ⟨Ws, acc', fr', j1, j2⟩ := dops_run h2 hf (k3 ▸ app_hang hh k1.hang)
              rw [← k3] at j1
              exact ⟨W :: Ws, acc', fr', .step acc o l _ dl us e W Ws acc' fr' k1 hds' hedge' (by rw [k2]; exact htied) kd (by rw [k2]; exact j1), j2⟩
            · cases h
        · cases h
      · cases h
    · cases h

theorem filter_hang {ds U : List Nat} : ∀ {Γ : Ctx} (s : Env (Γ.filter fun p => !hangs ds U p.2)), NoHang ds (dyn _ s) ∧ ∀ t, ∀ i ∈ U, (dyn _ s t).1.onT i = false := by
  intro Γ
  have : ∀ {Δ : Ctx} (s : Env Δ), (∀ p ∈ Δ, hangs ds U p.2 = false) → ∀ t, HOk ds (dyn Δ s t).1 ∧ ∀ i ∈ U, (dyn Δ s t).1.onT i = false := by
    intro Δ
    induction Δ with
    | nil => intro s _ t; exact ⟨fun _ _ => rfl, fun _ _ => rfl⟩
    | cons p Δ ih =>
      intro s h t
      by_cases hp : p.1 = t
      · subst hp
        rw [dyn_eq]
        exact hangs_false (h p (by simp))
      · rw [dyn_ne hp]
        exact ih s.2 (fun q hq => h q (by simp [hq])) t
  intro s
  have := this s fun p hp => by simpa using (List.mem_filter.1 hp).2
  exact ⟨fun t => (this t).1, fun t => (this t).2⟩

section
variable {C : Cx} {fr : Fr} {a : Act} {w : World} {P : Prot} {T : Nat → List Nat}

/-- one more throw of the dice changes nothing else -/
theorem Sim.drawn (h : Sim C fr a w P T) : Sim C fr a { w with drawn := w.drawn + 1 } P T := by
  have hl : Later w P { w with drawn := w.drawn + 1 } P := ⟨Nat.le_refl _, fun _ _ h => h, fun _ _ _ _ h => h⟩
  have hk : ∀ S, Keeps w P { w with drawn := w.drawn + 1 } P S := fun S => ⟨hl, fun _ _ => .of rfl, fun _ _ _ h => h⟩
  refine ⟨h.size, h.defers, h.dom, h.tdom, ⟨h.pext.os, h.pext.tape, h.pext.output, h.pext.size, h.pext.block, h.pext.free, h.pext.prot, h.pext.old, h.pext.there⟩,
    fun t ht => (h.rep t ht).mono (hk _) (fun _ _ => rfl) fun i _ => ⟨rfl, fun b _ => .of rfl⟩, h.nodup, h.apart, h.new, h.pin⟩

/-- A region in whatever order. -/
theorem region_any_sound {Q : Exit → Act → World → Prop} (hm : C.M.follows .mixedOrders = true) {Tb : Tab} (hT : TabOk C.M Tb) (hsg : ∀ f s, Tb.sg f = some s → SigOk C.M f s) (hpin : ∀ t, Tb.pin t = false → C.pv t = none) {id : Nat} {ops : Array Oper} {ks : List Nat} {Γ : Ctx} {r : CR Γ}
    (hc : cany Tb C.n ops ks Γ = some r) {s : Env Γ} {s' : Env r.Δ} (hf : r.f s = some s') (h : Sim C (dyn Γ s) a w P T)
    (hQ : ∀ a' w' P' T', Sim C (dyn r.Δ s') a' w' P' T' → Q .normal a' w') : (Code.region id ops true).wp C.M Q a w := by
  unfold cany at hc
  simp only at hc
  split at hc
  · rename_i ρ hρ
    split at hc
    · rename_i r' hr'
      cases hc
      obtain ⟨P1, T1, h1⟩ := h.drawn.weak (weakTo_wk s hρ)
      obtain ⟨Ws, acc, fr', k1, k2⟩ := dops_run hr' hf (filter_hang _).1
      refine wp_region_any hm ?_
      refine any_sound hT hsg hpin k1 (filter_hang _).1 (filter_hang _).2 (fun a' w' P' T' h' => ?_) ops.size (Array.replicate ops.size false) a _ P1 T1 (by simp) ?_ ?_ ?_
      · obtain ⟨P'', T'', h''⟩ := h'.weak k2
        exact hQ _ _ _ _ h''
      · intro k o hk hl
        have hlt : k < ops.size := (Array.getElem?_eq_some_iff.1 hk).1
        simp [Array.getD, hlt] at hl
      · exact Nat.le_trans (List.length_filter_le _ _) (by simp)
      · have : sel (fun i => (Array.replicate ops.size false).getD i true) 0 Ws (dyn _ (ρ s)) = dyn _ (ρ s) := by
          have h0 : sel (fun _ => false) 0 Ws (dyn _ (ρ s)) = dyn _ (ρ s) := sel_none fun _ _ => rfl
          rw [← h0]
          funext t
          rw [h0]
          refine (sel_cong (L' := fun _ => false) (fun j W hj _ => ?_) rfl).trans (congrFun h0 t)
          have hlt : j < ops.size := by
            have := (List.getElem?_eq_some_iff.1 hj).1
            rw [k1.acc.2.2.1] at this
            simpa using this
          simp [Array.getD, hlt]
        rw [this]
        exact h1
    · cases hc
  · cases hc
end
end Go.Abs

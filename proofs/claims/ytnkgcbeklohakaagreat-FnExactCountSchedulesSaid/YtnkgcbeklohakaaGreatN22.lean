/-
  The meta layer, part 22: the reading of a region whose order is left open.
-/
import Derived.Test.YtnkgcbeklohakaaGreatN21
namespace Go.Abs
open Go.RowKit
set_option linter.unusedVariables false
set_option linter.unusedSimpArgs false

def hangs (ds U : List Nat) (e : Ent) : Bool := ds.any (fun d => e.on d) || U.any fun i => e.onT i
theorem hangs_false {ds U : List Nat} {e : Ent} (h : hangs ds U e = false) : (∀ d ∈ ds, e.on d = false) ∧ ∀ i ∈ U, e.onT i = false := by
  unfold hangs at h
  simp only [Bool.or_eq_false_iff, List.any_eq_false, Bool.not_eq_true] at h
  exact ⟨h.1, h.2⟩

/-- of an operation: the slots that it writes beside its own; those whose entries hang, or hung, on them; those whose entries hang, or hung, on its own slot, and which of them are dropped; its entry -/
structure UsI where
  us : List Nat
  dl : List Nat
  ad : List Nat
  dd : List Nat
  e : Ent
def onDst (dst : Option Nat) (e : Ent) : Bool := match dst with | some d => e.on d | none => false
def adOf (acc : List Info) (dst : Option Nat) : List Nat := (acc.filter fun q => onDst dst q.2.2.2.1).flatMap (·.2.2.1)
def ddOf (ad us : List Nat) (dst : Option Nat) (Γ : Ctx) : List Nat := ad.filter fun t => !us.contains t && dst != some t && onDst dst (Γ.get t).1
/-- whatever hangs on the operation's own slot is dropped -/
def freeB (us dd : List Nat) (dst : Option Nat) (Γ : Ctx) : Bool := (keys Γ).all fun t => us.contains t || dd.contains t || dst == some t || !onDst dst (Γ.get t).1
def usOf (Tb : Tab) (ops : Array Oper) (Z ds U : List Nat) (acc : List Info) (Γ : Ctx) (o : Oper) : Option UsI :=
  match runs ops Γ.get o with
  | some true => match xop Tb [] Γ.get o with
    | some r0 =>
      let dl := (acc.filter fun q => r0.us.any fun p => q.2.2.2.1.onT p.1).flatMap (·.2.2.1)
      match xop Tb dl Γ.get o with
      | some r =>
        let us := r.us.map (·.1)
        let ad := adOf acc o.dst
        let dd := ddOf ad us o.dst Γ
        if us.all (fun i => U.contains i) && U.all (fun i => !r.e.onT i || (rdZ Z ops Γ.get o).contains i) && ds.all (fun d => !r.e.on d || (rdZ Z ops Γ.get o).contains d) &&
            acc.all (fun q => q.2.2.1.all (fun t => dl.contains t) || us.all fun i => !q.2.2.2.1.onT i) && dd.all (fun t => us.all fun i => !(Γ.get t).1.onT i) && freeB us dd o.dst Γ && (r.us.all (fun p => !Z.contains p.1 || sameK p.2.1 (Γ.get p.1).1) && dd.all (fun t => !Z.contains t) && o.dst.toList.all fun t => !Z.contains t) then some ⟨us, dl, ad, dd, r.e⟩ else none
      | none => none
    | none => none
  | _ =>
    let ad := adOf acc o.dst
    let dd := ddOf ad [] o.dst Γ
    if freeB [] dd o.dst Γ && (dd.all (fun t => !Z.contains t) && o.dst.toList.all fun t => !Z.contains t) then some ⟨[], [], ad, dd, .und⟩ else none

/-- the slot of a Bool by which later operations go -/
def kbSlot (gs : List Nat) (Γ : Ctx) (o : Oper) : Option ((d : Nat) × { p : Env Γ → Bool // o.dst = some d ∧ ∃ m, Γ.get d = ⟨.val .bool m, p⟩ }) :=
  match ho : o.dst with
  | some d => if gs.contains d then
      match h : Γ.get d with
      | ⟨.val .bool m, p⟩ => some ⟨d, p, ho ▸ rfl, m, h⟩
      | _ => none
    else none
  | none => none

def dops (Tb : Tab) (n : Nat) (ops : Array Oper) (Z ds U ks gs : List Nat) : List Oper → List Info → (Γ : Ctx) → Option (CR Γ)
  | [], _, Γ =>
    let Δ := joinC ks (fun k => (Γ.get k).1) (fun k => (Γ.get k).1)
    match weakTo Γ.get Δ with
    | some ρ => some (CR.pure Δ ρ)
    | none => none
  | o :: l, acc, Γ => match usOf Tb ops Z ds U acc Γ o with
    | some ⟨us, dl, ad, dd, e⟩ => match cop Tb n dl (keys Γ) ops o Γ with
      | some r1 =>
        let rd := rdZ Z ops Γ.get o ++ dl ++ ad
        let wr := us ++ dd ++ o.dst.toList
        if (o.dst.toList.all fun d => ds.contains d) && (o.after.all fun e => !binds e || decide (e.on < acc.length)) && tiedB (predsOf o) acc 0 acc rd wr then
          match kbSlot gs r1.Δ o with
          | some ⟨d, p, _⟩ =>
            match dops Tb n ops Z ds U ks gs l (acc ++ [(rd, wr, o.dst.toList, e, predsOf o)]) (setKb r1.Δ d true).Γ, dops Tb n ops Z ds U ks gs l (acc ++ [(rd, wr, o.dst.toList, e, predsOf o)]) (setKb r1.Δ d false).Γ with
            | some r, some r' =>
              let Δ := joinC ks (fun k => (r.Δ.get k).1) (fun k => (r'.Δ.get k).1)
              match weakTo r.Δ.get Δ, weakTo r'.Δ.get Δ with
              | some ρ, some ρ' => some (r1.seq (CR.split p (setKb r1.Δ d true).ρ (setKb r1.Δ d false).ρ r r' Δ ρ ρ'))
              | _, _ => none
            | _, _ => none
          | none => match dops Tb n ops Z ds U ks gs l (acc ++ [(rd, wr, o.dst.toList, e, predsOf o)]) r1.Δ with
            | some r2 => some (r1.seq r2)
            | none => none
        else none
      | none => none
    | none => none

def dstsOf (ops : Array Oper) : List Nat := ops.toList.filterMap (·.dst)
/-- the slots by which operations of the region go -/
def gsOf (ops : Array Oper) : List Nat := ops.toList.flatMap fun o => guardOf ops o ++ match o.op with | .pick (.tmp t) _ _ => [t] | _ => []

/-- the slots out of which operations of the region take -/
def takesOf (Tb : Tab) (n : Nat) (ops : Array Oper) (gs : List Nat) : List Oper → (Γ : Ctx) → List Nat
  | [], _ => []
  | o :: l, Γ =>
    let q := match cop Tb n [] (keys Γ) ops o Γ with
      | some r1 => some (([] : List Nat), r1)
      | none => match cop Tb n (keys Γ) (keys Γ) ops o Γ with
        | some r1 => some (keys Γ, r1)
        | none => none
    match q with
    | some (dl, r1) =>
      let us := match runs ops Γ.get o with
        | some true => (match xop Tb dl Γ.get o with | some r => r.us.map (·.1) | none => [])
        | _ => []
      match kbSlot gs r1.Δ o with
      | some ⟨d, _, _⟩ => us ++ takesOf Tb n ops gs l (setKb r1.Δ d true).Γ ++ takesOf Tb n ops gs l (setKb r1.Δ d false).Γ
      | none => us ++ takesOf Tb n ops gs l r1.Δ
    | none => []

def dedup : List Nat → List Nat
  | [] => []
  | a :: l => if l.contains a then dedup l else a :: dedup l

/-- slots that are turned, not filled: a move of one looks only at how it is held -/
def zOf (ds U : List Nat) (Γ : Ctx) : List Nat := U.filter fun t => !ds.contains t && (kindE (Γ.get t).1).isSome

def cany (Tb : Tab) (n : Nat) (ops : Array Oper) (ks : List Nat) (Γ : Ctx) : Option (CR Γ) :=
  let ds := dstsOf ops
  let U := dedup (takesOf Tb n ops (gsOf ops) ops.toList Γ)
  let Γ' := Γ.filter fun p => !hangs ds U p.2
  match weakTo Γ.get Γ' with
  | some ρ => match dops Tb n ops [] ds U ks (gsOf ops) ops.toList [] Γ' with
    | some r => some (CR.pre ρ r)
    | none => match dops Tb n ops (zOf ds U Γ') ds U ks (gsOf ops) ops.toList [] Γ' with
      | some r => some (CR.pre ρ r)
      | none => none
  | none => none

theorem onDst_some {d : Nat} {e : Ent} : onDst (some d) e = e.on d := rfl
theorem adOf_mem {acc : List Info} {dst : Option Nat} : ∀ q ∈ acc, ∀ t ∈ q.2.2.1, ∀ d, dst = some d → q.2.2.2.1.on d = true → t ∈ adOf acc dst := fun q hq t ht d hd hon => by
  unfold adOf
  refine List.mem_flatMap.2 ⟨q, List.mem_filter.2 ⟨hq, ?_⟩, ht⟩
  rw [hd]
  exact hon
theorem ddOf_drop {ad us : List Nat} {dst : Option Nat} {Γ : Ctx} {s : Env Γ} : DropD dst us (ddOf ad us dst Γ) (dyn Γ s) := fun t ht => by
  have h := (List.mem_filter.1 ht).2
  simp only [Bool.and_eq_true, Bool.not_eq_true', bne_iff_ne, ne_eq] at h
  obtain ⟨⟨h1, h2⟩, h3⟩ := h
  cases hd : dst with
  | none => rw [hd] at h3; cases h3
  | some d =>
    rw [hd] at h2 h3
    exact ⟨by simpa using h1, d, rfl, fun e => h2 (by rw [e]), h3⟩
theorem freeB_ok {us dd : List Nat} {dst : Option Nat} {Γ : Ctx} (h : freeB us dd dst Γ = true) (s : Env Γ) : FreeD dst (us ++ dd ++ dst.toList) (dyn Γ s) := by
  intro t ht d hd
  by_cases hk : t ∈ keys Γ
  · have := List.all_eq_true.1 h t hk
    simp only [Bool.or_eq_true, beq_iff_eq, Bool.not_eq_true'] at this
    simp only [List.mem_append, not_or] at ht
    rcases this with ((h1 | h1) | h1) | h1
    · exact absurd (by simpa using h1) ht.1.1
    · exact absurd (by simpa using h1) ht.1.2
    · exact absurd (by rw [h1]; simp) ht.2
    · rw [hd] at h1
      exact h1
  · rw [dyn_keys s hk]
    rfl
/-- what one operation writes, and the frame behind it -/
theorem opW_of {Tb : Tab} {n : Nat} {ops : Array Oper} {Z ds U : List Nat} {acc : List Info} {o : Oper} {Γ : Ctx} {us dl ad dd : List Nat} {e : Ent} (hu : usOf Tb ops Z ds U acc Γ o = some ⟨us, dl, ad, dd, e⟩) {r1 : CR Γ} (hc : cop Tb n dl (keys Γ) ops o Γ = some r1) {s : Env Γ} {s1 : Env r1.Δ} (hf : r1.f s = some s1) :
    Drops ops Z ds U dl ad dd acc o (dyn Γ s) us e ∧ ∃ W, OpW Tb n ops dl dd o (dyn Γ s) us e W ∧ KeepZ Z (dyn Γ s) W ∧ app (dyn Γ s) W = dyn r1.Δ s1 ∧
      ∀ d m b, o.dst = some d → dyn r1.Δ s1 d = ⟨.val .bool m, fun _ => b⟩ → ∃ W', OpW Tb n ops dl dd o (dyn Γ s) us e W' ∧ KeepZ Z (dyn Γ s) W' ∧ app (dyn Γ s) W' = put (dyn r1.Δ s1) d ⟨.kb b, fun _ => ()⟩ := by
  have hrn := runs_nat s ops Γ.get o
  unfold cop at hc
  split at hc
  · rename_i h1
    have h1' : runs ops (dyn Γ s) o = some true := hrn.trans h1
    split at hc
    · rename_i hk
      obtain ⟨q, y, h2, h3, h4, h5⟩ := cexec_run hc hf h1'
      unfold usOf at hu
      rw [h1] at hu
      simp only at hu
      split at hu
      · rename_i r0 hx0
        split at hu
        · rename_i r hx
          split at hu
          · rename_i hyes
            cases hu
            have hxn := xop_nat s Tb ((acc.filter fun q => r0.us.any fun p => q.2.2.2.1.onT p.1).flatMap (·.2.2.1)) Γ.get o
            rw [hx] at hxn
            rw [show xop Tb _ (dyn Γ s) o = some (r.at s) from hxn] at h2
            cases h2
            simp only [Bool.and_eq_true] at hyes
            obtain ⟨⟨⟨⟨⟨⟨y1, y2⟩, y3⟩, y4⟩, y5⟩, y6⟩, ⟨y7, y8⟩, y9⟩ := hyes
            have hus : (r.at s).us.map (·.1) = r.us.map (·.1) := by
              unfold Res.at
              rw [List.map_map]
              rfl
            have hnon : ∀ t, t ∉ keys Γ → dyn Γ s t = Ex.non := fun t ht => dyn_keys s ht
            have hfree := chk_free (dd := ddOf (adOf acc o.dst) (r.us.map (·.1)) o.dst Γ) h3 hnon
            have hfreeD : FreeD o.dst ((r.at s).us.map (·.1) ++ ddOf (adOf acc o.dst) (r.us.map (·.1)) o.dst Γ ++ o.dst.toList) (dyn Γ s) := by rw [hus]; exact freeB_ok y6 s
            have hdrop : DropD o.dst ((r.at s).us.map (·.1)) (ddOf (adOf acc o.dst) (r.us.map (·.1)) o.dst Γ) (dyn Γ s) := by rw [hus]; exact ddOf_drop
            have hw : ∀ p ∈ (r.at s).ws y, ∀ i, p.2.1.on i = false := fun p hp i => by
              obtain ⟨q, hq, rfl⟩ := Res.mem_ws hp
              exact Ent.own_on (chk_us h3 q hq).2 i
            have hfr : ∀ x : Ex Unit, updF (dyn Γ s) o.dst x ((r.at s).ws y) = app (dyn Γ s) ((r.at s).ws y ++ nonW (ddOf (adOf acc o.dst) (r.us.map (·.1)) o.dst Γ) ++ o.dst.toList.map fun d => (d, x)) := updF_app hw (by rw [Res.wdom_ws]; exact hfreeD) (by rw [Res.wdom_ws]; exact hdrop)
            have hop1 : OpW Tb n ops _ (ddOf (adOf acc o.dst) (r.us.map (·.1)) o.dst Γ) o (dyn Γ s) ((r.at s).us.map (·.1)) (r.at s).e ((r.at s).ws y ++ nonW (ddOf (adOf acc o.dst) (r.us.map (·.1)) o.dst Γ) ++ o.dst.toList.map fun d => (d, ⟨(r.at s).e, fun _ => (r.at s).f () y⟩)) := .run (r.at s) y h1' hxn (chk_nil h3) h4 hfree hfreeD hdrop
            rw [hus] at hop1
            have hkeep : ∀ V : WS, (∀ p ∈ V, p.1 ∈ o.dst.toList) → KeepZ Z (dyn Γ s) ((r.at s).ws y ++ nonW (ddOf (adOf acc o.dst) (r.us.map (·.1)) o.dst Γ) ++ V) := fun V hV p hp hz => by
              rcases List.mem_append.1 hp with hp | hp
              · rcases List.mem_append.1 hp with hp | hp
                · obtain ⟨q, hq, rfl⟩ := Res.mem_ws hp
                  obtain ⟨q0, hq0, rfl⟩ := List.mem_map.1 (show q ∈ r.us.map _ from hq)
                  have := List.all_eq_true.1 y7 q0 hq0
                  simp only [Bool.or_eq_true, Bool.not_eq_true'] at this
                  rcases this with h | h
                  · have hz' : Z.contains q0.1 = true := by simpa using hz
                    rw [hz'] at h; cases h
                  · exact sameK_eq h
                · obtain ⟨t, ht, rfl⟩ := List.mem_map.1 hp
                  have := List.all_eq_true.1 y8 t ht
                  have hz' : Z.contains t = true := by simpa using hz
                  rw [hz'] at this; cases this
              · have := List.all_eq_true.1 y9 p.1 (hV p hp)
                have hz' : Z.contains p.1 = true := by simpa using hz
                rw [hz'] at this; cases this
            refine ⟨⟨fun i hi => ?_, fun i hi hon => ?_, fun d hd hon => ?_, fun q hq t ht i hi hon => ?_, adOf_mem, fun t ht => (List.mem_filter.1 ht).1, fun t ht i hi => ?_⟩, _, hop1, hkeep _ (fun p hp => by obtain ⟨d, hd, rfl⟩ := List.mem_map.1 hp; exact hd), ?_, fun d m b hd hb => ?_⟩
            · simpa using List.all_eq_true.1 y1 i hi
            · have := List.all_eq_true.1 y2 i hi
              rw [show r.e.onT i = true from hon] at this
              show i ∈ rdZ Z ops Γ.get o
              simpa using this
            · have := List.all_eq_true.1 y3 d hd
              rw [show r.e.on d = true from hon] at this
              show d ∈ rdZ Z ops Γ.get o
              simpa using this
            · have := List.all_eq_true.1 y4 q hq
              simp only [Bool.or_eq_true, List.all_eq_true, Bool.not_eq_true'] at this
              rcases this with h | h
              · simpa using h t ht
              · have := h i hi
                rw [hon] at this; cases this
            · have := List.all_eq_true.1 y5 t ht
              have := List.all_eq_true.1 this i hi
              show (Γ.get t).1.onT i = false
              simpa using this
            · rw [h5, hfr]
            · have hval : updF (dyn Γ s) o.dst ⟨(r.at s).e, fun _ => (r.at s).f () y⟩ ((r.at s).ws y) d = ⟨(r.at s).e, fun _ => (r.at s).f () y⟩ := by
                unfold updF
                rw [hd]
                show put _ d _ d = _
                unfold put
                rw [if_pos rfl]
              have hxe : (⟨(r.at s).e, fun _ => (r.at s).f () y⟩ : Ex Unit) = ⟨.val .bool m, fun _ => b⟩ := by
                rw [h5, hval] at hb
                exact hb
              have hop2 : OpW Tb n ops _ (ddOf (adOf acc o.dst) (r.us.map (·.1)) o.dst Γ) o (dyn Γ s) ((r.at s).us.map (·.1)) (r.at s).e ((r.at s).ws y ++ nonW (ddOf (adOf acc o.dst) (r.us.map (·.1)) o.dst Γ) ++ [(d, ⟨.kb b, fun _ => ()⟩)]) := .kb (r.at s) y d m b h1' hxn (chk_nil h3) h4 hd hxe hfree hfreeD hdrop
              rw [hus] at hop2
              refine ⟨_, hop2, hkeep _ (fun p hp => by
                rw [List.mem_singleton.1 hp, hd]
                simp), ?_⟩
              funext t
              by_cases htd : t = d
              · rw [app_append]
                show setE _ d _ t = put _ d _ t
                unfold setE put
                rw [if_pos htd, if_pos htd]
              · have hoff : (dyn r1.Δ s1 t).1.on d = false := by
                  rw [h5]
                  unfold updF
                  rw [hd]
                  show (put _ d _ t).1.on d = false
                  unfold put
                  rw [if_neg htd]
                  split
                  · rfl
                  · rename_i hno; simpa using hno
                unfold put
                rw [if_neg htd, hoff, if_neg (by simp), h5, hfr, app_append, app_append (W := (r.at s).ws y ++ nonW _), hd]
                show setE _ d _ t = setE _ d _ t
                unfold setE
                rw [if_neg htd, if_neg htd]
          · cases hu
        · cases hu
      · cases hu
    · cases hc
  · rename_i h1
    have h1' : runs ops (dyn Γ s) o = some false := hrn.trans h1
    split at hc
    · rename_i d hd
      split at hc
      · rename_i hdn
        simp only [Bool.and_eq_true, decide_eq_true_eq, Bool.not_eq_true'] at hdn
        unfold usOf at hu
        rw [h1] at hu
        simp only at hu
        split at hu
        · rename_i hfb
          simp only [Bool.and_eq_true] at hfb
          obtain ⟨hfb, y8, y9⟩ := hfb
          cases hu
          cases hc
          cases hf
          have e := CE.put_fr (CE.here Γ) d ⟨.und, fun _ => ()⟩ s
          have e' : dyn _ _ = put (dyn Γ s) d ⟨.und, fun _ => ()⟩ := e
          have hfd := freeB_ok hfb s
          have hup := updF_app (fr := dyn Γ s) (us := []) (dst := o.dst) (fun p hp => by simp at hp) hfd ddOf_drop ⟨.und, fun _ => ()⟩
          refine ⟨⟨fun i hi => absurd hi (by simp), fun i _ h => absurd h (by simp [Ent.onT]), fun i _ h => absurd h (by simp [Ent.on]), fun q _ t _ i hi => absurd hi (by simp), adOf_mem, fun t ht => (List.mem_filter.1 ht).1, fun t _ i hi => absurd hi (by simp)⟩, _, .skip d h1' hd hdn.1 hdn.2 hfd ddOf_drop, fun p hp hz => ?_, ?_, fun d' m b hd' hb => ?_⟩
          · have hz' : Z.contains p.1 = true := by simpa using hz
            rcases List.mem_append.1 hp with hp | hp
            · obtain ⟨t, ht, rfl⟩ := List.mem_map.1 (show p ∈ nonW _ by simpa using hp)
              have := List.all_eq_true.1 y8 t ht
              rw [show Z.contains t = true from hz'] at this; cases this
            · obtain rfl := by simpa using hp
              have := List.all_eq_true.1 y9 d (by rw [hd]; simp)
              rw [show Z.contains d = true from hz'] at this; cases this
          · have h9 : (o.dst.toList.map fun d => (d, (⟨.und, fun _ => ()⟩ : Ex Unit))) = [(d, ⟨.und, fun _ => ()⟩)] := by rw [hd]; rfl
            rw [h9] at hup
            have h8 : updF (dyn Γ s) o.dst ⟨.und, fun _ => ()⟩ [] = put (dyn Γ s) d ⟨.und, fun _ => ()⟩ := by unfold updF; rw [hd]; rfl
            exact (hup.symm.trans h8).trans e'.symm
          · rw [hd] at hd'
            cases hd'
            replace hb : put (dyn Γ s) d ⟨.und, fun _ => ()⟩ d = ⟨.val .bool m, fun _ => b⟩ := (congrFun e' d).symm.trans hb
            unfold put at hb
            rw [if_pos rfl] at hb
            cases hb
        · cases hu
      · cases hc
    · cases hc
  · cases hc

theorem rdZ_nat {Z : List Nat} {ops : Array Oper} {Γ : Ctx} (s : Env Γ) (o : Oper) : rdZ Z ops (dyn Γ s) o = rdZ Z ops Γ.get o := rfl

theorem dops_run {Tb : Tab} {n : Nat} {ops : Array Oper} {Z ds U ks gs : List Nat} : ∀ {l : List Oper} {acc : List Info} {Γ : Ctx} {r : CR Γ}, dops Tb n ops Z ds U ks gs l acc Γ = some r → ∀ {s : Env Γ} {s' : Env r.Δ}, r.f s = some s' →
    ∃ Ws acc' fr', DPath Tb n ops Z ds U acc l (dyn Γ s) Ws acc' fr' ∧ FWk fr' (dyn r.Δ s')
  | [], acc, Γ, r, h, s, s', hf => by
    simp only [dops] at h
    split at h
    · rename_i ρ hρ
      cases h
      cases hf
      exact ⟨_, _, _, .nil _ _, weakTo_wk s hρ⟩
    · cases h
  | o :: l, acc, Γ, r, h, s, s', hf => by
    simp only [dops] at h
    split at h
    · rename_i us dl ad dd e hus
      split at h
      · rename_i r1 h1
        split at h
        · rename_i hc
          simp only [Bool.and_eq_true, List.all_eq_true, decide_eq_true_eq] at hc
          obtain ⟨⟨hds, hedge⟩, htied⟩ := hc
          have hds' : ∀ d, o.dst = some d → d ∈ ds := fun d hd => by simpa using hds d (by rw [hd]; simp)
          have hedge' : ∀ e ∈ o.after, binds e = true → e.on < acc.length := fun e he hb => by
            have := Array.all_eq_true'.1 hedge e he
            rw [hb] at this
            simpa using this
          have hgo := fun {s1 : Env r1.Δ} (hq : r1.f s = some s1) => opW_of hus h1 hq
          split at h
          · rename_i d p hp _
            obtain ⟨hod, m, hget⟩ := hp
            split at h
            · rename_i r2 r3 h2 h3
              split at h
              · rename_i ρ2 ρ3 hρ2 hρ3
                cases h
                obtain ⟨s1, hq, hf⟩ := bind_some hf
                replace hf : (if p s1 then (r2.f ((setKb r1.Δ d true).ρ s1)).bind (fun e => some (ρ2 e)) else (r3.f ((setKb r1.Δ d false).ρ s1)).bind (fun e => some (ρ3 e))) = some s' := hf
                have hd : dyn r1.Δ s1 d = ⟨.val .bool m, fun _ => p s1⟩ := by unfold dyn; rw [hget]; rfl
                obtain ⟨kd, W, k1, k1z, k3, k4⟩ := hgo hq
                obtain ⟨W', q1, q1z, q3⟩ := k4 d m (p s1) hod hd
                have q2 := q1.dom
                cases hps : p s1 with
                | true =>
                  rw [hps] at hf q3
                  simp only [if_true] at hf
                  obtain ⟨s2, hq2, hf⟩ := bind_some hf
                  cases hf
                  obtain ⟨Ws, acc', fr', j1, j2⟩ := dops_run h2 hq2
                  rw [setKb_fr, ← q3] at j1
                  exact ⟨W' :: Ws, acc', fr', .step acc o l _ dl ad dd us e W' Ws acc' fr' q1 hds' hedge' (by rw [q2]; exact htied) kd q1z (by rw [q2]; exact j1), j2.trans (weakTo_wk s2 hρ2)⟩
                | false =>
                  rw [hps] at hf q3
                  simp only [Bool.false_eq_true, if_false] at hf
                  obtain ⟨s2, hq2, hf⟩ := bind_some hf
                  cases hf
                  obtain ⟨Ws, acc', fr', j1, j2⟩ := dops_run h3 hq2
                  rw [setKb_fr, ← q3] at j1
                  exact ⟨W' :: Ws, acc', fr', .step acc o l _ dl ad dd us e W' Ws acc' fr' q1 hds' hedge' (by rw [q2]; exact htied) kd q1z (by rw [q2]; exact j1), j2.trans (weakTo_wk s2 hρ3)⟩
              · cases h
            · cases h
          · split at h
            · rename_i r2 h2
              cases h
              obtain ⟨s1, hq, hf⟩ := bind_some hf
              obtain ⟨kd, W, k1, k1z, k3, k4⟩ := hgo hq
              have k2 := k1.dom
              obtain ⟨Ws, acc', fr', j1, j2⟩ := dops_run h2 hf
              rw [← k3] at j1
              exact ⟨W :: Ws, acc', fr', .step acc o l _ dl ad dd us e W Ws acc' fr' k1 hds' hedge' (by rw [k2]; exact htied) kd k1z (by rw [k2]; exact j1), j2⟩
            · cases h
        · cases h
      · cases h
    · cases h

theorem filter_hang {ds U : List Nat} : ∀ {Γ : Ctx} (s : Env (Γ.filter fun p => !hangs ds U p.2)), (∀ t, ∀ d ∈ ds, (dyn _ s t).1.on d = false) ∧ ∀ t, ∀ i ∈ U, (dyn _ s t).1.onT i = false := by
  intro Γ
  have : ∀ {Δ : Ctx} (s : Env Δ), (∀ p ∈ Δ, hangs ds U p.2 = false) → ∀ t, (∀ d ∈ ds, (dyn Δ s t).1.on d = false) ∧ ∀ i ∈ U, (dyn Δ s t).1.onT i = false := by
    intro Δ
    induction Δ with
    | nil => intro s _ t; exact ⟨fun _ _ => rfl, fun _ _ => rfl⟩
    | cons p Δ ih =>
      intro s h t
      by_cases hp : p.1 = t
      · subst hp
        rw [dyn_eq]
        exact hangs_false (h p (by simp))
      · rw [dyn_ne hp]
        exact ih s.2 (fun q hq => h q (by simp [hq])) t
  intro s
  have := this s fun p hp => by simpa using (List.mem_filter.1 hp).2
  exact ⟨fun t => (this t).1, fun t => (this t).2⟩

section
variable {C : Cx} {fr : Fr} {a : Act} {w : World} {P : Prot} {T : Nat → List Nat}

/-- one more throw of the dice changes nothing else -/
theorem Sim.drawn (h : Sim C fr a w P T) : Sim C fr a { w with drawn := w.drawn + 1 } P T := by
  have hl : Later w P { w with drawn := w.drawn + 1 } P := ⟨Nat.le_refl _, fun _ _ h => h, fun _ _ _ _ h => h⟩
  have hk : ∀ S, Keeps w P { w with drawn := w.drawn + 1 } P S := fun S => ⟨hl, fun _ _ => .of rfl, fun _ _ _ h => h⟩
  refine ⟨h.size, h.defers, h.dom, h.tdom, ⟨h.pext.os, h.pext.tape, h.pext.output, h.pext.size, h.pext.block, h.pext.free, h.pext.prot, h.pext.old, h.pext.there⟩,
    fun t ht => (h.rep t ht).mono (hk _) (fun _ _ => rfl) fun i _ => ⟨rfl, fun b _ => .of rfl⟩, h.nodup, h.apart, h.new, h.pin⟩

/-- A region in whatever order. -/
theorem region_any_sound {Q : Exit → Act → World → Prop} (hm : C.M.follows .mixedOrders = true) {Tb : Tab} (hT : TabOk C.M Tb) (hsg : ∀ f s, Tb.sg f = some s → SigOk C.M f s) (hpin : ∀ t, Tb.pin t = false → C.pv t = none) {id : Nat} {ops : Array Oper} {ks : List Nat} {Γ : Ctx} {r : CR Γ}
    (hc : cany Tb C.n ops ks Γ = some r) {s : Env Γ} {s' : Env r.Δ} (hf : r.f s = some s') (h : Sim C (dyn Γ s) a w P T)
    (hQ : ∀ a' w' P' T', Sim C (dyn r.Δ s') a' w' P' T' → Q .normal a' w') : (Code.region id ops true).wp C.M Q a w := by
  have key : ∀ {Z ds U gs : List Nat} {ρ : Env Γ → Env (Γ.filter fun p => !hangs ds U p.2)} {r' : CR (Γ.filter fun p => !hangs ds U p.2)}, weakTo Γ.get (Γ.filter fun p => !hangs ds U p.2) = some ρ → dops Tb C.n ops Z ds U ks gs ops.toList [] (Γ.filter fun p => !hangs ds U p.2) = some r' →
      ∀ {s' : Env r'.Δ}, r'.f (ρ s) = some s' → (∀ a' w' P' T', Sim C (dyn r'.Δ s') a' w' P' T' → Q .normal a' w') → (Code.region id ops true).wp C.M Q a w := by
    intro Z ds U gs ρ r' hρ hr' s' hf hQ
    obtain ⟨P1, T1, h1⟩ := h.drawn.weak (weakTo_wk s hρ)
    obtain ⟨Ws, acc, fr', k1, k2⟩ := dops_run hr' hf
    refine wp_region_any hm ?_
    refine any_sound hT hsg hpin k1 (filter_hang _).1 (filter_hang _).2 (fun a' w' P' T' h' => ?_) ops.size (Array.replicate ops.size false) a _ P1 T1 (by simp) ?_ ?_ ?_
    · obtain ⟨P'', T'', h''⟩ := h'.weak k2
      exact hQ _ _ _ _ h''
    · intro k o hk hl
      have hlt : k < ops.size := (Array.getElem?_eq_some_iff.1 hk).1
      simp [Array.getD, hlt] at hl
    · exact Nat.le_trans (List.length_filter_le _ _) (by simp)
    · have : sel (fun i => (Array.replicate ops.size false).getD i true) 0 Ws (dyn _ (ρ s)) = dyn _ (ρ s) := by
        have h0 : sel (fun _ => false) 0 Ws (dyn _ (ρ s)) = dyn _ (ρ s) := sel_none fun _ _ => rfl
        rw [← h0]
        funext t
        rw [h0]
        refine (sel_cong (L' := fun _ => false) (fun j W hj _ => ?_) rfl).trans (congrFun h0 t)
        have hlt : j < ops.size := by
          have := (List.getElem?_eq_some_iff.1 hj).1
          rw [k1.acc.2.2.1] at this
          simpa using this
        simp [Array.getD, hlt]
      rw [this]
      exact h1
  unfold cany at hc
  simp only at hc
  split at hc
  · rename_i ρ hρ
    split at hc
    · rename_i r' hr'
      cases hc
      exact key hρ hr' hf hQ
    · split at hc
      · rename_i r' hr'
        cases hc
        exact key hρ hr' hf hQ
      · cases hc
  · cases hc
end
end Go.Abs

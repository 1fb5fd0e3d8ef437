/-
  The meta layer, part 21: a region whose order is left open comes, in any order, to the frame of the order of the text; the reading of such a region.
-/
import Derived.Test.YtemeabdacejkpaaN20
namespace Go.Abs
open Go.RowKit
set_option linter.unusedVariables false
set_option linter.unusedSimpArgs false

/-- an entry that hangs on none of the slots ds, and on the memory of none of the slots U -/
def HOk (ds U : List Nat) (e : Ent) : Prop := (∀ d ∈ ds, e.on d = false) ∧ ∀ i ∈ U, e.onT i = false
theorem HOk.own {ds U : List Nat} {e : Ent} (h : e.own = true) : HOk ds U e := ⟨fun d _ => Ent.own_on h d, fun i _ => by cases e <;> simp_all [Ent.own, Ent.onT]⟩
def NoHang (ds U : List Nat) (fr : Fr) : Prop := ∀ t, HOk ds U (fr t).1

/-- what one operation writes -/
inductive OpW (Tb : Tab) (n : Nat) (ops : Array Oper) (ds U : List Nat) (o : Oper) (fr : Fr) : WS → Prop
  | run (K : List Nat) (r : Res Unit) (y : r.X) : runs ops fr o = some true → xop Tb [] fr o = some r → chk n Tb.pin K fr o.dst r = true → r.run () = some y → HOk ds U r.e → (∀ p ∈ r.us, p.1 ∈ U) →
      OpW Tb n ops ds U o fr (r.ws y ++ o.dst.toList.map fun d => (d, ⟨r.e, fun _ => r.f () y⟩))
  | kb (K : List Nat) (r : Res Unit) (y : r.X) (d : Nat) (m : Md) (b : Bool) : runs ops fr o = some true → xop Tb [] fr o = some r → chk n Tb.pin K fr o.dst r = true → r.run () = some y → o.dst = some d →
      (⟨r.e, fun _ => r.f () y⟩ : Ex Unit) = ⟨.val .bool m, fun _ => b⟩ → (∀ p ∈ r.us, p.1 ∈ U) → OpW Tb n ops ds U o fr (r.ws y ++ [(d, ⟨.kb b, fun _ => ()⟩)])
  | skip (d : Nat) : runs ops fr o = some false → o.dst = some d → d < n → Tb.pin d = false → OpW Tb n ops ds U o fr [(d, ⟨.und, fun _ => ()⟩)]

theorem chk_us {n : Nat} {pin : Nat → Bool} {K : List Nat} {g : Fr} {d : Option Nat} {r : Res Unit} (h : chk n pin K g d r = true) : ∀ p ∈ r.us, p.1 < n ∧ p.2.1.own = true := by
  unfold chk at h
  simp only [Bool.and_eq_true, List.all_eq_true, Bool.or_eq_true, decide_eq_true_eq, Bool.not_eq_true', beq_iff_eq, List.any_eq_true] at h
  obtain ⟨⟨_, h2⟩, _⟩ := h
  intro p hp
  rcases h2 p hp with ⟨⟨h, h'⟩, _⟩ | ⟨h, h'⟩
  · exact ⟨h, h'⟩
  · exact ⟨h', h⟩
theorem chk_move {n : Nat} {pin : Nat → Bool} {K : List Nat} {g g' : Fr} {d : Option Nat} {r : Res Unit} (h : chk n pin K g d r = true) {ds U : List Nat} (hU : ∀ p ∈ r.us, p.1 ∈ U) (hh : NoHang ds U g') : chk n pin (List.range n) g' d r = true := by
  unfold chk at h ⊢
  simp only [Bool.and_eq_true] at h ⊢
  refine ⟨h.1, ?_⟩
  simp only [List.all_eq_true, Bool.or_eq_true, Bool.not_eq_true']
  exact fun k _ => .inr fun p hp => (hh k).2 p.1 (hU p hp)

theorem ws_hok {ds U : List Nat} {r : Res Unit} {y : r.X} (h : ∀ p ∈ r.us, p.2.1.own = true) : ∀ p ∈ r.ws y, HOk ds U p.2.1 := fun p hp => by
  obtain ⟨q, hq, rfl⟩ := Res.mem_ws hp
  exact HOk.own (h q hq)

theorem OpW.hang {Tb : Tab} {n : Nat} {ops : Array Oper} {ds U : List Nat} {o : Oper} {fr : Fr} {W : WS} (h : OpW Tb n ops ds U o fr W) : ∀ p ∈ W, HOk ds U p.2.1 := by
  cases h with
  | run K r y _ _ hc _ h1 h2 =>
    intro p hp
    rcases List.mem_append.1 hp with hp | hp
    · exact ws_hok (fun p hp => (chk_us hc p hp).2) p hp
    · obtain ⟨d', _, rfl⟩ := List.mem_map.1 hp
      exact h1
  | kb K r y d m b _ _ hc _ _ _ h2 =>
    intro p hp
    rcases List.mem_append.1 hp with hp | hp
    · exact ws_hok (fun p hp => (chk_us hc p hp).2) p hp
    · obtain rfl := by simpa using hp
      exact ⟨fun _ _ => rfl, fun _ _ => rfl⟩
  | skip d _ _ _ _ =>
    intro p hp
    obtain rfl := by simpa using hp
    exact ⟨fun _ _ => rfl, fun _ _ => rfl⟩

theorem app_hang {ds U : List Nat} : ∀ {W : WS} {fr : Fr}, NoHang ds U fr → (∀ p ∈ W, HOk ds U p.2.1) → NoHang ds U (app fr W)
  | [], fr, h, _ => h
  | p :: W, fr, h, hW => app_hang (W := W) (fr := setE fr p.1 p.2) (fun t => by
      unfold setE
      split
      · exact hW p (by simp)
      · exact h t) fun q hq => hW q (List.mem_cons_of_mem _ hq)

theorem put_setE {ds U : List Nat} {fr : Fr} (h : NoHang ds U fr) {d : Nat} (hd : d ∈ ds) (x : Ex Unit) : put fr d x = setE fr d x := by
  funext t
  unfold put setE
  split
  · rfl
  · rw [(h t).1 d hd, if_neg (by simp)]

theorem app_append (fr : Fr) (W V : WS) : app fr (W ++ V) = app (app fr W) V := List.foldl_append

theorem updF_app {ds U : List Nat} {fr : Fr} (hh : NoHang ds U fr) {dst : Option Nat} (hds : ∀ d, dst = some d → d ∈ ds) {us : WS} (hu : ∀ p ∈ us, HOk ds U p.2.1) (x : Ex Unit) :
    updF fr dst x us = app fr (us ++ dst.toList.map fun d => (d, x)) := by
  rw [app_append]
  unfold updF
  cases hd : dst with
  | none => rfl
  | some d => exact put_setE (app_hang hh hu) (hds d hd) _

section
variable {C : Cx} {a : Act} {w : World} {P : Prot} {T : Nat → List Nat}

theorem OpW.sound {Q : Exit → Act → World → Prop} {Tb : Tab} (hT : TabOk C.M Tb) (hsg : ∀ f s, Tb.sg f = some s → SigOk C.M f s) (hpin : ∀ t, Tb.pin t = false → C.pv t = none) {ops : Array Oper} {ds U : List Nat} {o : Oper} {fr fr' : Fr} {W : WS} (h : OpW Tb C.n ops ds U o fr W)
    (hrd : ∀ t ∈ rdOf ops fr o, fr t = fr' t) (hh : NoHang ds U fr') (hds : ∀ d, o.dst = some d → d ∈ ds) (hs : Sim C fr' a w P T) {K : Act → World → Prop}
    (hK : ∀ a' w' P' T', Sim C (app fr' W) a' w' P' T' → K a' w') : if Region.wanted o (yielded ops a.tmps) then o.wp C.M a w K Q else K (a.put o.dst undef) w := by
  have hnon : ∀ t, t ∉ List.range C.n → fr' t = Ex.non := fun t ht => hs.dom t (Nat.le_of_not_lt fun hlt => ht (List.mem_range.2 hlt))
  cases h with
  | run Kk r y h1 h2 h3 h4 h5 h6 =>
    refine DStep.sound hT hsg hpin (.run [] (List.range C.n) r y hnon (by rw [← runs_cong hrd]; exact h1) (by rw [← xop_cong hrd]; exact h2) (chk_move h3 h6 hh) h4) hs fun a' w' P' T' h' => hK a' w' P' T' ?_
    rw [← updF_app hh hds (ws_hok fun p hp => (chk_us h3 p hp).2)]
    exact h'
  | kb Kk r y d m b h1 h2 h3 h4 hd h5 h6 =>
    refine DStep.sound hT hsg hpin (.run [] (List.range C.n) r y hnon (by rw [← runs_cong hrd]; exact h1) (by rw [← xop_cong hrd]; exact h2) (chk_move h3 h6 hh) h4) hs fun a' w' P' T' h' => ?_
    have hu : ∀ p ∈ r.ws y, HOk ds U p.2.1 := ws_hok fun p hp => (chk_us h3 p hp).2
    have hhu := app_hang hh hu
    have : updF fr' o.dst ⟨r.e, fun _ => r.f () y⟩ (r.ws y) = setE (app fr' (r.ws y)) d ⟨.val .bool m, fun _ => b⟩ := by
      unfold updF
      rw [hd, h5]
      exact put_setE hhu (hds d hd) _
    rw [this] at h'
    obtain ⟨T'', h''⟩ := h'.known (d := d) (m := m) (f := fun _ => b) (by unfold setE; rw [if_pos rfl])
    refine hK a' w' P' T'' ?_
    have hh2 : NoHang ds U (setE (app fr' (r.ws y)) d ⟨.val .bool m, fun _ => b⟩) := fun t => by
      unfold setE
      split
      · exact ⟨fun _ _ => rfl, fun _ _ => rfl⟩
      · exact hhu t
    rw [put_setE hh2 (hds d hd)] at h''
    have e : setE (setE (app fr' (r.ws y)) d ⟨.val .bool m, fun _ => b⟩) d ⟨.kb b, fun _ => ()⟩ = app fr' (r.ws y ++ [(d, ⟨.kb b, fun _ => ()⟩)]) := by
      rw [app_append]
      funext t
      show setE _ _ _ t = setE _ _ _ t
      unfold setE
      split <;> rfl
    rw [← e]
    exact h''
  | skip d h1 hd hdn hp =>
    refine DStep.sound hT hsg hpin (.skip d (by rw [← runs_cong hrd]; exact h1) hd hdn hp) hs fun a' w' P' T' h' => hK a' w' P' T' ?_
    rw [put_setE hh (hds d hd)] at h'
    exact h'
end

theorem pre_get {α : Type} {l l' : List α} (h : l <+: l') {i : Nat} (hi : i < l.length) : l'[i]? = l[i]? := by
  obtain ⟨t, rfl⟩ := h
  exact List.getElem?_append_left hi

/-- an edge binds, in whatever order -/
abbrev binds (e : Edge) : Bool := Region.binds .any e
def disj (l l' : List Nat) : Bool := l.all fun x => !l'.contains x
/-- an operation is tied to each of those ahead of it with which it shares a slot that one of both writes -/
def tiedB (o : Oper) : Nat → List (List Nat × List Nat) → List Nat → List Nat → Bool
  | _, [], _, _ => true
  | i, q :: acc, rd, wr => ((disj q.2 rd && disj q.2 wr && disj q.1 wr) || o.after.any fun e => e.on == i && binds e) && tiedB o (i + 1) acc rd wr

theorem tiedB_at {o : Oper} {rd wr : List Nat} : ∀ {acc : List (List Nat × List Nat)} {i : Nat}, tiedB o i acc rd wr = true → ∀ j q, acc[j]? = some q →
    (disj q.2 rd = true ∧ disj q.2 wr = true ∧ disj q.1 wr = true) ∨ ∃ e ∈ o.after, e.on = i + j ∧ binds e = true
  | [], _, _, j, q, hj => by simp at hj
  | q' :: acc, i, h, j, q, hj => by
    simp only [tiedB, Bool.and_eq_true, Bool.or_eq_true] at h
    cases j with
    | zero =>
      simp only [List.getElem?_cons_zero, Option.some.injEq] at hj
      subst hj
      rcases h.1 with h | h
      · exact .inl ⟨h.1.1, h.1.2, h.2⟩
      · obtain ⟨e, he, hx⟩ := Array.any_eq_true'.1 h
        simp only [Bool.and_eq_true, beq_iff_eq] at hx
        exact .inr ⟨e, he, by simpa using hx.1, hx.2⟩
    | succ j =>
      rcases tiedB_at h.2 j q (by simpa using hj) with h' | ⟨e, he, h1, h2⟩
      · exact .inl h'
      · exact .inr ⟨e, he, by omega, h2⟩

/-- the operations of a region in the order of the text, with what each looks at and writes -/
inductive DPath (Tb : Tab) (n : Nat) (ops : Array Oper) (ds U : List Nat) : List (List Nat × List Nat) → List Oper → Fr → List WS → List (List Nat × List Nat) → Fr → Prop
  | nil (acc : List (List Nat × List Nat)) (fr : Fr) : DPath Tb n ops ds U acc [] fr [] acc fr
  | step (acc : List (List Nat × List Nat)) (o : Oper) (l : List Oper) (fr : Fr) (W : WS) (Ws : List WS) (acc' : List (List Nat × List Nat)) (fr' : Fr) :
      OpW Tb n ops ds U o fr W → (∀ d, o.dst = some d → d ∈ ds) → (∀ e ∈ o.after, e.on < acc.length) → tiedB o 0 acc (rdOf ops fr o) (wdom W) = true →
      DPath Tb n ops ds U (acc ++ [(rdOf ops fr o, wdom W)]) l (app fr W) Ws acc' fr' → DPath Tb n ops ds U acc (o :: l) fr (W :: Ws) acc' fr'

structure AtK (Tb : Tab) (n : Nat) (ops : Array Oper) (ds U : List Nat) (acc' : List (List Nat × List Nat)) (i : Nat) (o : Oper) (frk : Fr) (W : WS) : Prop where
  op : OpW Tb n ops ds U o frk W
  ds : ∀ d, o.dst = some d → d ∈ ds
  lt : ∀ e ∈ o.after, e.on < i
  acc : acc'[i]? = some (rdOf ops frk o, wdom W)
  tied : ∀ j q, j < i → acc'[j]? = some q → (disj q.2 (rdOf ops frk o) = true ∧ disj q.2 (wdom W) = true ∧ disj q.1 (wdom W) = true) ∨ ∃ e ∈ o.after, e.on = j ∧ binds e = true

theorem DPath.acc {Tb : Tab} {n : Nat} {ops : Array Oper} {ds U : List Nat} {acc acc' : List (List Nat × List Nat)} {l : List Oper} {fr fr' : Fr} {Ws : List WS} (h : DPath Tb n ops ds U acc l fr Ws acc' fr') :
    acc <+: acc' ∧ acc'.length = acc.length + l.length ∧ Ws.length = l.length ∧ fr' = sel (fun _ => true) 0 Ws fr := by
  induction h with
  | nil acc fr => exact ⟨List.prefix_rfl, rfl, rfl, rfl⟩
  | step acc o l fr W Ws acc' fr' h1 h2 h3 h4 h5 ih =>
    refine ⟨(List.prefix_append _ _).trans ih.1, by simp [ih.2.1]; omega, by simp [ih.2.2.1], ?_⟩
    rw [ih.2.2.2]
    have : ∀ (i j : Nat) (fr : Fr), sel (fun _ => true) i Ws fr = sel (fun _ => true) j Ws fr := by
      clear ih h5
      induction Ws with
      | nil => intro i j fr; rfl
      | cons V Ws ih => intro i j fr; exact ih _ _ _
    exact this _ _ _

theorem DPath.at {Tb : Tab} {n : Nat} {ops : Array Oper} {ds U : List Nat} {acc acc' : List (List Nat × List Nat)} {l : List Oper} {fr fr' : Fr} {Ws : List WS} (h : DPath Tb n ops ds U acc l fr Ws acc' fr') :
    ∀ k o, l[k]? = some o → ∃ W, Ws[k]? = some W ∧ AtK Tb n ops ds U acc' (acc.length + k) o (sel (fun j => decide (j < acc.length + k)) acc.length Ws fr) W := by
  induction h with
  | nil acc fr => intro k o hk; simp at hk
  | step acc o l fr W Ws acc' fr' h1 h2 h3 h4 h5 ih =>
    intro k o' hk
    have hpre := h5.acc.1
    cases k with
    | zero =>
      simp only [List.getElem?_cons_zero, Option.some.injEq] at hk
      subst hk
      have hfr : sel (fun j => decide (j < acc.length + 0)) acc.length (W :: Ws) fr = fr := sel_none fun j hj => decide_eq_false (by omega)
      refine ⟨W, rfl, ?_⟩
      rw [hfr]
      refine ⟨h1, h2, h3, ?_, fun j q hj hq => ?_⟩
      · rw [pre_get hpre (by simp)]
        simp
      · have hq' : acc[j]? = some q := by
          rw [pre_get hpre (by simp; omega), List.getElem?_append_left (by omega)] at hq
          exact hq
        rcases tiedB_at h4 j q hq' with h | ⟨e, he, he1, he2⟩
        · exact .inl h
        · exact .inr ⟨e, he, by omega, he2⟩
    | succ k =>
      obtain ⟨W', hW', hat⟩ := ih k o' (by simpa using hk)
      refine ⟨W', by simpa using hW', ?_⟩
      have hfr : sel (fun j => decide (j < acc.length + (k + 1))) acc.length (W :: Ws) fr = sel (fun j => decide (j < (acc ++ [(rdOf ops fr o, wdom W)]).length + k)) (acc ++ [(rdOf ops fr o, wdom W)]).length Ws (app fr W) := by
        show sel _ (acc.length + 1) Ws (if decide (acc.length < acc.length + (k + 1)) = true then app fr W else fr) = _
        rw [if_pos (decide_eq_true (by omega))]
        simp only [List.length_append, List.length_singleton]
        rw [show acc.length + (k + 1) = acc.length + 1 + k by omega]
      rw [hfr]
      have : acc.length + (k + 1) = (acc ++ [(rdOf ops fr o, wdom W)]).length + k := by simp; omega
      rw [this]
      exact hat

theorem disj_spec {l l' : List Nat} (h : disj l l' = true) {t : Nat} (ht : t ∈ l) : t ∉ l' := by
  have := List.all_eq_true.1 h t ht
  simpa using this

/-- how many are yet to come -/
def todo (L : Nat → Bool) (m : Nat) : Nat := ((List.range m).filter fun i => !L i).length
theorem todo_zero {L : Nat → Bool} {m : Nat} (h : todo L m = 0) : ∀ i, i < m → L i = true := fun i hi => by
  have := List.eq_nil_of_length_eq_zero h
  have hx : i ∉ (List.range m).filter fun i => !L i := by rw [this]; simp
  simpa [hi] using hx
theorem todo_set {L L' : Nat → Bool} {m i : Nat} (hi : i < m) (hL : L i = false) (hL' : ∀ j, j < m → L' j = (L j || j == i)) : todo L' m < todo L m := by
  have key : ∀ (l : List Nat), (∀ j ∈ l, L' j = (L j || j == i)) → (l.filter fun j => !L' j).length ≤ (l.filter fun j => !L j).length ∧ (i ∈ l → (l.filter fun j => !L' j).length < (l.filter fun j => !L j).length) := by
    intro l
    induction l with
    | nil => intro _; simp
    | cons x l ih =>
      intro h
      obtain ⟨h1, h2⟩ := ih fun j hj => h j (by simp [hj])
      have hx := h x (by simp)
      by_cases hxi : x = i
      · subst hxi
        have e' : L' x = true := by rw [hx]; simp
        simp only [List.filter_cons, e', hL, Bool.not_true, Bool.not_false, if_true, Bool.false_eq_true, if_false, List.length_cons]
        exact ⟨by omega, fun _ => by omega⟩
      · have e' : L' x = L x := by rw [hx]; simp [hxi]
        simp only [List.filter_cons, e']
        split
        · simp only [List.length_cons, List.mem_cons]
          exact ⟨by omega, fun h => by rcases h with h | h; exact absurd h.symm hxi; have := h2 h; omega⟩
        · simp only [List.mem_cons]
          exact ⟨h1, fun h => by rcases h with h | h; exact absurd h.symm hxi; exact h2 h⟩
  exact (key (List.range m) fun j hj => hL' j (List.mem_range.1 hj)).2 (List.mem_range.2 hi)

section
variable {C : Cx}

theorem any_sound {Q : Exit → Act → World → Prop} {Tb : Tab} (hT : TabOk C.M Tb) (hsg : ∀ f s, Tb.sg f = some s → SigOk C.M f s) (hpin : ∀ t, Tb.pin t = false → C.pv t = none) {ops : Array Oper} {ds U : List Nat} {fr fr' : Fr} {Ws : List WS} {acc : List (List Nat × List Nat)}
    (hp : DPath Tb C.n ops ds U [] ops.toList fr Ws acc fr') (hh : NoHang ds U fr) (hQ : ∀ a w P T, Sim C fr' a w P T → Q .normal a w) :
    ∀ (fuel : Nat) (listed : Array Bool) (a : Act) (w : World) (P : Prot) (T : Nat → List Nat), listed.size = ops.size →
      (∀ k o, ops[k]? = some o → listed.getD k true = true → ∀ e ∈ o.after, binds e = true → listed.getD e.on true = true) → todo (fun i => listed.getD i true) ops.size ≤ fuel →
      Sim C (sel (fun i => listed.getD i true) 0 Ws fr) a w P T → wpAny C.M .any ops Q fuel listed a w := by
  obtain ⟨_, hlen, hWs, hfr'⟩ := hp.acc
  have hat : ∀ k o, ops[k]? = some o → ∃ W, Ws[k]? = some W ∧ AtK Tb C.n ops ds U acc k o (sel (fun j => decide (j < k)) 0 Ws fr) W := fun k o hk => by
    have := hp.at k o (by simpa using hk)
    simpa using this
  have hWhang : ∀ W ∈ Ws, ∀ p ∈ W, HOk ds U p.2.1 := fun W hW => by
    obtain ⟨k, hk⟩ := List.mem_iff_getElem?.1 hW
    have hlt : k < ops.size := by
      have := (List.getElem?_eq_some_iff.1 hk).1
      rw [hWs] at this
      simpa using this
    obtain ⟨W', hW', h'⟩ := hat k ops[k] (Array.getElem?_eq_getElem hlt)
    rw [hk] at hW'
    cases hW'
    exact h'.op.hang
  -- when every one is listed
  have hall : ∀ (listed : Array Bool) (a : Act) (w : World) (P : Prot) (T : Nat → List Nat), (∀ i, i < ops.size → listed.getD i true = true) → Sim C (sel (fun i => listed.getD i true) 0 Ws fr) a w P T → Q .normal a w := by
    intro listed a w P T hl hs
    refine hQ a w P T ?_
    have : sel (fun i => listed.getD i true) 0 Ws fr = fr' := by
      rw [hfr']
      funext t
      refine sel_cong (fun j W hj _ => ?_) rfl
      have hlt := (List.getElem?_eq_some_iff.1 hj).1
      rw [hWs] at hlt
      simpa using hl j (by simpa using hlt)
    rw [← this]
    exact hs
  have hready : ∀ (listed : Array Bool), listed.size = ops.size → Region.ready .any ops listed = [] → ∀ i, i < ops.size → listed.getD i true = true := by
    intro listed hsz hr i
    induction i using Nat.strongRecOn with
    | _ i ih =>
      intro hi
      cases hli : listed.getD i true with
      | true => rfl
      | false =>
        exfalso
        have hmem : i ∈ Region.ready .any ops listed := by
          unfold Region.ready
          refine List.mem_filter.2 ⟨List.mem_range.2 hi, ?_⟩
          rw [hli, Array.getElem?_eq_getElem hi]
          simp only [Bool.not_false, Option.map_some, Option.getD_some, Bool.true_and]
          refine Array.all_eq_true'.2 fun e he => ?_
          obtain ⟨W, _, hk⟩ := hat i ops[i] (Array.getElem?_eq_getElem hi)
          have hlt := hk.lt e he
          have := ih e.on hlt (by omega)
          have h2 : listed.getD e.on false = true := by
            have hs : e.on < listed.size := by omega
            simpa [Array.getD, hs] using this
          simp [h2]
        rw [hr] at hmem
        simp at hmem
  intro fuel
  induction fuel with
  | zero =>
    intro listed a w P T hsz hcl hto hs
    have hl := todo_zero (Nat.le_zero.1 hto)
    refine ⟨?_, hall listed a w P T hl hs⟩
    unfold Region.ready
    refine List.filter_eq_nil_iff.2 fun i hi => ?_
    rw [hl i (List.mem_range.1 hi)]
    simp
  | succ fuel ih =>
    intro listed a w P T hsz hcl hto hs
    refine ⟨fun hr => hall listed a w P T (hready listed hsz hr) hs, fun k hk => ?_⟩
    obtain ⟨hkr, hkp⟩ := List.mem_filter.1 hk
    have hkn : k < ops.size := List.mem_range.1 hkr
    have ho := Array.getElem?_eq_getElem hkn
    rw [ho] at hkp
    simp only [Bool.and_eq_true, Bool.not_eq_true', Option.map_some, Option.getD_some] at hkp
    obtain ⟨hkl, hpred⟩ := hkp
    have hpred' : ∀ e ∈ ops[k].after, binds e = true → listed.getD e.on true = true := fun e he hb => by
      have := Array.all_eq_true'.1 hpred e he
      simp only [Bool.or_eq_true, Bool.not_eq_true'] at this
      rcases this with h | h
      · rw [show binds e = Region.binds .any e from rfl, h] at hb; cases hb
      · unfold Array.getD at h ⊢
        split
        · rename_i hlt; rw [dif_pos hlt] at h; exact h
        · rfl
    obtain ⟨W, hW, hkk⟩ := hat k ops[k] ho
    -- who else writes a slot that is looked at or written here
    have hothers : ∀ t, t ∈ rdOf ops (sel (fun j => decide (j < k)) 0 Ws fr) ops[k] ∨ t ∈ wdom W → ∀ j V, Ws[j]? = some V → t ∈ wdom V → j ≠ k → listed.getD j true = decide (j < k) := by
      intro t ht j V hV htV hjk
      have hjn : j < ops.size := by
        have := (List.getElem?_eq_some_iff.1 hV).1
        rw [hWs] at this
        simpa using this
      obtain ⟨V', hV', hkj⟩ := hat j ops[j] (Array.getElem?_eq_getElem hjn)
      rw [hV] at hV'
      cases hV'
      rcases Nat.lt_or_gt_of_ne hjk with hlt | hgt
      · rw [decide_eq_true hlt]
        rcases hkk.tied j _ hlt hkj.acc with ⟨d1, d2, d3⟩ | ⟨e, he, rfl, hb⟩
        · rcases ht with ht | ht
          · exact absurd ht (disj_spec d1 htV)
          · exact absurd ht (disj_spec d2 htV)
        · exact hpred' e he hb
      · rw [decide_eq_false (by omega)]
        rcases hkj.tied k _ hgt hkk.acc with ⟨d1, d2, d3⟩ | ⟨e, he, he1, hb⟩
        · rcases ht with ht | ht
          · exact absurd htV (disj_spec d3 ht)
          · exact absurd htV (disj_spec d2 ht)
        · cases hlj : listed.getD j true with
          | false => rfl
          | true =>
            have := hcl j ops[j] (Array.getElem?_eq_getElem hjn) hlj e he hb
            rw [he1, hkl] at this
            cases this
    have hkk' : ∀ j V, Ws[j]? = some V → j = k → V = W := fun j V hV e => by subst e; rw [hW] at hV; exact (Option.some.inj hV).symm
    unfold wpOp
    rw [ho]
    simp only
    have hrd : ∀ t ∈ rdOf ops (sel (fun j => decide (j < k)) 0 Ws fr) ops[k], sel (fun j => decide (j < k)) 0 Ws fr t = sel (fun i => listed.getD i true) 0 Ws fr t := fun t ht => by
      refine sel_cong (fun j V hV htV => ?_) rfl
      rw [Nat.zero_add]
      by_cases hjk : j = k
      · subst hjk
        rw [hkl]
        simp
      · exact (hothers t (.inl ht) j V hV htV hjk).symm
    have hns : NoHang ds U (sel (fun i => listed.getD i true) 0 Ws fr) := fun t => sel_entry (C := fun x => HOk ds U x.1) hh hWhang
    have hset : ∀ j, (listed.setIfInBounds k true).getD j true = (listed.getD j true || j == k) := fun j => by
      have hks : k < listed.size := by omega
      by_cases hjk : j = k
      · subst hjk; simp [Array.getD, hks]
      · simp only [Array.getD, Array.size_setIfInBounds]
        split
        · rename_i hj
          simp only [Array.getInternal_eq_getElem]
          rw [Array.getElem_setIfInBounds_ne hj (Ne.symm hjk)]
          simp [hjk]
        · rfl
    have hstep := hkk.op.sound (Q := Q) hT hsg hpin hrd hns hkk.ds hs (K := wpAny C.M .any ops Q fuel (listed.setIfInBounds k true)) fun a' w' P' T' h' => by
      refine ih (listed.setIfInBounds k true) a' w' P' T' (by simpa using hsz) ?_ ?_ ?_
      · intro j o hj hjl e he hb
        rw [hset] at hjl ⊢
        simp only [Bool.or_eq_true, beq_iff_eq] at hjl ⊢
        rcases hjl with hjl | rfl
        · exact .inl (hcl j o hj hjl e he hb)
        · rw [ho] at hj
          cases hj
          exact .inl (hpred' e he hb)
      · have := todo_set (L := fun i => listed.getD i true) (L' := fun i => (listed.setIfInBounds k true).getD i true) hkn hkl fun j _ => hset j
        omega
      · have : sel (fun i => (listed.setIfInBounds k true).getD i true) 0 Ws fr = app (sel (fun i => listed.getD i true) 0 Ws fr) W := by
          funext t
          by_cases ht : t ∈ wdom W
          · have e1 : sel (fun i => (listed.setIfInBounds k true).getD i true) 0 Ws fr t = sel (fun j => decide (j < 0 + k + 1)) 0 Ws fr t := by
              refine sel_cong (fun j V hV htV => ?_) rfl
              rw [Nat.zero_add, Nat.zero_add, hset]
              by_cases hjk : j = k
              · subst hjk; simp
              · rw [hothers t (.inr ht) j V hV htV hjk]
                have : (j == k) = false := by simpa using hjk
                rw [this, Bool.or_false]
                by_cases hlt : j < k
                · rw [decide_eq_true hlt, decide_eq_true (by omega)]
                · rw [decide_eq_false hlt, decide_eq_false (by omega)]
            rw [e1, sel_lt_succ hW]
            exact app_cong (.inr ht)
          · rw [app_not ht]
            refine sel_cong (fun j V hV htV => ?_) rfl
            rw [Nat.zero_add, hset]
            by_cases hjk : j = k
            · exact absurd (hkk' j V hV hjk ▸ htV) ht
            · simp [hjk]
        rw [this]
        exact h'
    split
    · rename_i hw; rw [if_pos hw] at hstep; exact .inl hstep
    · rename_i hw; rw [if_neg hw] at hstep; exact hstep
end
end Go.Abs

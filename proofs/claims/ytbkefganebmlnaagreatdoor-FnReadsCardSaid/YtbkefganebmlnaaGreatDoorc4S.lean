/-
  What is proved: For all data within the bounds of the machine the law FnReads returns true and leaves its arguments alone. No condition beyond what the card ties: the listed tables of the library hold what the program's text lays.
-/
import Derived.Test.YtbkefganebmlnaaGreatDoorc4LRdC
import Derived.Test.YtbkefganebmlnaaGreatDoorRows
import Derived.Test.YtbkefganebmlnaaGreatDoorTie
import Derived.Test.YtbkefganebmlnaaGreatDoorCards
import Derived.ProofKit
import Derived.LaidMore
import Derived.OpenShut
import Derived.Stop.Joined
import Derived.Stop.LaidErr
import Derived.SevenTiedAt
import Derived.Lib.LaidTab
import Derived.WalkKit
namespace Go.Proofs.YtbkefganebmlnaaGreatDoor.fnReads
open Go Go.Abs Go.RowKit
theorem own:ownKnob Tryz.prog.godebug = none:=by kernel_rfl
theorem laid:laidOutB Tryz.prog = true:=by kernel_rfl
theorem tab_is:(Rows.laid_internal_strconv_uint64pow10:DataW Unit) = Lib.tabData .u64 Lib.pow10Tab:=by kernel_rfl
theorem Aie (os:Os) (args:Array Value):laidMetH Tryz.prog Rows.fnReadsRow.laid ((World.doorLaid Tryz.prog 400 os).forCall (fun _ _ => 0) ⟨#[],args,[]⟩).memory:=
  laidMetH_of_parts3 (fuel:=8) (laidMet_of_run' 8 (by kernel_rfl) (by kernel_rfl)) (by kernel_rfl) (by kernel_rfl)
theorem star_ : "*" ++ "errors.errorString" = "*errors.errorString" := by decide
theorem row_err (u : TypeId) (h : Tryz.prog.typeName? 3 u = some "*errors.errorString") : u = 300 :=
  typeName_ptr_named (nm := "errors.errorString") (by rw [star_]; kernel_rfl) (by kernel_rfl) (by decide) u (by rw [star_]; exact h)
theorem Ag9 (W:World) (h:laidMetH Tryz.prog Rows.fnReadsRow.laid W):BaseOk Tryz.prog base_ W (AllP W):=by
  rw [MakeChecks.laidMetH_plain _ _ _ (by kernel_rfl)] at h
  have h3:=laidMet.tail (laidMet.tail (h))
  have hs:=laidMet.tail (laidMet.tail (laidMet.tail (laidMet.tail (h))))
  have hr:=laidMet.tail (laidMet.tail (laidMet.tail (h)))
  rw [tab_is] at h3
  have ht:=Lib.tabIs_of_head (g:=3) (t:=304) (e:=261) (n:=20) (by kernel_rfl) (by kernel_rfl) Tryz.underlying304 Tryz.underlying261 (by kernel_rfl) (by kernel_rfl) h3
  have ghs : Tryz.prog.globalNamed "strconv.ErrSyntax" = some 1 := by kernel_rfl
  obtain ⟨ahs,shs,vhs,-⟩:=laid_sentinel hs ghs (show (Tryz.prog.globals[1]?).map (·.type) = some 185 by kernel_rfl) Tryz.underlying185 row_err Tryz.underlying300 Tryz.underlying302 rfl rfl Tryz.underlying9 (by kernel_rfl) (by kernel_rfl)
  have nhs : (synName : String) = "strconv.ErrSyntax" := by kernel_rfl
  have ghr : Tryz.prog.globalNamed "strconv.ErrRange" = some 2 := by kernel_rfl
  obtain ⟨ahr,shr,vhr,-⟩:=laid_sentinel hr ghr (show (Tryz.prog.globals[2]?).map (·.type) = some 185 by kernel_rfl) Tryz.underlying185 row_err Tryz.underlying300 Tryz.underlying302 rfl rfl Tryz.underlying9 (by kernel_rfl) (by kernel_rfl)
  have nhr : (rngName : String) = "strconv.ErrRange" := by kernel_rfl
  intro x hx
  rcases List.mem_cons.1 hx with rfl | hx
  · exact ⟨_,rfl,Aad (g:=3) (Se ht (by kernel_rfl)) (by kernel_rfl) (by decide)⟩
  rcases List.mem_cons.1 hx with rfl | hx
  · refine ⟨[Value.iface 300 (.pointer (some ahs))],⟨_,_,rfl⟩,?_⟩
    show VarAt Tryz.prog W (AllP W) synName _
    rw [nhs]
    exact Adn vhs ⟨_,rfl,by rw [ghs]; simpa using World.var?_cell ghs vhs 0⟩
  · rw [List.mem_singleton.1 hx]
    refine ⟨[Value.iface 300 (.pointer (some ahr))],⟨_,_,rfl⟩,?_⟩
    show VarAt Tryz.prog W (AllP W) rngName _
    rw [nhr]
    exact Adn vhr ⟨_,rfl,by rw [ghr]; simpa using World.var?_cell ghr vhr 0⟩
set_option maxRecDepth 100000 in
theorem lifted (os:Os) (started:os.Started) (H:Type) (enc:TypeId × Value -> H) :
    ReturnsInHanded {} Tryz.checked os 4 .any (fun w args => (Rows.fnReadsSpec.pre enc Tryz.prog Tryz.f4 [] false w args /\ laidMetH Tryz.prog Rows.fnReadsRow.laid w) /\ sizedMet enc Tryz.prog Tryz.f4 (OpenSpec.ofChange Rows.fnReadsSpec) false w args)
      (Rows.fnReadsSpec.post enc Tryz.prog Tryz.f4 false true false false):=by
  refine returnsInHanded_of_change_and (C:=Tryz.checked) (X:=fun w _ => laidMetH Tryz.prog Rows.fnReadsRow.laid w) (fun _ _ _ hh h => h.of_heap hh) own started (by kernel_rfl) Tryz.func4
    (ChangeSpec.witness_shaped (enc:=enc) (C:=Tryz.checked) (os:=os) (X:=fun w _ => laidMetH Tryz.prog Rows.fnReadsRow.laid w) false (World.doorLaid Tryz.prog 400 os) #[.slice none 0 0] 16 rfl (World.shaped_of_RefB (by kernel_rfl) (by kernel_rfl)) (by kernel_rfl) (by kernel_rfl) (by kernel_rfl) (Aie os _)) ?_
  intro W base args ds gs before hval0 hW _ _ hL _
  exact Ac5 laid Wz Afg (by as_aux_lemma => kernel_rfl) (by as_aux_lemma => kernel_rfl) rfl Tryz.underlying4 rfl (fun ds hds => by
    match ds,hds with
    | [_],_ => rfl) hval0 hW (Ag9 W hL) rfl
set_option maxHeartbeats 0 in
theorem Afv:Rows.FnReadsSaid:=
  OpenClaim.holds_of_wide 4 Tryz.f4 rfl rfl rfl rfl rfl rfl rfl ⟨rfl,rfl,rfl,rfl,rfl⟩ rfl rfl rfl rfl rfl (by as_aux_lemma => kernel_rfl) Tryz.func4 (by unfold joinedFacts; simp only [Bool.and_eq_true]; (repeat' apply And.intro) <;> as_aux_lemma => kernel_rfl)
    (of_decide_eq_true (by as_aux_lemma => kernel_rfl)) (by unfold Func.isWrapper; first | (rw [if_pos (by decide +kernel)]; kernel_rfl) | (rw [if_neg (by decide +kernel)]; exact ⟨rfl,rfl⟩))
    (fun os started H enc _ => lifted os started H enc)
theorem proved:Rows.FnReadsCardSaid:=
  Claim7.holds_tied_plain_at .later [] [.data, .data, .data, .sentinel, .sentinel] true (true, "c705312848dd247ddcf9be8474ad08fd39a323bc1e9df6247325ecdc4cafcabf") true
    Afv (fun _ h => by cases h) (by kernel_rfl) (fun _ h => by cases h) fnReads_row_tie rfl ⟨rfl,rfl⟩ (by kernel_rfl) rfl
    (fun f fn hf hfn => by
      have hi:Tryz.prog.funcNamed Rows.fnReadsRow.func = some 4:=by kernel_rfl
      obtain rfl:f = 4:=(Option.some.inj (hi.symm.trans hf)).symm
      obtain rfl:fn = Tryz.f4:=(Option.some.inj (Tryz.func4.symm.trans hfn)).symm
      exact ⟨by kernel_rfl,fun j t ht => by
        have hps:Tryz.f4.params = #[42]:=rfl
        rw [hps] at ht
        have hm:t ∈ [42]:=by
          have:=Array.mem_of_getElem? ht
          first | simpa using this | simpa [or_comm,or_left_comm] using this
        have hall:([42].all fun u => !Tryz.prog.wantsStandIn u) = true:=by kernel_rfl
        exact (show Tryz.prog.wantsStandIn t = false by simpa using List.all_eq_true.1 hall t hm)⟩)
    (by kernel_rfl)
end Go.Proofs.YtbkefganebmlnaaGreatDoor.fnReads

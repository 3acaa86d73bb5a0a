/- Part of a proof over the given program: texts of lemmas (conditions: none beyond each lemma as stated). -/
import Derived.Test.YtdmoefbfepeeaaaGreatDoorN32
import Derived.Test.YtdmoefbfepeeaaaGreatDoorFaN
import Derived.Test.YtdmoefbfepeeaaaGreatDoorRows
import Derived.Test.YtdmoefbfepeeaaaGreatDoorCards
import Derived.Test.YtdmoefbfepeeaaaGreatDoorTie
import Derived.ProofKit
import Derived.OpenShut
import Derived.LaidMore
import Derived.Lay
import Derived.SevenTiedAt
import Derived.Stop.Joined
set_option linter.unnecessarySimpa false
set_option linter.unusedVariables false
set_option linter.unusedSimpArgs false
namespace Go.Proofs.YtdmoefbfepeeaaaGreatDoor
open Go.ChangeShapes Go.WideShapes Go.ChangeAt Go.RowKit Go.Fw
theorem own:ownKnob Tryz.prog.godebug=none:=by kernel_rfl
theorem laidOut:laidOutB Tryz.prog=true:=by kernel_rfl
set_option maxRecDepth 100000 in
theorem showNothing_lifted (os:Os) (started:os.Started) (H:Type) (enc:TypeId × Value->H) :
  ReturnsInHanded {} Tryz.checked os 6 .any (λ w args=>(Rows.showNothingSpec.pre enc Tryz.prog Tryz.f6 Rows.showNothingRow.domain false w args/\laidMetH Tryz.prog Rows.showNothingRow.laid w)/\sizedMet enc Tryz.prog Tryz.f6 (OpenSpec.ofChange Rows.showNothingSpec) false w args)
   (Rows.showNothingSpec.post enc Tryz.prog Tryz.f6 false true false false):=by
 refine returnsInHanded_of_change_and (C:=Tryz.checked) (X:=λ w _=>laidMetH Tryz.prog Rows.showNothingRow.laid w) (λ _ _ _ hh h=>h.of_heap hh) own started (by kernel_rfl) Tryz.func6
  (ChangeSpec.witness_shaped (enc:=enc) (C:=Tryz.checked) (os:=os) (X:=λ w _=>laidMetH Tryz.prog Rows.showNothingRow.laid w) false (World.laidAll Tryz.prog os Rows.showNothingRow.laid) #[.slice none 0 0,.int .i64 0,.bool false] 8 (World.laidAll_os _ _ _)
   (World.shaped_of_ZipB (by kernel_rfl) (by kernel_rfl)) (by kernel_rfl) (by kernel_rfl) (by kernel_rfl)
   (by rw [MakeChecks.laidMetH_plain _ _ _ (by kernel_rfl)];exact laidMet_laidAll _ (by kernel_rfl) (by kernel_rfl))) ?_
 intro W base args ds gs before hval0 hW _ hwt hL _
 have hval:∀(j:Nat) t v,Tryz.f6.params[j]?=some t->args[j]?=some v->Value.okWide Tryz.prog W .any base t v:=hval0
 have hW':=hW
 have hlt:=hW.lt
 obtain ⟨p,q,hA0,hV,rfl,_,_⟩:=hW
 have hA:DataW.TrodAll enc Tryz.prog W 0 (λ _=>true) true Tryz.f6.params.toList args.toList ds p:=hA0
 rw [Tryz.params6] at hA hval hwt
 obtain ⟨v0,v1,v2,d0,d1,d2,p0,p1,p2,rfl,rfl,rfl,h0,h1,h2⟩:=trodAll_three hA
 obtain ⟨rfl,rfl⟩:=trodVars_none hV
 obtain ⟨x,rfl,rfl,rfl,wx⟩:=open_int Tryz.underlying3 (hval 1 3 v1 rfl rfl) h1
 have hx:-9223372036854775808<=x/\x<=9223372036854775807:=bounds_i64 wx
 obtain ⟨b,rfl,rfl,rfl⟩:=open_bool Tryz.underlying4 (hval 2 4 v2 rfl rfl) h2
 have h0k:=h0
 obtain ⟨a0,l0,c0,rfl⟩:=okWide_slice Tryz.underlying22 (hval 0 22 v0 rfl rfl)
 obtain ⟨fuel,hf⟩:=h0
 have hlt0:∀y ∈ p0,y.block<W.heap.size:=λ y hy=>hlt y (by simp [hy])
 have hLi:Light Tryz.prog 22 d0:=λ n hn=>by
  have:=List.all_eq_true.1 hwt n (DataW.weights_mem_each (j:=0) (t:=22) (d:=d0) rfl rfl n hn)
  simpa using this
 have hlow:=okWide_low Tryz.underlying22 (hval 0 22 _ rfl rfl)
 obtain ⟨a,c,ts,hcs,hts,hl,_,kss,mss,hin⟩:=terms_of_trodW (N:=W.heap.size) hf hLi hlt0
 simp [Value.cells] at hcs
 obtain ⟨rfl,rfl,rfl⟩:=hcs
 simp only [List.append_nil] at hW'
 refine (C6_gen hts hlow hin (utf8_of_laid hL) (tab_of_laid hL) x hx b).mono λ e W' ⟨he,hk⟩=>?_
 subst he
 have hb:Below W.heap.size W W':=hk.below (λ _ h=>h.elim) (Nat.le_refl _)
 exact ⟨_,rfl,_,_,_,[],p0 ++ ([] ++ []),[],hW',trodAll_mk1 (shut_bool Tryz.underlying4 _),trodAll_mk3 (Below.trod laidOut (by kernel_rfl) (of_decide_eq_true (by kernel_rfl)) h0k hb hlt0) (shut_int Tryz.underlying3 wx) (shut_bool Tryz.underlying4 _),rfl,hb.frame _,λ h=>by cases h⟩
theorem showNothing_holds:Rows.ShowNothingSaid:=
 OpenClaim.holds_of_wide 6 Tryz.f6 rfl rfl rfl rfl rfl rfl rfl ⟨rfl,rfl,rfl,rfl,rfl⟩ rfl rfl rfl rfl rfl showNothing_named Tryz.func6 showNothing_closed showNothing_inst showNothing_wrap
  (λ os started H enc _=>showNothing_lifted os started H enc)
theorem showNothing_stands:∀(j:Nat) t,Tryz.f6.params[j]?=some t->Tryz.prog.wantsStandIn t=false:=λ j t ht=>by
 rw [Tryz.params6] at ht
 have hm:t ∈ [22,3,4]:=by simpa using Array.mem_of_getElem? ht
 have hall:([22,3,4].all λ u=>!Tryz.prog.wantsStandIn u)=true:=by kernel_rfl
 exact (show Tryz.prog.wantsStandIn t=false by simpa using List.all_eq_true.1 hall t hm)
theorem showNothing_card_holds:Rows.ShowNothingCardSaid:=
 Claim7.holds_tied_plain_at .later [] [.data,.data,.data,.data,.pinned] true (true,"4243b92fe792b895953a9d0a3cd1ce26192605eadd47aad8d6d7a1e491494870") true showNothing_holds (λ _ h=>by cases h) showNothing_text (λ _ h=>by cases h) showNothing_row_tie rfl ⟨rfl,rfl⟩ showNothing_main rfl
  (λ f fn hf hfn=>by
   obtain rfl:f=6:=Option.some.inj (showNothing_named.symm.trans hf) |>.symm
   obtain rfl:fn=Tryz.f6:=(Option.some.inj (Tryz.func6.symm.trans hfn)).symm
   exact ⟨showNothing_looks,showNothing_stands⟩)
  showNothing_goes
#print axioms showNothing_holds
#print axioms showNothing_card_holds
end Go.Proofs.YtdmoefbfepeeaaaGreatDoor

/- Part of a proof over the given program: texts of lemmas (conditions: none beyond each lemma as stated). -/
import Derived.Test.YtdmoefbfepeeaaaGreatDoorN21
import Derived.ProofKit
import Derived.OpenShut
import Derived.Deep.Slices
import Derived.LaidMore
import Derived.ReadAgain
set_option linter.unnecessarySimpa false
set_option linter.unusedVariables false
set_option linter.unusedSimpArgs false

namespace Go.Fw
open Go.Proofs Go.RowKit
theorem list_of {α:Type} {R:Nat->α->Prop}:∀n,(∀i,i<n->∃k,R i k)->∃l:List α,l.length=n/\∀i k,l[i]?=some k->R i k
 | 0,_=>⟨[],rfl,λ i k h=>by simp at h⟩
 | n+1,h=>by
  obtain ⟨l,hl,hr⟩:=list_of n λ i hi=>h i (by omega)
  obtain ⟨k,hk⟩:=h n (by omega)
  refine ⟨l ++ [k],by simp [hl],λ i x hx=>?_⟩
  rcases Nat.lt_or_ge i n with hi | hi
  ·exact hr i x (by rwa [List.getElem?_append_left (by omega)] at hx)
  ·rw [List.getElem?_append_right (by omega)] at hx
   have:i-l.length=0:=by
    have:=(List.getElem?_eq_some_iff.1 hx).1
    simp at this
    omega
   rw [this] at hx
   cases hx
   rw [show i=n by omega]
   exact hk
theorem cellsFrom_of {w:World} {a:Addr}:∀(vs:List Value) (i:Nat),(∀j v,vs[j]?=some v->w.cell? (a.add (i+j))=some v)->cellsFrom w a vs i
 | [],_,_=>trivial
 | v :: vs,i,h=>cellsFrom_cons.2 ⟨by simpa using h 0 v rfl,cellsFrom_of vs (i+1) λ j u hj=>by
   have:=h (j+1) u (by simpa using hj)
   rw [show i+1+j=i+(j+1) by omega]
   exact this⟩
section
variable {H:Type} {enc:TypeId × Value->H} {w:World} {base:Nat} {spare:Nat->Bool} {held:Bool} {fuel:Nat} {cs:List Value} {x:DataW H × List MemPlace}
def IntsAt (w:World) (a:Option Addr) (n:Nat) (ks:List Int):Prop:=ks.length=n/\∀j k,ks[j]?=some k->∃p,a=some p/\w.cell? (p.add j)=some (.int .i64 k)
theorem cells8 {cs:List Value} (h:cs.length=8):∃c0 c1 c2 c3 c4 c5 c6 c7,cs=[c0,c1,c2,c3,c4,c5,c6,c7]:=by
 match cs,h with
 | [c0,c1,c2,c3,c4,c5,c6,c7],_=>exact ⟨_,_,_,_,_,_,_,_,rfl⟩
end
end Go.Fw

namespace Go.Fw
open Go.Proofs Go.RowKit
end Go.Fw

namespace Go.Fw
open Go.Proofs Go.RowKit
end Go.Fw

/- Part of a proof over the given program: texts of lemmas (conditions: none beyond each lemma as stated). -/
set_option linter.unnecessarySimpa false
set_option linter.unusedVariables false
set_option linter.unusedSimpArgs false

namespace Go.Fw
def valW:List Nat->Nat
 | []=>0
 | m :: l=>m+4294967296*valW l
def pass:List Nat->List Nat × Nat
 | []=>([],0)
 | m :: l=>(((pass l).2*4294967296+m) / 1000000000 :: (pass l).1,((pass l).2*4294967296+m) % 1000000000)
theorem pass_spec:∀l:List Nat,valW (pass l).1=valW l / 1000000000/\(pass l).2=valW l % 1000000000/\(pass l).1.length=l.length
 | []=>⟨rfl,rfl,rfl⟩
 | m :: l=>by
  obtain ⟨h1,h2,h3⟩:=pass_spec l
  refine ⟨?_,?_,by simp [pass,h3]⟩
  ·simp only [pass,valW,h1,h2]
   generalize valW l=v
   omega
  ·simp only [pass,valW,h2]
   generalize valW l=v
   omega
theorem pass_lt:∀l:List Nat,(∀m ∈ l,m<4294967296)->(pass l).2<1000000000/\∀m ∈ (pass l).1,m<4294967296
 | [],_=>⟨by decide,by simp [pass]⟩
 | m :: l,h=>by
  obtain ⟨h1,h2⟩:=pass_lt l λ x hx=>h x (by simp [hx])
  have hm:=h m (by simp)
  refine ⟨Nat.mod_lt _ (by decide),λ x hx=>?_⟩
  simp only [pass,List.mem_cons] at hx
  rcases hx with rfl | hx
  ·omega
  ·exact h2 x hx
def pieces (V:Nat):Nat->List Nat
 | 0=>[]
 | k+1=>V % 1000000000 :: pieces (V / 1000000000) k
def pieceAt (V:Nat):Nat->Nat
 | 0=>V
 | k+1=>pieceAt (V / 1000000000) k
theorem pieceAt_succ (V:Nat):∀k,pieceAt V (k+1)=pieceAt V k / 1000000000
 | 0=>rfl
 | k+1=>by
  show pieceAt (V / 1000000000) (k+1)=pieceAt (V / 1000000000) k / 1000000000
  exact pieceAt_succ _ k
theorem pieces_succ (V:Nat):∀k,pieces V (k+1)=pieces V k ++ [pieceAt V k % 1000000000]
 | 0=>rfl
 | k+1=>by
  show V % 1000000000 :: pieces (V / 1000000000) (k+1)=V % 1000000000 :: (pieces (V / 1000000000) k ++ [pieceAt (V / 1000000000) k % 1000000000])
  rw [pieces_succ _ k]
def dig9 (n:Nat):List Nat:=[n / 100000000 % 10,n / 10000000 % 10,n / 1000000 % 10,n / 100000 % 10,n / 10000 % 10,n / 1000 % 10,n / 100 % 10,n / 10 % 10,n % 10]
def digitsOf (V k:Nat):List Nat:=((pieces V k).reverse).flatMap dig9
theorem pieceAt_zero (V:Nat):∀k,V<2 ^ k->pieceAt V k=0:=by
 intro k
 induction k generalizing V with
 | zero=>intro h;simp at h;subst h;rfl
 | succ k ih=>
  intro h
  show pieceAt (V / 1000000000) k=0
  apply ih
  rw [Nat.pow_succ] at h
  omega
def isLen (V k:Nat):Prop:=pieceAt V k=0/\∀j,j<k->pieceAt V j≠0
theorem isLen_uniq {V k k':Nat} (h:isLen V k) (h':isLen V k'):k=k':=by
 rcases Nat.lt_trichotomy k k' with hc | hc | hc
 ·exact absurd h.1 (h'.2 k hc)
 ·exact hc
 ·exact absurd h'.1 (h.2 k' hc)
end Go.Fw

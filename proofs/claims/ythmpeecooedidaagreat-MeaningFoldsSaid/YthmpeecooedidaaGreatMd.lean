/- The machine, part 4. No conditions of its own: each theorem bears its own. -/
import Derived.Test.YthmpeecooedidaaGreatMc
set_option linter.unusedSimpArgs false
set_option linter.unusedVariables false
namespace Go.AM
noncomputable section
variable {P:Program} {W:World}
inductive DT where
 |leaf (a:Nat)
 |word (l:List (List Nat)) (y n:DT)
 |foreign (f n:DT)
 |many (f n:DT)
 |emp (e n:DT)
 |zero (z n:DT)
 |val3 (z s b:DT)
 |mark (t f:DT)
 |kids (z a b c m:DT)
 |ask (i:Nat) (f:Nat→DT)
structure Row where
 c:Cls
 asg:List (Nat×Nat)
 ans:Nat
def rows (cand:Nat→Nat):DT→Cls→List (Nat×Nat)→List Row
 | .leaf a,c,asg=>[⟨c,asg,a⟩]
 | .word l y n,c,asg=>(l.flatMap fun w=>rows cand y { c with name:= .lit w } asg)++rows cand n c asg
 | .foreign f _,c,asg=>rows cand f { c with name:= .foreign } asg
 | .many f _,c,asg=>rows cand f { c with name:= .notOne } asg
 | .emp e n,c,asg=>rows cand e { c with name:= .lit [] } asg++rows cand n { c with name:= .nonempty } asg
 | .zero z n,c,asg=>rows cand z { c with value:= .zero } asg++rows cand n { c with value:= .nonzero } asg
 | .val3 z s b,c,asg=>rows cand z { c with value:= .zero } asg++(rows cand s { c with value:= .small } asg++rows cand b { c with value:= .big } asg)
 | .mark t f,c,asg=>rows cand t { c with mark:=some true } asg++rows cand f { c with mark:=some false } asg
 | .kids z a b d m,c,asg=>rows cand z { c with kids:= .z0 } asg++rows cand a { c with kids:= .few 1 } asg++rows cand b { c with kids:= .few 2 } asg++rows cand d { c with kids:= .few 3 } asg++rows cand m { c with kids:= .more } asg
 | .ask i f,c,asg=>(List.range (cand i)).flatMap fun a=>rows cand (f a) c ((i,a)::asg)
def named (ok:Nat→Bool):DT→List (List Nat)→Bool
 | .leaf _,_=>true
 | .word l y n,s=>named ok y s&&named ok n (l++s)
 | .foreign f _,s=>words.all (fun w=>s.any (sameNats w))&&named ok f s
 | .many f _,s=>(List.range 256).all (fun b=>s.any (sameNats [b]))&&named ok f s
 | .emp e n,s=>named ok e s&&named ok n s
 | .zero z n,s=>named ok z s&&named ok n s
 | .val3 z m n,s=>named ok z s&&(named ok m s&&named ok n s)
 | .mark z n,s=>named ok z s&&named ok n s
 | .kids z a b c m,s=>named ok z s&&named ok a s&&named ok b s&&named ok c s&&named ok m s
 | .ask i f,s=>ok i&&(List.range 32).all fun a=>named ok (f a) s
where sameNats:List Nat→List Nat→Bool
 |[],[]=>true
 |a::l,b::m=>Nat.beq a b&&sameNats l m
 |_,_=>false
theorem sameNats_eq: ∀ {l m:List Nat},named.sameNats l m=true→l=m
 |[],[],_=>rfl
 |a::l,b::m,h=>by
  simp only[named.sameNats,Bool.and_eq_true]at h
  rw[Nat.eq_of_beq_eq_true h.1,sameNats_eq h.2]
 |[],_::_,h=>by cases h
 |_::_,[],h=>by cases h
theorem sameBytes_eq: ∀ {l:List UInt8} {m:List Nat},sameBytes l m=true→l=bytesOf m
 |[],[],_=>rfl
 |a::l,b::m,h=>by
  simp only[sameBytes,Bool.and_eq_true]at h
  have h1:=Nat.eq_of_beq_eq_true h.1
  simp only[bytesOf,List.map_cons]
  rw[sameBytes_eq h.2,←h1]
  simp[bytesOf]
 |[],_::_,h=>by cases h
 |_::_,[],h=>by cases h
theorem rows_sound {ok:Nat→Bool} {cand:Nat→Nat} {Or:Nat→Nat→Prop} {N:Tr} (hc: ∀i,cand i≤32) (hO: ∀i,ok i=true→ ∃a,a<cand i∧Or i a): ∀(D:DT) (c:Cls) (asg:List (Nat×Nat)) (s:List (List Nat)),named ok D s=true→(∀w∈s,N.name≠bytesOf w)→
 c.Fits N→(∀e∈asg,Or e.1 e.2)→ ∃r∈rows cand D c asg,r.c.Fits N∧ ∀e∈r.asg,Or e.1 e.2:=by
 intro D
 induction D with
 |leaf a=>intro c asg s hn hs hf ha;exact⟨⟨c,asg,a⟩,by simp[rows],hf,ha⟩
 |word l y n ihy ihn=>
  intro c asg s hn hs hf ha
  simp only[named,Bool.and_eq_true]at hn
  by_cases hw: ∃w∈l,N.name=bytesOf w
  ·obtain⟨w,hw,he⟩:=hw
   obtain⟨r,h1,h2⟩:=ihy { c with name:= .lit w } asg s hn.1 hs ⟨hf.kind,he,hf.value,hf.mark,hf.kids⟩ ha
   exact⟨r,by simp only[rows,List.mem_append,List.mem_flatMap];exact .inl ⟨w,hw,h1⟩,h2⟩
  ·obtain⟨r,h1,h2⟩:=ihn c asg (l++s) hn.2 (fun w h=>by
    rcases List.mem_append.1 h with h|h
    ·exact fun e=>hw ⟨w,h,e⟩
    ·exact hs w h) hf ha
   exact⟨r,by simp only[rows,List.mem_append];exact .inr h1,h2⟩
 | «foreign» f n ihf ihn=>
  intro c asg s hn hs hf ha
  simp only[named,Bool.and_eq_true]at hn
  have hfor:isWord N.name=false:=by
   cases hi:isWord N.name with
   |false=>rfl
   |true=>
    exfalso
    simp only[isWord,List.any_eq_true]at hi
    obtain⟨w,h1,h2⟩:=hi
    have:=List.all_eq_true.1 hn.1 w h1
    simp only[List.any_eq_true]at this
    obtain⟨w',h3,h4⟩:=this
    have:=sameNats_eq h4;subst this
    exact hs _ h3 (sameBytes_eq h2)
  obtain⟨r,h1,h2⟩:=ihf { c with name:= .foreign } asg s hn.2 hs ⟨hf.kind,hfor,hf.value,hf.mark,hf.kids⟩ ha
  exact⟨r,by simp only[rows];exact h1,h2⟩
 |many f n ihf ihn=>
  intro c asg s hn hs hf ha
  simp only[named,Bool.and_eq_true]at hn
  have hone:N.name.length≠1:=by
   intro h1
   obtain⟨b,hb⟩:=List.length_eq_one_iff.1 h1
   have:=List.all_eq_true.1 hn.1 b.toNat (List.mem_range.2 b.toNat_lt)
   simp only[List.any_eq_true]at this
   obtain⟨w,h3,h4⟩:=this
   have:=sameNats_eq h4;subst this
   refine hs _ h3 ?_
   rw[hb]
   simp[bytesOf]
  obtain⟨r,h1,h2⟩:=ihf { c with name:= .notOne } asg s hn.2 hs ⟨hf.kind,hone,hf.value,hf.mark,hf.kids⟩ ha
  exact⟨r,by simp only[rows];exact h1,h2⟩
 |emp e n ihe ihn=>
  intro c asg s hn hs hf ha
  simp only[named,Bool.and_eq_true]at hn
  by_cases he:N.name=[]
  ·obtain⟨r,h1,h2⟩:=ihe { c with name:= .lit [] } asg s hn.1 hs ⟨hf.kind,he,hf.value,hf.mark,hf.kids⟩ ha
   exact⟨r,by simp only[rows,List.mem_append];exact .inl h1,h2⟩
  ·obtain⟨r,h1,h2⟩:=ihn { c with name:= .nonempty } asg s hn.2 hs ⟨hf.kind,he,hf.value,hf.mark,hf.kids⟩ ha
   exact⟨r,by simp only[rows,List.mem_append];exact .inr h1,h2⟩
 |zero z n ihz ihn=>
  intro c asg s hn hs hf ha
  simp only[named,Bool.and_eq_true]at hn
  by_cases he:N.value=0
  ·obtain⟨r,h1,h2⟩:=ihz { c with value:= .zero } asg s hn.1 hs ⟨hf.kind,hf.name,he,hf.mark,hf.kids⟩ ha
   exact⟨r,by simp only[rows,List.mem_append];exact .inl h1,h2⟩
  ·obtain⟨r,h1,h2⟩:=ihn { c with value:= .nonzero } asg s hn.2 hs ⟨hf.kind,hf.name,he,hf.mark,hf.kids⟩ ha
   exact⟨r,by simp only[rows,List.mem_append];exact .inr h1,h2⟩
 |val3 z m n ihz ihm ihn=>
  intro c asg s hn hs hf ha
  simp only[named,Bool.and_eq_true]at hn
  by_cases h0:N.value=0
  ·obtain⟨r,h1,h2⟩:=ihz { c with value:= .zero } asg s hn.1 hs ⟨hf.kind,hf.name,h0,hf.mark,hf.kids⟩ ha
   exact⟨r,by simp only[rows,List.mem_append];exact .inl h1,h2⟩
  rcases Nat.lt_or_ge N.value 256 with he|he
  ·obtain⟨r,h1,h2⟩:=ihm { c with value:= .small } asg s hn.2.1 hs ⟨hf.kind,hf.name,⟨h0,he⟩,hf.mark,hf.kids⟩ ha
   exact⟨r,by simp only[rows,List.mem_append];exact .inr (.inl h1),h2⟩
  ·obtain⟨r,h1,h2⟩:=ihn { c with value:= .big } asg s hn.2.2 hs ⟨hf.kind,hf.name,he,hf.mark,hf.kids⟩ ha
   exact⟨r,by simp only[rows,List.mem_append];exact .inr (.inr h1),h2⟩
 |mark t f iht ihf=>
  intro c asg s hn hs hf ha
  simp only[named,Bool.and_eq_true]at hn
  cases he:N.mark with
  |true=>
   obtain⟨r,h1,h2⟩:=iht { c with mark:=some true } asg s hn.1 hs ⟨hf.kind,hf.name,hf.value,he,hf.kids⟩ ha
   exact⟨r,by simp only[rows,List.mem_append];exact .inl h1,h2⟩
  |false=>
   obtain⟨r,h1,h2⟩:=ihf { c with mark:=some false } asg s hn.2 hs ⟨hf.kind,hf.name,hf.value,he,hf.kids⟩ ha
   exact⟨r,by simp only[rows,List.mem_append];exact .inr h1,h2⟩
 |kids z a b d m ihz iha ihb ihd ihm=>
  intro c asg s hn hs hf ha
  simp only[named,Bool.and_eq_true]at hn
  obtain⟨⟨⟨⟨n1,n2⟩,n3⟩,n4⟩,n5⟩:=hn
  rcases Nat.lt_or_ge N.kids.length 4 with h4|h4
  ·have h0:N.kids.length=0∨N.kids.length=1∨N.kids.length=2∨N.kids.length=3:=by omega
   rcases h0 with h0|h0|h0|h0
   ·obtain⟨r,h1,h2⟩:=ihz { c with kids:= .z0 } asg s n1 hs ⟨hf.kind,hf.name,hf.value,hf.mark,h0⟩ ha
    exact⟨r,by simp only[rows,List.mem_append];exact .inl (.inl (.inl (.inl h1))),h2⟩
   ·obtain⟨r,h1,h2⟩:=iha { c with kids:= .few 1 } asg s n2 hs ⟨hf.kind,hf.name,hf.value,hf.mark,⟨h0,by omega,by omega⟩⟩ ha
    exact⟨r,by simp only[rows,List.mem_append];exact .inl (.inl (.inl (.inr h1))),h2⟩
   ·obtain⟨r,h1,h2⟩:=ihb { c with kids:= .few 2 } asg s n3 hs ⟨hf.kind,hf.name,hf.value,hf.mark,⟨h0,by omega,by omega⟩⟩ ha
    exact⟨r,by simp only[rows,List.mem_append];exact .inl (.inl (.inr h1)),h2⟩
   ·obtain⟨r,h1,h2⟩:=ihd { c with kids:= .few 3 } asg s n4 hs ⟨hf.kind,hf.name,hf.value,hf.mark,⟨h0,by omega,by omega⟩⟩ ha
    exact⟨r,by simp only[rows,List.mem_append];exact .inl (.inr h1),h2⟩
  ·obtain⟨r,h1,h2⟩:=ihm { c with kids:= .more } asg s n5 hs ⟨hf.kind,hf.name,hf.value,hf.mark,h4⟩ ha
   exact⟨r,by simp only[rows,List.mem_append];exact .inr h1,h2⟩
 |ask i f ih=>
  intro c asg s hn hs hf ha
  simp only[named,Bool.and_eq_true,List.all_eq_true,List.mem_range]at hn
  obtain⟨a,ha1,ha2⟩:=hO i hn.1
  obtain⟨r,h1,h2⟩:=ih a c ((i,a)::asg) s (hn.2 a (by have:=hc i;omega)) hs hf (fun e he=>by
   rcases List.mem_cons.1 he with rfl|he
   ·exact ha2
   ·exact ha e he)
  exact⟨r,by simp only[rows,List.mem_flatMap,List.mem_range];exact⟨a,ha1,h1⟩,h2⟩
def rowsK (cand:Nat→Nat) (f:Nat→DT) (d:DT):List Row:=
 ((List.range 64).flatMap fun k=>rows cand (f k) ⟨some k,.any,.any,none,.any⟩ [])++rows cand d ⟨none,.any,.any,none,.any⟩ []
theorem rowsK_sound {ok:Nat→Bool} {cand:Nat→Nat} {Or:Nat→Nat→Prop} {N:Tr} (hc: ∀i,cand i≤32) (hO: ∀i,ok i=true→ ∃a,a<cand i∧Or i a) {f:Nat→DT} {d:DT} (hf: ∀k,k<64→named ok (f k) []=true) (hd:named ok d []=true):
 ∃r∈rowsK cand f d,r.c.Fits N∧ ∀e∈r.asg,Or e.1 e.2:=by
 by_cases hk:0≤N.kind∧N.kind≤63
 ·obtain⟨r,h1,h2⟩:=rows_sound hc hO (f N.kind.toNat) ⟨some N.kind.toNat,.any,.any,none,.any⟩ [] [] (hf _ (by omega)) (fun _ h=>by cases h) ⟨by show N.kind=(N.kind.toNat:Nat);omega,trivial,trivial,trivial,trivial⟩ (fun _ h=>by cases h)
  exact⟨r,by simp only[rowsK,List.mem_append,List.mem_flatMap,List.mem_range];exact .inl ⟨_,by omega,h1⟩,h2⟩
 ·obtain⟨r,h1,h2⟩:=rows_sound hc hO d ⟨none,.any,.any,none,.any⟩ [] [] hd (fun _ h=>by cases h) ⟨hk,trivial,trivial,trivial,trivial⟩ (fun _ h=>by cases h)
  exact⟨r,by simp only[rowsK,List.mem_append];exact .inr h1,h2⟩
end
end Go.AM
namespace Go.AM
noncomputable section
def sel (g:Nat):List (Nat×List Value×Ans)→List (List Value×Ans)
 |[]=>[]
 |(f,l,a)::es=>bif Nat.beq f g then(l,a)::sel g es else sel g es
def withE (K:Known) (es:List (Nat×List Value×Ans)):Known:=fun g=>match sel g es with
 |[]=>K g
 |l=>some (pureK l)
def told:KC→Nat
 | .few n=>n
 | .more=>3
 |_=>0
def absTail (x:Nat):KC→Value
 | .few n=>opq (Nat.add x 6) 5 (Nat.succ (Nat.mul 16 n))
 | .more=>opq (Nat.add x 6) 5 65
 |_=>poi
def fnMay:Value:= .func (.func 12) #[] #[]
inductive Ask where
 |name
 |text
 |all
 |tail
 |self (f:Nat)
 |kid (f j:Nat)
def fnOf:Nat→Nat
 |1=>154
 |2=>53
 |3=>21
 |_=>12
def askT:Nat→Ask
 |0=> .name
 |1=> .text
 |2=> .all
 |3=> .tail
 |50=> .self 154
 |51=> .self 53
 |52=> .self 21
 |i=> .kid (fnOf (Nat.div i 10)) (Nat.mod i 10)
def valF (f a:Nat):Value:=bif Nat.beq f 21 then .int .i64 (Int.ofNat a - 1)else .bool (Nat.beq a 1)
def yesF (f a:Nat):Bool:=bif Nat.beq f 21 then Nat.blt 0 a else Nat.beq a 1
def kidV (x j:Nat):Value:=nodeV (Nat.add (Nat.add x 10) (Nat.mul 10 j))
def entA (x:Nat) (c:Cls) (a:Nat):Ask→List (Nat×List Value×Ans)
 | .name=>[(236,[absName (Nat.add x 2) c.name],.ret (valF 236 a))]
 | .text=>[(156,[absName (Nat.add x 2) c.name],.ret (valF 156 a))]
 | .all=>[(155,[absKids x c.kids,fnMay],.ret (valF 155 a))]
 | .tail=>bif Nat.blt 0 (told c.kids)then[(155,[absTail x c.kids,fnMay],.ret (valF 155 a))]else[]
 | .self f=>[(f,[absV x c],.ret (valF f a))]
 | .kid f j=>bif Nat.blt j (told c.kids)then[(f,[kidV x j],.ret (valF f a))]else[]
def entT (x:Nat) (c:Cls) (e:Nat×Nat):List (Nat×List Value×Ans):=entA x c e.2 (askT e.1)
def entsT (x:Nat) (c:Cls):List (Nat×Nat)→List (Nat×List Value×Ans)
 |[]=>[]
 |e::l=>entT x c e++entsT x c l
def candA:Ask→Nat
 | .self f=>bif Nat.beq f 21 then 5 else 2
 | .kid f _=>bif Nat.beq f 21 then 5 else 2
 |_=>2
def candT (i:Nat):Nat:=candA (askT i)
def kBase:Known:=withK noK 152 kContains
def dF:DT:=DT.leaf 0
def dT:DT:=DT.leaf 1
def yes (i:Nat) (d:DT):DT:=DT.ask i fun a=>bif Nat.beq a 1 then d else dF
def both (i:Nat):DT:=DT.ask i fun a=>DT.leaf a
def emp2 (d:DT):DT:=DT.emp d d
def noName (d:DT):DT:=DT.emp d dF
def noValue (d:DT):DT:=DT.zero d dF
def noMark (d:DT):DT:=DT.mark dF d
def plainK (d:DT):DT:=noName (noValue (noMark d))
def desT:Nat→DT
 |36=>emp2 (noValue (noMark (DT.kids (yes 0 dF) (yes 0 (both 10)) (yes 0 dF) (yes 0 dF) (yes 0 dF))))
 |37=>plainK (DT.kids dF dF (yes 10 (both 41)) dF dF)
 |38=>plainK (DT.kids dF (both 10) dF dF dF)
 |11=>emp2 (noValue (noMark (DT.kids (both 0) dF dF dF dF)))
 |_=>dF
def facT:Nat→DT
 |21=>plainK (DT.kids dF (yes 10 (both 3)) (yes 10 (both 3)) (yes 10 (both 3)) (yes 10 (both 3)))
 |25=>noName (DT.zero (noMark (DT.kids dT dF dF dF dF)) (noMark (DT.kids dT dF dF dF dF)))
 |26=>noName (DT.val3 (noMark (DT.kids dT dF dF dF dF)) (noMark (DT.kids dT dF dF dF dF)) (noMark (DT.kids dF dF dF dF dF)))
 |27=>emp2 (noValue (noMark (DT.kids (both 1) dF dF dF dF)))
 |28=>plainK (DT.kids dT dF dF dF dF)
 |29=>plainK (DT.kids dT dF dF dF dF)
 |30=>plainK (DT.kids dT dF dF dF dF)
 |31=>plainK (DT.kids (both 2) (both 2) (both 2) (both 2) (both 2))
 |32=>plainK (DT.kids dF (both 40) dF dF dF)
 |33=>plainK (DT.kids dF (both 20) dF dF dF)
 |_=>both 50
def lev1 (i most:Nat) (d:DT):DT:=DT.ask i fun a=>bif Nat.blt 0 a&&Nat.ble a (Nat.succ most)then d else dF
def lvl (l:Nat):DT:=noValue (noMark (DT.kids dF dF (lev1 30 (Nat.min l 2) (lev1 31 (Nat.pred l) (DT.leaf (Nat.succ l)))) dF dF))
def otherWords (l:List (List Nat)):List (List Nat):=words.filter fun w=>!(l.any (named.sameNats w))
def ops1:List (List Nat):=[[42],[47],[68,73,86],[77,79,68],[38]]
def ops2:List (List Nat):=[[43],[45],[79,82]]
def ops3:List (List Nat):=[[61],[35],[60],[60,61],[62],[62,61],[73,78]]
def signs:List (List Nat):=[[43],[45]]
def notSign (d:DT):DT:=DT.word signs d (DT.word (otherWords signs) dF (DT.foreign dF dF))
def levT:Nat→DT
 |34=>DT.zero (DT.mark (emp2 dF) (DT.kids (notSign dF) (notSign (lev1 30 1 (DT.leaf 3))) (notSign dF) (notSign dF) (notSign dF))) (emp2 dF)
 |35=>DT.word ops1 (lvl 1) (DT.word ops2 (lvl 2) (DT.word ops3 (lvl 3) (DT.word (otherWords (ops1++ops2++ops3)) dF (DT.foreign dF dF))))
 |_=>DT.ask 51 fun a=>DT.leaf a
def mayT:Nat→DT:=fun _=>DT.ask 52 fun a=>DT.leaf (bif Nat.beq a 0 then 0 else 1)
def argsT (x:Nat) (c:Cls):List Value:=[absV x c]
def extT (x:Nat) (c:Cls):List (Nat×AObj):=match c.kids with
 | .few n=>[(Nat.add x 6,.ext (T.ofList (kidsC x n) 0 .leaf) (Nat.mul 5 n))]
 | .more=>[(Nat.add x 6,.ext (T.ofList (kidsC x 3) 0 .leaf) 15)]
 |_=>[]
end
end Go.AM
namespace Go.AM
noncomputable section
variable {P:Program} {W:World}
def opNames:List (List Nat):=ops1++ops2++ops3
def shapeN (k:Nat) (sg op sm:Bool) (n:Nat):Bool:=
 match k with
 |11=>Nat.beq n 0
 |25=>Nat.beq n 0
 |26=>Nat.beq n 0&&sm
 |27=>Nat.beq n 0
 |28=>Nat.beq n 0
 |29=>Nat.beq n 0
 |30=>Nat.beq n 0
 |21=>Nat.blt 0 n
 |31=>true
 |32=>Nat.beq n 1
 |33=>Nat.beq n 1
 |36=>Nat.beq n 1
 |38=>Nat.beq n 1
 |37=>Nat.beq n 2
 |34=>Nat.beq n 1&&sg
 |35=>Nat.beq n 2&&op
 |_=>false
def inL (L:List (List Nat)) (nm:List UInt8):Bool:=L.any (sameBytes nm)
def Shape (N:Tr):Prop:= ∃k:Nat,N.kind=(k:Nat)∧shapeN k (inL signs N.name) (inL opNames N.name) (Nat.blt N.value 256) (Nat.min N.kids.length 4)=true
inductive May:Tr→Prop
 |mk {N:Tr} :Shape N→(∀k∈N.kids,May k)→May N
theorem May.shape {N:Tr} (h:May N):Shape N:=by cases h;assumption
theorem May.kid {N k:Tr} (h:May N) (hk:k∈N.kids):May k:=by cases h with|mk _ h2=>exact h2 k hk
def nRep:KC→Option Nat
 | .z0=>some 0
 | .few n=>some n
 | .more=>some 4
 | .any=>none
def nameIn (L:List (List Nat)):NC→Bool
 | .lit l=>L.any (named.sameNats l)
 |_=>false
def smallC:VC→Bool
 | .zero=>true
 | .small=>true
 |_=>false
theorem smallC_ok {c:VC} {v:Nat} (hf:c.fits v) (h:smallC c=true):Nat.blt v 256=true:=by
 rw[Nat.blt_eq]
 cases c<;>simp[smallC,VC.fits]at h hf<;>omega
def shapeC (c:Cls):Bool:=match c.kind,nRep c.kids with
 |some k,some n=>shapeN k (nameIn signs c.name) (nameIn opNames c.name) (smallC c.value) n
 |_,_=>false
theorem shapeN_mono {k n:Nat} {a b a' b' c c':Bool} (h:shapeN k a b c n=true) (ha:a=true→a'=true) (hb:b=true→b'=true) (hc:c=true→c'=true):shapeN k a' b' c' n=true:=by
 unfold shapeN at h⊢
 split at h<;>simp_all
theorem nameIn_ok {L:List (List Nat)} (hL:L.all (fun m=>sameBytes (bytesOf m) m)=true) {nc:NC} {nm:List UInt8} (hf:nc.fits nm) (h:nameIn L nc=true):inL L nm=true:=by
 cases nc with
 |lit l=>
  simp only[nameIn,List.any_eq_true]at h
  obtain⟨m,h1,h2⟩:=h
  have:=sameNats_eq h2;subst this
  simp only[NC.fits]at hf;subst hf
  simp only[inL,List.any_eq_true]
  exact⟨l,h1,List.all_eq_true.1 hL _ h1⟩
 |_=>simp[nameIn]at h
theorem nRep_ok {kc:KC} {n m:Nat} (hf:kc.fits n) (h:nRep kc=some m):Nat.min n 4=m:=by
 have e:Nat.min n 4=min n 4:=rfl
 rw[e]
 cases kc with
 |z0=>simp only[KC.fits]at hf;simp only[nRep,Option.some.injEq]at h;omega
 |few q=>simp only[KC.fits]at hf;simp only[nRep,Option.some.injEq]at h;omega
 |more=>simp only[KC.fits]at hf;simp only[nRep,Option.some.injEq]at h;omega
 |any=>cases h
theorem shapeC_ok {c:Cls} {N:Tr} (hf:c.Fits N) (h:shapeC c=true):Shape N:=by
 unfold shapeC at h
 split at h
 ·rename_i k n hk hn
  have h1:=hf.kind
  rw[hk]at h1
  refine⟨k,h1,?_⟩
  rw[nRep_ok hf.kids hn]
  exact shapeN_mono h (nameIn_ok (by decide) hf.name) (nameIn_ok (by decide) hf.name) (smallC_ok hf.value)
 ·cases h
def nameR (N:Tr):Value:= .string ⟨N.name.toArray⟩
def fP (P:Program) (W:World) (f:Nat) (N:Tr) (a:Nat):Prop:=RealPure P W f [N.val] (valF f a)∧(yesF f a=true→May N)
def OrA (P:Program) (W:World) (N:Tr) (a:Nat):Ask→Prop
 | .name=>RealPure P W 236 [nameR N] (valF 236 a)
 | .text=>RealPure P W 156 [nameR N] (valF 156 a)
 | .all=>RealPure P W 155 [N.sl,fnMay] (valF 155 a)∧(yesF 155 a=true→ ∀k∈N.kids,May k)
 | .tail=>N.kids≠[]→RealPure P W 155 [cutSl N.sl,fnMay] (valF 155 a)∧(yesF 155 a=true→ ∀k∈N.kids.drop 1,May k)
 | .self f=>fP P W f N a
 | .kid f j=> ∀k,N.kids[j]? =some k→fP P W f k a
def OrT (P:Program) (W:World) (N:Tr) (i a:Nat):Prop:=OrA P W N a (askT i)
theorem withE_ok {K:Known} {w0:Start} {es:List (Nat×List Value×Ans)} (hK:KnownOk P K w0) (h: ∀e∈es,PureCall P w0 e.1 e.2.1 e.2.2):KnownOk P (withE K es) w0:=by
 intro f F hF
 have hsel: ∀ {es:List (Nat×List Value×Ans)},(∀e∈es,PureCall P w0 e.1 e.2.1 e.2.2)→ ∀e∈sel f es,PureCall P w0 f e.1 e.2:=by
  intro es
  induction es with
  |nil=>intro _ e he;simp[sel]at he
  |cons x es ih=>
   obtain⟨g,l,a⟩:=x
   intro hx e he
   simp only[sel]at he
   cases hg:Nat.beq g f with
   |true=>
    rw[hg]at he
    have:=Nat.eq_of_beq_eq_true hg;subst this
    rcases List.mem_cons.1 he with rfl|he
    ·exact hx _ List.mem_cons_self
    ·exact ih (fun e he=>hx e (List.mem_cons_of_mem _ he)) e he
   |false=>rw[hg]at he;exact ih (fun e he=>hx e (List.mem_cons_of_mem _ he)) e he
 simp only[withE]at hF
 split at hF
 ·exact hK f F hF
 ·simp only[Option.some.injEq]at hF;subst hF
  exact pureK_ok (hsel h)
section
variable {x:Nat} {lr lm:Loc} {N:Tr}
def sigN (x:Nat) (lr lm:Loc) (N:Tr):Nat→Option Loc:=look (sigL x lr lm N (N.kids.take 3) [])
theorem told_kid {c:Cls} {j:Nat} (hf:c.Fits N) (hj:j<told c.kids): ∃k,N.kids[j]? =some k∧(N.kids.take 3)[j]? =some k:=by
 have hk:=hf.kids
 have:j<N.kids.length∧j<3:=by
  cases h:c.kids with
  |few n=>rw[h]at hk hj;simp only[KC.fits]at hk;simp only[told]at hj;omega
  |more=>rw[h]at hk hj;simp only[KC.fits]at hk;simp only[told]at hj;omega
  |z0=>rw[h]at hj;simp[told]at hj
  |any=>rw[h]at hj;simp[told]at hj
 exact⟨N.kids[j],List.getElem?_eq_getElem this.1,by rw[List.getElem?_take,if_pos this.2];exact List.getElem?_eq_getElem this.1⟩
theorem plain0_valF (f a:Nat):plain0 (valF f a)=true:=by
 unfold valF
 cases Nat.beq f 21<;>rfl
theorem only1 {ι:Inj} {v x:Value} (h:Tells ι v x): ∀y,VRelL ι [v] y→y=[x]:=(TellsL.cons h .nil).only
theorem func_tells {ι:Inj} (f:FuncId):Tells ι (.func (.func f) #[] #[]) (.func (.func f) #[] #[]):=by
 refine⟨.func (by simpa using VRelL.nil) (by simpa using VRelL.nil),fun y hy=>?_⟩
 cases hy with
 |func h1 h2=>
  rename_i a b
  have e1:a= #[]:=by
   cases ha:a.toList with
   |nil=>exact Array.toList_eq_nil_iff.1 ha
   |cons _ _=>rw[ha]at h1;cases h1
  have e2:b= #[]:=by
   cases ha:b.toList with
   |nil=>exact Array.toList_eq_nil_iff.1 ha
   |cons _ _=>rw[ha]at h2;cases h2
  rw[e1,e2]
theorem entT_ok {c:Cls} {e:Nat×Nat} (hf:c.Fits N) (hw:Wf W N) (hr:RowAt W N lr lm) (ho:OrT P W N e.1 e.2): ∀t∈entT x c e,PureCall P (.at W (sigN x lr lm N)) t.1 t.2.1 t.2.2:=by
 obtain⟨i,a⟩:=e
 have hC: ∀ι:Inj,(∀i l,sigN x lr lm N i=some l→ι i=some l)→TellsL ι (absC x c) N.cells:=fun ι hp=>absC_tells hf hw hr hp
 have hName: ∀ι:Inj,(∀i l,sigN x lr lm N i=some l→ι i=some l)→Tells ι (absName (Nat.add x 2) c.name) (nameR N):=fun ι hp=>(hC ι hp).get (i:=1) rfl rfl
 have hSl: ∀ι:Inj,(∀i l,sigN x lr lm N i=some l→ι i=some l)→Tells ι (absKids x c.kids) N.sl:=fun ι hp=>(hC ι hp).get (i:=4) rfl rfl
 have hV: ∀ι:Inj,(∀i l,sigN x lr lm N i=some l→ι i=some l)→Tells ι (absV x c) N.val:=fun ι hp=>TellsL.agg (hC ι hp)
 have hKid: ∀j k,N.kids[j]? =some k→(N.kids.take 3)[j]? =some k→ ∀ι:Inj,(∀i l,sigN x lr lm N i=some l→ι i=some l)→Tells ι (kidV x j) k.val:=by
  intro j k h1 h2 ι hp
  have ht:=sig_kid (x:=x) (lr:=lr) (lm:=lm) (N:=N) (ex:=[]) h2
  have hwk:Wf W k:=hw.kid (List.mem_of_getElem? h1)
  exact⟨t_node ht hwk hp,fun y hy=>t_node_eq ht hwk hp hy⟩
 have hTail:(∃k,c.kids=k∧(k= .more∨ ∃n,k= .few n))→ ∀ι:Inj,(∀i l,sigN x lr lm N i=some l→ι i=some l)→Tells ι (absTail x c.kids) (cutSl N.sl):=by
  rintro⟨k,hk,hk2⟩ ι hp
  have hk3:=hf.kids
  rw[hk]at hk3⊢
  rcases hk2 with rfl|⟨n,rfl⟩
  ·simp only[KC.fits]at hk3
   exact tells_opq (by omega) (by omega) rfl (by omega) (hp _ _ sig_more) (d_tail (n:=4) hr (by intro e;rw[e]at hk3;simp at hk3) (by omega) (by omega) (fun h=>absurd h (by omega)) (fun _=>hk3))
  ·simp only[KC.fits]at hk3
   obtain⟨hn,h1,h3⟩:=hk3
   have em:Nat.succ (Nat.mul 16 n)=16*n+1:=rfl
   exact tells_opq (by omega) (by rw[em];omega) rfl (by omega) (hp _ _ sig_more) (d_tail hr (by intro e;rw[e]at hn;simp at hn;omega) h1 (by omega) (fun _=>hn) (fun h=>by omega))
 have hBase: ∀ {f:FuncId} {v r:Value},RealPure P W f [r] (valF f a)→(∀ι:Inj,(∀i l,sigN x lr lm N i=some l→ι i=some l)→Tells ι v r)→PureCall P (.at W (sigN x lr lm N)) f [v] (.ret (valF f a)):=
  fun h ht=>h.call (plain0_valF _ a) fun ι hp=>only1 (ht ι hp)
 intro t ht
 simp only[entT]at ht
 simp only[OrT]at ho
 cases hq:askT i with
 |name=>rw[hq]at ht ho;simp only[entA,List.mem_singleton]at ht;subst ht;exact hBase ho hName
 |text=>rw[hq]at ht ho;simp only[entA,List.mem_singleton]at ht;subst ht;exact hBase ho hName
 |all=>
  rw[hq]at ht ho;simp only[entA,List.mem_singleton]at ht;subst ht
  exact ho.1.call (plain0_valF _ a) fun ι hp=>(TellsL.cons (hSl ι hp) (.cons (func_tells 12) .nil)).only
 |tail=>
  rw[hq]at ht ho
  simp only[entA]at ht
  cases hb:Nat.blt 0 (told c.kids)with
  |false=>rw[hb]at ht;simp at ht
  |true=>
   rw[hb]at ht;simp only[cond_true,List.mem_singleton]at ht;subst ht
   have hlt:0<told c.kids:=Nat.blt_eq.mp hb
   obtain⟨k,hk,_⟩:=told_kid hf hlt
   have hne:N.kids≠[]:=by intro e;rw[e]at hk;simp at hk
   have hq2: ∃k,c.kids=k∧(k= .more∨ ∃n,k= .few n):=by
    cases hck:c.kids with
    |few n=>exact⟨_,rfl,.inr ⟨n,rfl⟩⟩
    |more=>exact⟨_,rfl,.inl rfl⟩
    |z0=>rw[hck]at hlt;simp[told]at hlt
    |any=>rw[hck]at hlt;simp[told]at hlt
   exact(ho hne).1.call (plain0_valF _ a) fun ι hp=>(TellsL.cons (hTail hq2 ι hp) (.cons (func_tells 12) .nil)).only
 |self f=>rw[hq]at ht ho;simp only[entA,List.mem_singleton]at ht;subst ht;exact hBase ho.1 hV
 |kid f j=>
  rw[hq]at ht ho
  simp only[entA]at ht
  cases hb:Nat.blt j (told c.kids)with
  |false=>rw[hb]at ht;simp at ht
  |true=>
   rw[hb]at ht;simp only[cond_true,List.mem_singleton]at ht;subst ht
   obtain⟨k,h1,h2⟩:=told_kid hf (Nat.blt_eq.mp hb)
   exact hBase (ho k h1).1 (hKid j k h1 h2)
theorem entsT_ok {c:Cls} (hf:c.Fits N) (hw:Wf W N) (hr:RowAt W N lr lm): ∀ {asg:List (Nat×Nat)},(∀e∈asg,OrT P W N e.1 e.2)→ ∀t∈entsT x c asg,PureCall P (.at W (sigN x lr lm N)) t.1 t.2.1 t.2.2
 |[],_,t,ht=>by simp[entsT]at ht
 |e::l,h,t,ht=>by
  simp only[entsT,List.mem_append]at ht
  rcases ht with ht|ht
  ·exact entT_ok hf hw hr (h e List.mem_cons_self) t ht
  ·exact entsT_ok hf hw hr (fun e he=>h e (List.mem_cons_of_mem _ he)) t ht
theorem ext_eq (x:Nat) (c:Cls):extT x c=extL (extOf x c.kids (kidsC x (told c.kids)) (told c.kids)).1 (extOf x c.kids (kidsC x (told c.kids)) (told c.kids)).2:=by
 unfold extT
 cases c.kids<;>rfl
def rowRun (P:Program) (x f:Nat) (r:Row):Bool:=tplRun P (withE kBase (entsT x r.c r.asg)) 400 f [absV x r.c] (Nat.add x 60) (extT x r.c) (.ret (valF f r.ans)) (extT x r.c)
theorem lit_valF {σ:Nat→Option Loc} (f a:Nat):(Ans.ret (valF f a)).lit σ= .ret (valF f a):=by
 unfold valF
 cases Nat.beq f 21<;>rfl
theorem row_real {f:Nat} {r:Row} (hmix:P.follows .mixedOrders=true) (hB: ∀σ,KnownOk P kBase (.at W σ)) (h0:0<W.heap.size) (hw:Wf W N) (hf:r.c.Fits N) (ho: ∀e∈r.asg,OrT P W N e.1 e.2) (hrun:rowRun P x f r=true):
 RealPure P W f [N.val] (valF f r.ans):=by
 obtain⟨lr,lm,hr⟩:=rowAt hw h0
 have hK:KnownOk P (withE kBase (entsT x r.c r.asg)) (.at W (sigN x lr lm N)):=withE_ok (hB _) (entsT_ok hf hw hr ho)
 have hfit: ∀z,(extOf x r.c.kids (kidsC x (told r.c.kids)) (told r.c.kids)).2=some z→cellsFit (sigL x lr lm N (N.kids.take 3) []) (kidsC x (told r.c.kids)) N.kids (told r.c.kids):=by
  intro z hz
  have hk:=hf.kids
  have hm:told r.c.kids≤N.kids.length∧told r.c.kids≤3:=by
   cases h:r.c.kids with
   |few n=>rw[h]at hk;simp only[KC.fits]at hk;simp only[told];omega
   |more=>rw[h]at hk;simp only[KC.fits]at hk;simp only[told];omega
   |z0=>simp only[told];omega
   |any=>simp only[told];omega
  refine⟨kidsC_len x _,hm.1,fun ι hp j k hj hkj i v hi hv=>?_⟩
  rw[kidsC_get x hj hi]at hv
  have hkk:(N.kids.take 3)[j]? =some k:=by rw[List.getElem?_take,if_pos (by omega)];exact hkj
  exact(t_cells (sig_kid hkk) (hw.kid (List.mem_of_getElem? hkj)) hp).get hv
 have:=node_ok (P:=P) (W:=W) (K:=withE kBase (entsT x r.c r.asg)) (f:=f) (x:=x) (n:=400) (lr:=lr) (lm:=lm) (N:=N) (kids:=N.kids.take 3) (ex:=[]) (pre:=[]) (post:=[]) (head:=[]) (qn:=fun _=>false) (c:=r.c)
  (cs:=kidsC x (told r.c.kids)) (m:=told r.c.kids) (ans:= .ret (valF f r.ans)) hmix hw hr hf (by simp;omega) (fun q hq=>by cases hq) hK
  (by simp only[List.nil_append];rw[←ext_eq];exact hrun) hfit (fun i h=>by cases h) (fun i l h=>by cases h) rfl rfl rfl (by unfold valF;cases Nat.beq f 21<;>rfl)
 rw[lit_valF]at this
 have:=NodeOk.pure this (plain0_valF f r.ans) rfl
 exact this
def hasA (r:Row) (p:Ask→Nat→Bool):Bool:=r.asg.any fun e=>p (askT e.1) e.2
def isAll (q:Ask) (a:Nat):Bool:=match q with| .all=>yesF 155 a|_=>false
def isTail (q:Ask) (a:Nat):Bool:=match q with| .tail=>yesF 155 a|_=>false
def isSelf (q:Ask) (a:Nat):Bool:=match q with| .self f=>yesF f a|_=>false
def isKid (j:Nat) (q:Ask) (a:Nat):Bool:=match q with| .kid f i=>Nat.beq i j&&yesF f a|_=>false
def kidsYes (r:Row):Bool:=match r.c.kids with
 | .z0=>true
 | .few 1=>hasA r isAll||hasA r (isKid 0)
 | .few 2=>hasA r isAll||(hasA r (isKid 0)&&(hasA r (isKid 1)||hasA r isTail))
 | .few _=>hasA r isAll||(hasA r (isKid 0)&&hasA r isTail)
 | .more=>hasA r isAll||(hasA r (isKid 0)&&hasA r isTail)
 | .any=>false
def factT (f:Nat) (r:Row):Bool:=!(yesF f r.ans)||hasA r isSelf||(shapeC r.c&&kidsYes r)
theorem hasA_ok {r:Row} {p:Ask→Nat→Bool} (h:hasA r p=true) (ho: ∀e∈r.asg,OrT P W N e.1 e.2): ∃q a,p q a=true∧OrA P W N a q:=by
 simp only[hasA,List.any_eq_true]at h
 obtain⟨e,h1,h2⟩:=h
 exact⟨_,_,h2,ho e h1⟩
theorem has_all {r:Row} (h:hasA r isAll=true) (ho: ∀e∈r.asg,OrT P W N e.1 e.2): ∀k∈N.kids,May k:=by
 obtain⟨q,a,h1,h2⟩:=hasA_ok h ho
 cases q<;>simp only[isAll]at h1<;>try (cases h1;done)
 exact h2.2 h1
theorem has_tail {r:Row} (h:hasA r isTail=true) (ho: ∀e∈r.asg,OrT P W N e.1 e.2) (hne:N.kids≠[]): ∀k∈N.kids.drop 1,May k:=by
 obtain⟨q,a,h1,h2⟩:=hasA_ok h ho
 cases q<;>simp only[isTail]at h1<;>try (cases h1;done)
 exact(h2 hne).2 h1
theorem has_kid {r:Row} {j:Nat} (h:hasA r (isKid j)=true) (ho: ∀e∈r.asg,OrT P W N e.1 e.2): ∀k,N.kids[j]? =some k→May k:=by
 obtain⟨q,a,h1,h2⟩:=hasA_ok h ho
 cases q<;>simp only[isKid]at h1<;>try (cases h1;done)
 simp only[Bool.and_eq_true]at h1
 have:=Nat.eq_of_beq_eq_true h1.1;subst this
 exact fun k hk=>(h2 k hk).2 h1.2
theorem fact_ok {f:Nat} {r:Row} (hf:r.c.Fits N) (h:factT f r=true) (ho: ∀e∈r.asg,OrT P W N e.1 e.2) (hy:yesF f r.ans=true):May N:=by
 simp only[factT,hy,Bool.not_true,Bool.false_or,Bool.or_eq_true,Bool.and_eq_true]at h
 rcases h with h|⟨h1,h2⟩
 ·obtain⟨q,a,h1,h2⟩:=hasA_ok h ho
  cases q<;>simp only[isSelf]at h1<;>try (cases h1;done)
  exact h2.2 h1
 ·refine .mk (shapeC_ok hf h1) ?_
  have hk:=hf.kids
  have two:(∀k,N.kids[0]? =some k→May k)→(∀k∈N.kids.drop 1,May k)→ ∀k∈N.kids,May k:=by
   intro a b k hk
   cases hN:N.kids with
   |nil=>rw[hN]at hk;cases hk
   |cons y l=>
    rw[hN]at a b hk
    rcases List.mem_cons.1 hk with rfl|hk
    ·exact a _ rfl
    ·exact b k hk
  unfold kidsYes at h2
  split at h2
  ·rename_i h;rw[h]at hk;simp only[KC.fits]at hk
   have:=List.eq_nil_of_length_eq_zero hk
   intro k hk;rw[this]at hk;cases hk
  ·rename_i h;rw[h]at hk;simp only[KC.fits]at hk
   simp only[Bool.or_eq_true]at h2
   rcases h2 with h2|h2
   ·exact has_all h2 ho
   ·refine two (has_kid h2 ho) fun k hk'=>?_
    have:N.kids.drop 1=[]:=List.eq_nil_of_length_eq_zero (by simp;omega)
    rw[this]at hk';cases hk'
  ·rename_i h;rw[h]at hk;simp only[KC.fits]at hk
   simp only[Bool.or_eq_true,Bool.and_eq_true]at h2
   rcases h2 with h2|⟨h2,h3|h3⟩
   ·exact has_all h2 ho
   ·refine two (has_kid h2 ho) fun k hk'=>?_
    obtain⟨i,hi⟩:=List.mem_iff_getElem?.1 hk'
    rw[List.getElem?_drop]at hi
    have hlt:=(List.getElem?_eq_some_iff.1 hi).1
    have:i=0:=by omega
    subst this
    exact has_kid h3 ho k hi
   ·exact two (has_kid h2 ho) (has_tail h3 ho (by intro e;rw[e]at hk;simp at hk))
  ·rename_i h;rw[h]at hk;simp only[KC.fits]at hk
   simp only[Bool.or_eq_true,Bool.and_eq_true]at h2
   rcases h2 with h2|⟨h2,h3⟩
   ·exact has_all h2 ho
   ·exact two (has_kid h2 ho) (has_tail h3 ho (by intro e;rw[e]at hk;simp at hk;omega))
  ·rename_i h;rw[h]at hk;simp only[KC.fits]at hk
   simp only[Bool.or_eq_true,Bool.and_eq_true]at h2
   rcases h2 with h2|⟨h2,h3⟩
   ·exact has_all h2 ho
   ·exact two (has_kid h2 ho) (has_tail h3 ho (by intro e;rw[e]at hk;simp at hk))
  ·cases h2
def tabOk (P:Program) (f:Nat) (l:List Row):Bool:=l.all fun r=>rowRun P 100 f r&&factT f r&&Nat.blt r.ans (bif Nat.beq f 21 then 5 else 2)
theorem tab_ok {f:Nat} {tab:Nat→DT} (hmix:P.follows .mixedOrders=true) (hB: ∀σ,KnownOk P kBase (.at W σ)) (h0:0<W.heap.size) (hw:Wf W N) (ht:tabOk P f (rowsK candT tab (tab 64))=true) {ok:Nat→Bool} (hn: ∀k,k<65→named ok (tab k) []=true)
 (hc: ∀i,candT i≤32) (hO: ∀i,ok i=true→ ∃a,a<candT i∧OrT P W N i a): ∃a,a<(bif Nat.beq f 21 then 5 else 2)∧fP P W f N a:=by
 obtain⟨r,h1,h2,h3⟩:=rowsK_sound (N:=N) hc hO (f:=tab) (d:=tab 64) (fun k hk=>hn k (by omega)) (hn 64 (by omega))
 have:=List.all_eq_true.1 ht r h1
 simp only[Bool.and_eq_true]at this
 exact⟨r.ans,Nat.blt_eq.mp this.2,row_real hmix hB h0 hw h2 h3 this.1.1,fact_ok h2 this.1.2 h3⟩
theorem candT_le (i:Nat):candT i≤32:=by
 unfold candT
 cases askT i<;>simp only[candA]<;>(try omega)
 ·rename_i f;cases Nat.beq f 21<;>simp
 ·rename_i f j;cases Nat.beq f 21<;>simp
def okSelf (g:Nat) (i:Nat):Bool:=match askT i with| .self f=>Nat.beq f g|_=>true
structure TreeOk (P:Program) (W:World) (N:Tr):Prop where
 des: ∃a,a<2∧fP P W 154 N a
 fac: ∃a,a<2∧fP P W 53 N a
 lev: ∃a,a<5∧fP P W 21 N a
 may: ∃a,a<2∧fP P W 12 N a
theorem tree_ok (hmix:P.follows .mixedOrders=true) (hB: ∀σ,KnownOk P kBase (.at W σ)) (h0:0<W.heap.size)
 (t1:tabOk P 154 (rowsK candT desT (desT 64))=true) (t2:tabOk P 53 (rowsK candT facT (facT 64))=true) (t3:tabOk P 21 (rowsK candT levT (levT 64))=true) (t4:tabOk P 12 (rowsK candT mayT (mayT 64))=true)
 (n1: ∀k,k<65→named (okSelf 0) (desT k) []=true) (n2: ∀k,k<65→named (okSelf 154) (facT k) []=true) (n3: ∀k,k<65→named (okSelf 53) (levT k) []=true) (n4: ∀k,k<65→named (okSelf 21) (mayT k) []=true)
 (hName: ∀l:List UInt8,l.length≤9223372036854775807→ ∃a,a<2∧RealPure P W 236 [.string ⟨l.toArray⟩] (valF 236 a)) (hText: ∀l:List UInt8,l.length≤9223372036854775807→ ∃a,a<2∧RealPure P W 156 [.string ⟨l.toArray⟩] (valF 156 a))
 (hAll: ∀sl l,SlOk W sl l→(∀k∈l,Wf W k)→(∀k∈l,∃a,a<2∧fP P W 12 k a)→ ∃a,a<2∧RealPure P W 155 [sl,fnMay] (valF 155 a)∧(yesF 155 a=true→ ∀k∈l,May k)):
 ∀N:Tr,Wf W N→TreeOk P W N:=by
 intro N
 induction N using Tr.rec (motive_2:=fun l=> ∀k∈l,Wf W k→TreeOk P W k)with
 |nil=>rename_i h _;cases h
 |cons a l iha ihl=>
  rename_i k hk hwk
  rcases List.mem_cons.1 hk with rfl|hk
  ·exact iha hwk
  ·exact ihl k hk hwk
 |mk kd nm v b sl l ih=>
  intro hw
  have hkid: ∀k∈l,TreeOk P W k:=fun k hk=>ih k hk (hw.kid hk)
  have hO: ∀g:Nat,(∀i,okSelf g i=true→askT i= .self g→ ∃a,a<(bif Nat.beq g 21 then 5 else 2)∧fP P W g (Tr.mk kd nm v b sl l) a)→ ∀i,okSelf g i=true→ ∃a,a<candT i∧OrT P W (Tr.mk kd nm v b sl l) i a:=by
   intro g hg i hi
   have hi0:=hi
   simp only[okSelf]at hi
   simp only[candT,OrT]
   cases hq:askT i with
   |name=>exact hName nm hw.name
   |text=>exact hText nm hw.name
   |all=>exact hAll _ _ hw.slOk (fun k hk=>hw.kid hk) fun k hk=>(hkid k hk).may
   |tail=>
    by_cases hne:l=[]
    ·exact⟨0,by simp[candA],fun h=>absurd hne h⟩
    ·obtain⟨a,h1,h2⟩:=hAll _ _ (hw.slOk.tail hne) (fun k hk=>hw.kid (List.mem_of_mem_drop hk)) fun k hk=>(hkid k (List.mem_of_mem_drop hk)).may
     exact⟨a,h1,fun _=>h2⟩
   |self f=>
    rw[hq]at hi
    have:=Nat.eq_of_beq_eq_true hi;subst this
    exact hg i hi0 hq
   |kid f j=>
    cases hk:l[j]? with
    |none=>exact⟨0,by simp only[candA];cases Nat.beq f 21<;>simp,fun k h=>by rw[show(Tr.mk kd nm v b sl l).kids=l from rfl,hk]at h;cases h⟩
    |some k=>
     have ht:=hkid k (List.mem_of_getElem? hk)
     have hf:f=154∨f=53∨f=21∨f=12:=by
      unfold askT at hq
      split at hq<;>first|(cases hq;done)|skip
      simp only[Ask.kid.injEq]at hq
      rw[←hq.1]
      unfold fnOf
      split<;>simp
     have: ∃a,a<(bif Nat.beq f 21 then 5 else 2)∧fP P W f k a:=by
      rcases hf with rfl|rfl|rfl|rfl
      ·exact ht.des
      ·exact ht.fac
      ·exact ht.lev
      ·exact ht.may
     obtain⟨a,h1,h2⟩:=this
     exact⟨a,h1,fun k' h=>by rw[show(Tr.mk kd nm v b sl l).kids=l from rfl,hk]at h;cases h;exact h2⟩
  have d:=tab_ok (f:=154) hmix hB h0 hw t1 n1 candT_le (hO 0 fun i _ hf=>by
   exfalso
   unfold askT at hf
   split at hf<;>first|(cases hf;done)|(simp at hf))
  have fc:=tab_ok (f:=53) hmix hB h0 hw t2 n2 candT_le (hO 154 fun _ _ _=>d)
  have lv:=tab_ok (f:=21) hmix hB h0 hw t3 n3 candT_le (hO 53 fun _ _ _=>fc)
  have my:=tab_ok (f:=12) hmix hB h0 hw t4 n4 candT_le (hO 21 fun _ _ _=>lv)
  exact⟨d,fc,lv,my⟩
end
end
end Go.AM
namespace Go.AM
noncomputable section
structure TS where
 x:Nat
 pre:List (Nat×AObj)
 c:Nat
 basic:Nat→Nat
 proc:Nat→Nat
def ptrV (i:Nat):Value:= .pointer (some ⟨i,0,none⟩)
def TS.cV (S:TS):Value:=ptrV S.c
def formO:Nat→Nat
 |1=>1
 |2=>2
 |3=>3
 |4=>5
 |5=>1
 |6=>2
 |7=>2
 |8=>3
 |9=>5
 |10=>6
 |11=>7
 |12=>7
 |_=>0
def knownO (o:Nat):Bool:=Nat.ble 5 o&&Nat.ble o 11
def itemO (S:TS) (o:Nat) (v t:Value):Value:= .agg #[ptrV (S.basic (formO o)),.bool (knownO o),v,.bool false,.bool false,t,.pointer none]
def wrongT:TypeId:=111
def panY:Ans:= .pan wrongT (.int .i64 7)
def outA (S:TS) (o:Nat) (v t:Value):Ans:=bif Nat.beq o 0 then panY else .ret (itemO S o v t)
def emptyS:Value:= .string ⟨#[]⟩
def u32 (n:Nat):Value:= .int .u32 (Int.ofNat n)
def valO (i off:Nat):Nat→Value
 |5=>opq i 3 off
 |8=>opq i 3 0
 |9=>opq i 3 0
 |11=>opq i 3 0
 |7=>u32 1
 |_=>u32 0
def textO (i:Nat):Nat→Value
 |11=>opq i 10 1
 |12=>opq i 9 1
 |_=>emptyS
def idV (x j:Nat):Nat:=Nat.add (Nat.add x 15) (Nat.mul 10 j)
def idT (x j:Nat):Nat:=Nat.add (Nat.add x 16) (Nat.mul 10 j)
def asgOf (asg:List (Nat×Nat)) (i:Nat):Option Nat:=match asg with
 |[]=>none
 |(j,a)::l=>bif Nat.beq j i then some a else asgOf l i
def parOff (asg:List (Nat×Nat)) (j:Nat):Nat:=bif Nat.beq j 1 then(match asgOf asg 8 with|some p=>Nat.succ p|none=>0)else 0
def kidO (x:Nat) (asg:List (Nat×Nat)) (j o:Nat):Value:=valO (idV x j) (parOff asg j) o
def procA (S:TS):Nat→Ans
 |0=>panY
 |p+1=> .ret (ptrV (S.proc p))
def setA (S:TS) (a:Nat) (v:Value):Ans:=match a with
 |0=>panY
 |1=>outA S 4 (u32 0) emptyS
 |_=>outA S 9 v emptyS
def stE (S:TS) (c:Cls) (asg:List (Nat×Nat)) (e:Nat×Nat):List (Nat×List Value×Ans):=
 match e.1 with
 |3=>bif Nat.blt 0 (told c.kids)then[(89,[S.cV,kidV S.x 0],procA S e.2)]else[]
 |4=>bif Nat.blt 0 (told c.kids)then[(91,[S.cV,kidV S.x 0],.ret (.pointer none))]else[]
 |5=>[(26,[S.cV,absKids S.x c.kids],setA S e.2 (opq (Nat.add S.x 7) 3 0))]
 |j=>bif Nat.blt j (told c.kids)then[(16,[S.cV,kidV S.x j],outA S e.2 (kidO S.x asg j e.2) (textO (idT S.x j) e.2))]else[]
def litN:NC→List Nat
 | .lit l=>l
 |_=>[]
def r7 (x:Nat):Value:=opq (Nat.add x 7) 3 0
def r8 (x:Nat):Value:=opq (Nat.add x 8) 3 0
def reck (x:Nat) (c:Cls) (asg:List (Nat×Nat)):List (Nat×List Value×Ans):=
 match c.kind with
 |some 35=>match asgOf asg 0,asgOf asg 1 with
  |some a,some b=>
   let v:=kidO x asg 0 a
   let w:=kidO x asg 1 b
   let nm:=absName (Nat.add x 2) c.name
   bif Nat.beq (formO a) 5&&Nat.beq (formO b) 5 then[(87,[nm,v,w],.ret (r7 x))]
   else bif Nat.beq (formO a) 1&&Nat.beq (formO b) 1 then
    (bif Nat.beq (List.length (litN c.name)) 3 then[(86,[v,w],.ret (.tuple #[r7 x,r8 x,poi]))]else[(88,[nm,v,w],.ret (r7 x))])
   else[]
  |_,_=>[]
 |some 34=>match asgOf asg 0 with
  |some a=>[(30,[u32 0,kidO x asg 0 a,.bool false],.ret (.tuple #[r7 x,poi,poi]))]
  |none=>[]
 |some 21=>match asgOf asg 3,asgOf asg 1 with
  |some p,some a=>match asgOf asg 2 with
   |some b=>bif Nat.beq p 5 then[(79,[kidO x asg 1 a,kidO x asg 2 b],.ret (r7 x))]else bif Nat.beq p 6 then[(167,[kidO x asg 1 a,kidO x asg 2 b],.ret (r7 x))]else[]
   |none=>bif Nat.beq p 1 then[(30,[u32 0,kidO x asg 1 a,.bool false],.ret (.tuple #[r7 x,poi,poi]))]else[]
  |_,_=>[]
 |_=>[]
def lessE (x:Nat) (asg:List (Nat×Nat)) (e:Nat×Nat):List (Nat×List Value×Ans):=
 match e.1 with
 |6=>[(85,[u32 0,kidO x asg 1 5],.ret (.bool (Nat.beq e.2 1)))]
 |7=>[(85,[kidO x asg 1 5,u32 0],.ret (.bool (Nat.beq e.2 1)))]
 |_=>[]
def isSt (e:Nat×Nat):Bool:=Nat.blt e.1 6
def catE (f:Nat×Nat→List (Nat×List Value×Ans)):List (Nat×Nat)→List (Nat×List Value×Ans)
 |[]=>[]
 |e::l=>f e++catE f l
def stEs (S:TS) (c:Cls) (asg:List (Nat×Nat)):List (Nat×List Value×Ans):=catE (fun e=>bif isSt e then stE S c asg e else[]) asg
def pureEs (x:Nat) (c:Cls) (asg:List (Nat×Nat)):List (Nat×List Value×Ans):=catE (lessE x asg) asg++reck x c asg
def withS (S:TS) (K:Known) (es:List (Nat×List Value×Ans)):Known:=fun g=>match sel g es with
 |[]=>K g
 |l=>some (tblK S.pre S.x l)
def knownY (S:TS) (r:Row):Known:=withS S (withE noK (pureEs S.x r.c r.asg)) (stEs S r.c r.asg)
def srcV (x:Nat) (c:Cls):Nat→Value
 |1=>absValue (Nat.add x 3) c.value
 |2=>opq (Nat.add x 15) 3 0
 |3=>r7 x
 |4=>r8 x
 |5=>opq (Nat.add x 25) 3 0
 |6=>(match c.name with| .lit [b]=>u32 b|_=>poi)
 |8=>opq (Nat.add x 25) 6 0
 |10=>u32 1
 |_=>u32 0
def srcT (x:Nat) (c:Cls):Nat→Value
 |6=>absName (Nat.add x 2) c.name
 |7=>absName (Nat.add x 2) c.name
 |_=>emptyS
def ansY (S:TS) (r:Row):Ans:=
 let o:=Nat.mod r.ans 16
 let src:=Nat.div r.ans 16
 outA S o (srcV S.x r.c src) (srcT S.x r.c src)
def isI (a:Nat):Bool:=Nat.beq a 1||Nat.beq a 5
def isB (a:Nat):Bool:=Nat.beq a 2||Nat.beq a 6||Nat.beq a 7
def isS (a:Nat):Bool:=Nat.beq a 4||Nat.beq a 9
def isOne (a:Nat):Bool:=Nat.beq a 3||Nat.beq a 8||Nat.beq a 11
def mkO (o src:Nat):Nat:=Nat.add o (Nat.mul 16 src)
def parenO (o:Nat):Nat:=match o with
 |5=>mkO 5 2
 |8=>mkO 8 2
 |9=>mkO 9 2
 |11=>mkO 8 2
 |12=>0
 |7=>mkO 7 10
 |o=>o
def notO (o:Nat):Nat:=match o with
 |2=>2
 |6=>mkO 7 10
 |7=>6
 |_=>0
def signO (neg:Bool) (o:Nat):Nat:=match o with
 |1=>1
 |5=>mkO 5 (bif neg then 3 else 2)
 |_=>0
def bothK (a b:Nat):Bool:=knownO a&&knownO b
def boolO (b:Bool):Nat:=bif b then mkO 7 10 else 6
def opO (w a b:Nat) (pos:Bool):Nat:=
 match w with
 |0=>bif isB a&&isB b then(bif bothK a b then boolO (Nat.beq a 7&&Nat.beq b 7)else 2)else 0
 |1=>bif isB a&&isB b then(bif bothK a b then boolO (Nat.beq a 7||Nat.beq b 7)else 2)else 0
 |2=>bif (isOne a&&isOne b)||(Nat.beq a 10&&Nat.beq b 10)||(isI a&&isI b)||(isB a&&isB b)||(isS a&&isS b)then 2 else 0
 |3=>bif (isI a&&isI b)||(isOne a&&isOne b)then 2 else 0
 |4=>bif isI a&&isS b then 2 else 0
 |5=>bif isI a&&isI b&&pos then(bif bothK a b then mkO 5 3 else 1)else 0
 |6=>bif isI a&&isI b&&pos then(bif bothK a b then mkO 5 4 else 1)else 0
 |7=>bif isS a&&isS b then(bif bothK a b then mkO 9 3 else 4)else bif isI a&&isI b then(bif bothK a b then mkO 5 3 else 1)else 0
 |_=>bif isS a&&isS b then(bif bothK a b then mkO 9 3 else 4)else 0
def leafP:DT:= .leaf 0
def ask2 (f:Nat→Nat→DT):DT:= .ask 0 fun a=>bif Nat.beq a 0 then leafP else .ask 1 fun b=>f a b
def opDT (w:Nat):DT:=ask2 fun a b=>bif (Nat.beq w 5||Nat.beq w 6)&&isI a&&Nat.beq b 5 then .ask 6 fun p=> .leaf (opO w a b (Nat.beq p 1))else .leaf (opO w a b true)
def words1:List (List Nat×Nat)→DT→DT
 |[],d=>d
 |(w,k)::l,d=> .word [w] (opDT k) (words1 l d)
def opsAll:List (List Nat×Nat):=[([38],0),([79,82],1),([61],2),([35],2),([60],3),([60,61],3),([62],3),([62,61],3),([73,78],4),([68,73,86],5),([77,79,68],6),([43],7),([45],7),([42],7),([47],8)]
def bad:DT:= .leaf 999
def k1 (d:DT):DT:= .kids bad d bad bad bad
def k2 (d:DT):DT:= .kids bad bad d bad bad
def arg1 (f:Nat→Nat):DT:= .kids bad leafP (.ask 1 fun a=> .leaf (f a)) leafP leafP
def arg2 (d:DT):DT:= .kids bad leafP leafP d leafP
def two (f:Nat→Nat→Nat):DT:=arg2 (.ask 1 fun a=>bif Nat.beq a 0 then leafP else .ask 2 fun b=> .leaf (f a b))
def callDT (p:Nat):DT:=
 match p with
 |0=> .kids bad leafP leafP leafP leafP
 |1=> .kids bad leafP (.ask 1 fun a=>bif Nat.beq a 5 then .ask 7 fun n=> .leaf (bif Nat.beq n 1 then mkO 5 3 else mkO 5 5)else .leaf (bif Nat.beq a 1 then 1 else 0)) leafP leafP
 |2=> .kids bad leafP (.ask 1 fun a=>bif Nat.beq a 5 then .ask 8 fun n=> .leaf (boolO (Nat.beq n 1))else .leaf (bif Nat.beq a 1 then 2 else 0)) leafP leafP
 |3=>arg1 fun a=>match a with
  |1=>1
  |2=>1
  |3=>1
  |4=>1
  |5=>mkO 5 5
  |6=>5
  |7=>mkO 5 10
  |8=>mkO 5 5
  |9=>mkO 5 5
  |11=>mkO 5 5
  |_=>0
 |4=>arg1 fun a=>match a with
  |1=>3
  |5=>mkO 8 8
  |_=>0
 |5=>two fun a b=>bif isI a&&isI b then(bif bothK a b then mkO 5 3 else 1)else 0
 |6=>two fun a b=>bif isI a&&isI b then(bif bothK a b then mkO 5 3 else 1)else 0
 |7=>arg1 fun _=>0
 |8=> .kids bad leafP (.ask 1 fun _=>leafP) (.ask 1 fun _=>leafP) leafP
 |9=> .kids bad leafP (.ask 1 fun _=>leafP) (.ask 1 fun _=>leafP) leafP
 |10=>arg1 fun _=>0
 |11=>arg1 fun _=>0
 |12=>arg1 fun _=>0
 |13=>arg1 fun a=>bif Nat.beq a 11||Nat.beq a 12 then 1 else 0
 |14=>arg1 fun a=>bif Nat.beq a 11||Nat.beq a 12 then 1 else 0
 |15=>arg1 fun a=>bif isI a then 2 else 0
 |16=>arg1 fun a=>bif isI a then 1 else 0
 |17=>arg2 (.ask 1 fun a=>bif isI a then .ask 2 fun _=>leafP else leafP)
 |18=>two fun _ _=>0
 |19=>arg2 (.ask 1 fun a=>bif isI a then .ask 2 fun _=>leafP else leafP)
 |20=>two fun _ _=>0
 |21=>two fun _ _=>0
 |22=>arg1 fun _=>0
 |_=>arg1 fun _=>0
def bytes1:List (List Nat):=(List.range 256).map fun b=>[b]
def typT:Nat→DT
 |25=> .leaf (mkO 5 1)
 |26=> .leaf (mkO 8 1)
 |27=> .word bytes1 (.leaf (mkO 11 6)) (.many (.leaf (mkO 12 7)) bad)
 |28=> .leaf 10
 |29=> .leaf (mkO 7 10)
 |30=> .leaf 6
 |31=> .kids (.ask 5 fun a=> .leaf (match a with|0=>0|1=>4|_=>mkO 9 3)) (.ask 5 fun a=> .leaf (match a with|0=>0|1=>4|_=>mkO 9 3)) (.ask 5 fun a=> .leaf (match a with|0=>0|1=>4|_=>mkO 9 3)) (.ask 5 fun a=> .leaf (match a with|0=>0|1=>4|_=>mkO 9 3)) (.ask 5 fun a=> .leaf (match a with|0=>0|1=>4|_=>mkO 9 3))
 |32=>k1 (.ask 0 fun a=> .leaf (parenO a))
 |33=>k1 (.ask 0 fun a=> .leaf (notO a))
 |34=>k1 (.word [[45]] (.ask 0 fun a=> .leaf (signO true a)) (.word [[43]] (.ask 0 fun a=> .leaf (signO false a)) (.word (otherWords signs) bad (.foreign bad bad))))
 |35=>k2 (words1 opsAll (.word (otherWords (ops1++ops2++ops3)) bad (.foreign bad bad)))
 |21=> .ask 3 callDT
 |36=>k1 (.ask 4 fun _=> .ask 0 fun _=>leafP)
 |37=>k2 (.ask 0 fun _=>leafP)
 |38=>k1 (.ask 0 fun _=>leafP)
 |11=> .word words leafP (.foreign leafP bad)
 |_=>bad
def candY (i:Nat):Nat:=match i with
 |0=>13
 |1=>13
 |2=>13
 |3=>24
 |4=>1
 |5=>3
 |_=>2
def rowRunY (P:Program) (S:TS) (r:Row):Bool:=tplRun P (knownY S r) 2000 16 [S.cV,absV S.x r.c] (Nat.add S.x 60) (S.pre++extT S.x r.c) (ansY S r) (S.pre++extT S.x r.c)
end
end Go.AM
namespace Go.AM
noncomputable section
variable {P:Program} {W:World}
def exL (x:Nat) (D:Nat→Nat×List UInt8) (R1 R2:Nat):List (Nat×Loc):=
 [(x+15,locW (D 0).1),(x+16,locS (D 0).2),(x+25,locW (D 1).1),(x+26,locS (D 1).2),(x+35,locW (D 2).1),(x+36,locS (D 2).2),(x+7,locW R1),(x+8,locW R2)]
def sigY (x:Nat) (lr lm:Loc) (N:Tr) (D:Nat→Nat×List UInt8) (R1 R2:Nat):Nat→Option Loc:=look (sigL x lr lm N (N.kids.take 3) (exL x D R1 R2))
section
variable {x:Nat} {lr lm:Loc} {N:Tr} {D:Nat→Nat×List UInt8} {R1 R2:Nat}
theorem kids_out: ∀ {l:List Tr} {i n:Nat} {R:List (Nat×Loc)},(∀j,j<l.length→n<i+10*j∨i+10*j+5≤n)→look (sigL.kidsL i l++R) n=look R n
 |[],_,_,_,_=>rfl
 |k::l,i,n,R,h=>by
  simp only[sigL.kidsL,List.append_assoc]
  rw[look_skip (by have:=h 0 (by simp);simpa using this)]
  exact kids_out fun j hj=>by
   have:=h (j+1) (by simpa using hj)
   omega
theorem sig_ex {kids:List Tr} {ex:List (Nat×Loc)} {n:Nat} (hk:kids.length≤3) (h:n=x+7∨n=x+8∨ ∃j,j≤2∧(n=x+15+10*j∨n=x+16+10*j)):look (sigL x lr lm N kids ex) n=look ex n:=by
 have h1:n≠x∧n≠x+6∧(n<x+1∨x+1+5≤n)∧ ∀j,j<3→n<x+10+10*j∨x+10+10*j+5≤n:=by
  rcases h with h|h|⟨j,hj,h|h⟩
  ·exact⟨by omega,by omega,by omega,fun j hj=>by omega⟩
  ·exact⟨by omega,by omega,by omega,fun j hj=>by omega⟩
  ·exact⟨by omega,by omega,by omega,fun i hi=>by omega⟩
  ·exact⟨by omega,by omega,by omega,fun i hi=>by omega⟩
 obtain⟨h1,h2,h3,h4⟩:=h1
 simp only[sigL,look]
 rw[if_neg h1,if_neg h2,look_skip h3]
 exact kids_out fun j hj=>h4 j (by omega)
theorem take3:(N.kids.take 3).length≤3:=by simp;omega
theorem sig_v {j:Nat} (hj:j≤2):sigY x lr lm N D R1 R2 (idV x j)=some (locW (D j).1):=by
 have e:idV x j=x+15+10*j:=rfl
 rw[e,sigY,sig_ex take3 (.inr (.inr ⟨j,hj,.inl rfl⟩))]
 have:j=0∨j=1∨j=2:=by omega
 rcases this with rfl|rfl|rfl<;>simp[exL,look]
theorem sig_t {j:Nat} (hj:j≤2):sigY x lr lm N D R1 R2 (idT x j)=some (locS (D j).2):=by
 have e:idT x j=x+16+10*j:=rfl
 rw[e,sigY,sig_ex take3 (.inr (.inr ⟨j,hj,.inr rfl⟩))]
 have:j=0∨j=1∨j=2:=by omega
 rcases this with rfl|rfl|rfl<;>simp[exL,look]
theorem sig_7:sigY x lr lm N D R1 R2 (Nat.add x 7)=some (locW R1):=by
 have e:Nat.add x 7=x+7:=rfl
 rw[e,sigY,sig_ex take3 (.inl rfl)]
 simp[exL,look]
theorem sig_8:sigY x lr lm N D R1 R2 (Nat.add x 8)=some (locW R2):=by
 have e:Nat.add x 8=x+8:=rfl
 rw[e,sigY,sig_ex take3 (.inr (.inl rfl))]
 simp[exL,look]
theorem ex_range: ∀q∈exL x D R1 R2,(x≤q.1∧q.1<x+60)∧q.2.blk=0:=by
 have hW: ∀n,(locW n).blk=0:=fun _=>rfl
 have hS: ∀n,(locS n).blk=0:=fun _=>rfl
 have main: ∀(n:Nat) (l:Loc),l.blk=0→n<60→(x≤(x+n,l).1∧(x+n,l).1<x+60)∧(x+n,l).2.blk=0:=fun n l h1 h2=>⟨⟨by simp only[];omega,by simp only[];omega⟩,h1⟩
 intro q hq
 simp only[exL,List.mem_cons,List.mem_nil_iff,or_false]at hq
 rcases hq with h|h|h|h|h|h|h|h<;>rw[h]<;>refine main _ _ ?_ (by omega)<;>first|exact hW _|exact hS _
theorem litV_chan {σ:Nat→Option Loc} {m:Nat} {l:Loc} {v:Value} (hk:symK (symCode m)=none) (hi:σ (symId m)=some l) (hd:den (symCode m) (symOff m) l=some v):litV σ (.chan (some m))=v:=by
 simp only[litV,hi,hk,hd]
theorem lit_opq {σ:Nat→Option Loc} {id c off:Nat} {l:Loc} {v:Value} (hc:c<16) (ho:off<1048576) (hk:symK c=none) (hi:σ id=some l) (hd:den c off l=some v):litV σ (opq id c off)=v:=by
 obtain⟨a,b,d⟩:=opqMk (id:=id) hc ho
 unfold opq
 exact litV_chan (by rw[b];exact hk) (by rw[a];exact hi) (by rw[b,d];exact hd)
def realV (o v:Nat):Value:=
 match o with
 |5=>u32 v
 |8=>u32 v
 |9=>u32 v
 |11=>u32 v
 |7=>u32 1
 |_=>u32 0
def realT (o:Nat) (t:List UInt8):Value:=
 match o with
 |11=> .string ⟨t.toArray⟩
 |12=> .string ⟨t.toArray⟩
 |_=>emptyS
def outR (S:TS) (o v:Nat) (t:List UInt8):Ans:=outA S o (realV o v) (realT o t)
structure Good (o v:Nat) (t:List UInt8):Prop where
 lt:o<13
 v:v<4294967296
 one:o=11→t.length=1
 not1:o=12→t.length≠1
theorem d_len {t:List UInt8} {n:Nat} (h:t.length=n):den 10 n (locS t)=some (.string ⟨t.toArray⟩):=by
 simp only[den,locS,decS_encS]
 rw[if_pos h]
theorem d_not1 {t:List UInt8} (h:t.length≠1):den 9 1 (locS t)=some (.string ⟨t.toArray⟩):=by
 simp only[den,locS,decS_encS]
 rw[if_pos ⟨fun _=>h,fun x=>(by cases x),fun x=>(by cases x)⟩]
theorem d_par {v off:Nat} (hv:v<4294967296) (h:off=0∨off=1∧v % 2=0∨off=2∧v % 2=1):den 3 off (locW v)=some (u32 v):=by
 have hb:(locW v).base=v:=rfl
 simp only[den]
 split
 ·rw[hb];rfl
 ·rename_i hn
  rw[hb]at hn
  exact absurd ⟨hv,fun e=>by omega,fun e=>by omega,fun e=>by omega,fun e=>by omega,fun e=>by omega⟩ hn
section
variable {σ:Nat→Option Loc} {o v i off:Nat} {t:List UInt8}
theorem valO_cases (i off:Nat) (o v:Nat):(valO i off o=opq i 3 off∧realV o v=u32 v)∨(valO i off o=opq i 3 0∧realV o v=u32 v)∨(∃n,valO i off o=u32 n∧realV o v=u32 n):=by
 by_cases h:o=5∨o=8∨o=9∨o=11∨o=7
 ·rcases h with rfl|rfl|rfl|rfl|rfl
  ·exact .inl ⟨rfl,rfl⟩
  ·exact .inr (.inl ⟨rfl,rfl⟩)
  ·exact .inr (.inl ⟨rfl,rfl⟩)
  ·exact .inr (.inl ⟨rfl,rfl⟩)
  ·exact .inr (.inr ⟨1,rfl,rfl⟩)
 ·refine .inr (.inr ⟨0,?_,?_⟩)
  ·unfold valO;split<;>first|rfl|omega
  ·unfold realV;split<;>first|rfl|omega
theorem valO_lit (hg:Good o v t) (hi:σ i=some (locW v)) (ho:off<3) (hp:off=0∨off=1∧v % 2=0∨off=2∧v % 2=1):litV σ (valO i off o)=realV o v:=by
 rcases valO_cases i off o v with⟨e1,e2⟩|⟨e1,e2⟩|⟨n,e1,e2⟩
 ·rw[e1,e2];exact lit_opq (by omega) (by omega) rfl hi (d_par hg.v hp)
 ·rw[e1,e2];exact lit_opq (by omega) (by omega) rfl hi (d_par hg.v (.inl rfl))
 ·rw[e1,e2];rfl
theorem valO_tells {ι:Inj} (hg:Good o v t) (hi:ι i=some (locW v)) (ho:off<3) (hp:off=0∨off=1∧v % 2=0∨off=2∧v % 2=1):Tells ι (valO i off o) (realV o v):=by
 rcases valO_cases i off o v with⟨e1,e2⟩|⟨e1,e2⟩|⟨n,e1,e2⟩
 ·rw[e1,e2];exact tells_opq (by omega) (by omega) rfl (by omega) hi (d_par hg.v hp)
 ·rw[e1,e2];exact tells_opq (by omega) (by omega) rfl (by omega) hi (d_par hg.v (.inl rfl))
 ·rw[e1,e2];exact tells_int _ _
theorem textO_lit (hg:Good o v t) (hi:σ i=some (locS t)):litV σ (textO i o)=realT o t:=by
 by_cases h1:o=11
 ·subst h1;exact lit_opq (by omega) (by omega) rfl hi (d_len (hg.one rfl))
 by_cases h2:o=12
 ·subst h2;exact lit_opq (by omega) (by omega) rfl hi (d_not1 (hg.not1 rfl))
 ·have e1:textO i o=emptyS:=by unfold textO;split<;>first|rfl|omega
  have e2:realT o t=emptyS:=by unfold realT;split<;>first|rfl|omega
  rw[e1,e2];rfl
theorem outA_lit {S:TS} {v1 t1 v2 t2:Value} (h1:litV σ v1=v2) (h2:litV σ t1=t2):(outA S o v1 t1).lit σ=outA S o v2 t2:=by
 unfold outA
 cases Nat.beq o 0 with
 |true=>rfl
 |false=>
  simp only[cond_false,Ans.lit,itemO,litA]
  simp only[List.map_cons,List.map_nil,h1,h2]
  rfl
end
end
end
end Go.AM
namespace Go.AM
noncomputable section
variable {P:Program} {W:World}
structure TSok (S:TS):Prop where
 pl:okL (fun i=>Nat.blt i S.x) (fun _=>false) S.x S.pre=true
 mini:miniOk (fun _=>false) S.pre S.pre S.x=true
 chg:chgOk S.pre [S.cV] S.pre=true
 c:Nat.blt S.c S.x=true
 basic: ∀f,f<16→Nat.blt (S.basic f) S.x=true
 proc: ∀p,p<24→Nat.blt (S.proc p) S.x=true
section
variable {L:List (Nat×Loc)} {x:Nat}
structure Fine (L:List (Nat×Loc)) (x:Nat) (v:Value):Prop where
 ok:okC (fun i=>Nat.blt i x) (someL L) v=true
 good:goodV (look L) v
theorem fine_opq {id c off:Nat} {l:Loc} {v:Value} (hc:c<16) (ho:off<1048576) (hk:symK c=none) (hp:plainC c=true) (hi:look L id=some l) (hd:den c off l=some v):Fine L x (opq id c off):=by
 obtain⟨a,b,d⟩:=opqMk (id:=id) hc ho
 unfold opq
 refine⟨?_,?_⟩
 ·simp only[okC]
  rw[a,b,hp]
  simp[someL,hi]
 ·exact⟨l,by rw[a];exact hi,.inr ⟨by rw[b];exact hk,by rw[b];exact hp,v,by rw[b,d];exact hd⟩⟩
theorem fine_int (k:IntKind) (n:Int):Fine L x (.int k n):=⟨rfl,trivial⟩
theorem fine_str (s:ByteArray):Fine L x (.string s):=⟨rfl,trivial⟩
theorem fine_bool (b:Bool):Fine L x (.bool b):=⟨rfl,trivial⟩
theorem fine_nil:Fine L x (.pointer none):=⟨rfl,trivial⟩
theorem fine_ptr {i:Nat} (h:Nat.blt i x=true):Fine L x (ptrV i):=⟨by simp only[ptrV,okC,idsV];exact h,trivial⟩
theorem fine_out {S:TS} (hS:TSok S) {o:Nat} (ho:o<13) {v t:Value} (hv:Fine L S.x v) (ht:Fine L S.x t):(outA S o v t).ok (fun i=>Nat.blt i S.x) (someL L)=true∧(outA S o v t).good (look L):=by
 unfold outA
 cases Nat.beq o 0 with
 |true=>exact⟨rfl,trivial⟩
 |false=>
  have hb:Nat.blt (S.basic (formO o)) S.x=true:=hS.basic _ (by unfold formO;split<;>omega)
  have h1:Fine L S.x (ptrV (S.basic (formO o))):=fine_ptr hb
  refine⟨?_,?_⟩
  ·simp only[cond_false,Ans.ok,itemO,okA,List.all_cons,List.all_nil,Bool.and_true,Bool.and_eq_true]
   exact⟨h1.ok,rfl,hv.ok,rfl,rfl,ht.ok,rfl⟩
  ·simp only[cond_false,Ans.good,itemO,goodA]
   intro y hy
   simp only[List.mem_cons,List.mem_nil_iff,or_false]at hy
   rcases hy with rfl|rfl|rfl|rfl|rfl|rfl|rfl
   ·exact h1.good
   ·trivial
   ·exact hv.good
   ·trivial
   ·trivial
   ·exact ht.good
   ·trivial
end
theorem fine_val {L:List (Nat×Loc)} {x o v i off:Nat} {t:List UInt8} (hg:Good o v t) (hi:look L i=some (locW v)) (ho:off<3) (hp:off=0∨off=1∧v % 2=0∨off=2∧v % 2=1):Fine L x (valO i off o):=by
 rcases valO_cases i off o v with⟨e1,_⟩|⟨e1,_⟩|⟨n,e1,_⟩
 ·rw[e1];exact fine_opq (by omega) (by omega) rfl rfl hi (d_par hg.v hp)
 ·rw[e1];exact fine_opq (by omega) (by omega) rfl rfl hi (d_par hg.v (.inl rfl))
 ·rw[e1];exact fine_int _ _
theorem fine_text {L:List (Nat×Loc)} {x o v i:Nat} {t:List UInt8} (hg:Good o v t) (hi:look L i=some (locS t)):Fine L x (textO i o):=by
 by_cases h1:o=11
 ·subst h1;exact fine_opq (by omega) (by omega) rfl rfl hi (d_len (hg.one rfl))
 by_cases h2:o=12
 ·subst h2;exact fine_opq (by omega) (by omega) rfl rfl hi (d_not1 (hg.not1 rfl))
 ·have e1:textO i o=emptyS:=by unfold textO;split<;>first|rfl|omega
  rw[e1];exact fine_str _
def NodeY (P:Program) (W:World) (S:TS) (f:FuncId) (v:Value) (a:Ans):Prop:=NodeOk P W f S.pre S.pre S.x [S.cV] v a
structure Ora (P:Program) (W:World) (S:TS) (N:Tr) (A:Nat→Nat) (D:Nat→Nat×List UInt8) (R1 R2:Nat) (ok:Nat→Bool):Prop where
 kid: ∀j k,j≤2→ok j=true→N.kids[j]? =some k→Good (A j) (D j).1 (D j).2∧NodeY P W S 16 k.val (outR S (A j) (D j).1 (D j).2)
 dat: ∀j,j≤2→(D j).1<4294967296
 good: ∀j,j≤2→Good (A j) (D j).1 (D j).2
 r1:R1<4294967296
 r2:R2<4294967296
 proc:ok 3=true→A 3<24∧ ∀k,N.kids[0]? =some k→NodeY P W S 89 k.val (procA S (A 3))
 modu:ok 4=true→ ∀k,N.kids[0]? =some k→NodeY P W S 91 k.val (.ret (.pointer none))
 set:ok 5=true→NodeY P W S 26 N.sl (setA S (A 5) (u32 R1))
 below:ok 6=true→RealPure P W 85 [u32 0,u32 (D 1).1] (.bool (Nat.beq (A 6) 1))
 neg:ok 7=true→RealPure P W 85 [u32 (D 1).1,u32 0] (.bool (Nat.beq (A 7) 1))
 par:A 8=(D 1).1 % 2
section
variable {S:TS} {N:Tr} {A:Nat→Nat} {D:Nat→Nat×List UInt8} {R1 R2:Nat} {ok:Nat→Bool} {lr lm:Loc} {c:Cls} {asg:List (Nat×Nat)}
theorem asgOf_mem: ∀ {asg:List (Nat×Nat)} {i a:Nat},asgOf asg i=some a→(i,a)∈asg
 |[],_,_,h=>by cases h
 |(j,b)::l,i,a,h=>by
  simp only[asgOf]at h
  cases hb:Nat.beq j i with
  |true=>rw[hb]at h;simp only[cond_true,Option.some.injEq]at h;rw[←h,←Nat.eq_of_beq_eq_true hb];exact List.mem_cons_self
  |false=>rw[hb]at h;exact List.mem_cons_of_mem _ (asgOf_mem h)
theorem par_ok (hO:Ora P W S N A D R1 R2 ok) (ha: ∀e∈asg,e.2=A e.1∧ok e.1=true) (j:Nat):parOff asg j<3∧(parOff asg j=0∨parOff asg j=1∧(D j).1 % 2=0∨parOff asg j=2∧(D j).1 % 2=1):=by
 unfold parOff
 cases hj:Nat.beq j 1 with
 |false=>exact⟨Nat.zero_lt_succ _,.inl rfl⟩
 |true=>
  have:=Nat.eq_of_beq_eq_true hj;subst this
  simp only[cond_true]
  cases h8:asgOf asg 8 with
  |none=>exact⟨Nat.zero_lt_succ _,.inl rfl⟩
  |some p=>
   have hp:=(ha _ (asgOf_mem h8)).1
   have hp2:p=(D 1).1 % 2:=hp.trans hO.par
   have e:Nat.succ p=p+1:=rfl
   show Nat.succ p<3∧(Nat.succ p=0∨Nat.succ p=1∧(D 1).1 % 2=0∨Nat.succ p=2∧(D 1).1 % 2=1)
   rw[e]
   omega
theorem stE_ok (hS:TSok S) (hw:Wf W N) (hr:RowAt W N lr lm) (hf:c.Fits N) (hO:Ora P W S N A D R1 R2 ok) (ha: ∀e∈asg,e.2=A e.1∧ok e.1=true) {e:Nat×Nat} (he:e∈asg) (hst:isSt e=true):
 ∀t∈stE S c asg e,KOk P (.at W (sigY S.x lr lm N D R1 R2)) (miniK S.pre S.pre S.x t.2.1 t.2.2) t.1:=by
 have hrng: ∀i l,look (sigL S.x lr lm N (N.kids.take 3) (exL S.x D R1 R2)) i=some l→S.x≤i:=fun i l h=>(sig_range take3 (fun q hq=>(ex_range q hq).1) i l h).1
 have hhead:[S.cV].all (idsV (fun i=>Nat.blt i S.x) 60)=true:=by
  have:idsV (fun i=>Nat.blt i S.x) 60 S.cV=true:=hS.c
  simp only[List.all_cons,List.all_nil,this,Bool.and_true]
 have kidE: ∀ {g:FuncId} {j:Nat} {ao ol:Ans},j<told c.kids→(∀k,N.kids[j]? =some k→NodeY P W S g k.val ol)→ao.lit (sigY S.x lr lm N D R1 R2)=ol→
  ao.ok (fun i=>Nat.blt i S.x) (someL (sigL S.x lr lm N (N.kids.take 3) (exL S.x D R1 R2)))=true→ao.good (sigY S.x lr lm N D R1 R2)→
  KOk P (.at W (sigY S.x lr lm N D R1 R2)) (miniK S.pre S.pre S.x [S.cV,kidV S.x j] ao) g:=by
  intro g j ao ol hj hN hl hok hgood
  obtain⟨k,h1,h2⟩:=told_kid hf hj
  exact kid_entry (head:=[S.cV]) h2 (hw.kid (List.mem_of_getElem? h1)) (hN k h1) hl hrng hS.pl hS.pl hS.mini hS.chg hhead hok hgood
 have h7:=sig_7 (x:=S.x) (lr:=lr) (lm:=lm) (N:=N) (D:=D) (R1:=R1) (R2:=R2)
 have hprocF: ∀a,a<24→(procA S a).ok (fun i=>Nat.blt i S.x) (someL (sigL S.x lr lm N (N.kids.take 3) (exL S.x D R1 R2)))=true∧(procA S a).good (sigY S.x lr lm N D R1 R2)∧(procA S a).lit (sigY S.x lr lm N D R1 R2)=procA S a:=by
  intro a ha
  cases a with
  |zero=>exact⟨rfl,trivial,rfl⟩
  |succ p=>
   have:Nat.blt (S.proc p) S.x=true:=hS.proc p (by omega)
   exact⟨by simp only[procA,Ans.ok,okA,okC,ptrV,idsV];exact this,trivial,rfl⟩
 obtain⟨i,a⟩:=e
 obtain⟨hA,hok⟩:=ha _ he
 simp only at hA hok
 intro t ht
 unfold stE at ht
 simp only[]at ht
 split at ht
 ·
  cases hb:Nat.blt 0 (told c.kids)with
  |false=>rw[hb]at ht;simp at ht
  |true=>
   rw[hb]at ht;simp only[cond_true,List.mem_singleton]at ht;subst ht
   obtain⟨hlt,hp⟩:=hO.proc hok
   rw[←hA]at hlt hp
   obtain⟨f1,f2,f3⟩:=hprocF a hlt
   exact kidE (Nat.blt_eq.mp hb) hp f3 f1 f2
 ·cases hb:Nat.blt 0 (told c.kids)with
  |false=>rw[hb]at ht;simp at ht
  |true=>
   rw[hb]at ht;simp only[cond_true,List.mem_singleton]at ht;subst ht
   exact kidE (Nat.blt_eq.mp hb) (hO.modu hok) rfl rfl trivial
 ·simp only[List.mem_singleton]at ht;subst ht
  have hset:=hO.set hok
  rw[←hA]at hset
  have hv7:den 3 0 (locW R1)=some (u32 R1):=d_par hO.r1 (.inl rfl)
  have hl:(setA S a (opq (Nat.add S.x 7) 3 0)).lit (sigY S.x lr lm N D R1 R2)=setA S a (u32 R1):=by
   unfold setA
   split
   ·rfl
   ·exact outA_lit rfl rfl
   ·exact outA_lit (lit_opq (by omega) (by omega) rfl h7 hv7) rfl
  have hF:(setA S a (opq (Nat.add S.x 7) 3 0)).ok (fun i=>Nat.blt i S.x) (someL (sigL S.x lr lm N (N.kids.take 3) (exL S.x D R1 R2)))=true∧(setA S a (opq (Nat.add S.x 7) 3 0)).good (sigY S.x lr lm N D R1 R2):=by
   unfold setA
   split
   ·exact⟨rfl,trivial⟩
   ·exact fine_out hS (by omega) (fine_int _ _) (fine_str _)
   ·exact fine_out hS (by omega) (fine_opq (by omega) (by omega) rfl rfl h7 hv7) (fine_str _)
  refine miniK_ok (head:=[S.cV]) (q:=someL (sigL S.x lr lm N (N.kids.take 3) (exL S.x D R1 R2))) (qn:=fun _=>false) (v:=N.sl) ?_ (fun i hi=>someL_spec hi) (fun i hi=>by cases hi) hrng (fun i l hi=>by cases hi) hS.mini hS.chg hhead hF.1 hF.2
   (fun ι hp=>((absC_tells (x:=S.x) (kids:=N.kids.take 3) (ex:=exL S.x D R1 R2) hf hw hr hp).get (i:=4) rfl rfl).only)
  rw[mapL_plain hS.pl,hl]
  exact hset
 ·rename_i h3 h4 h5
  cases hb:Nat.blt i (told c.kids)with
  |false=>rw[hb]at ht;simp at ht
  |true=>
   rw[hb]at ht;simp only[cond_true,List.mem_singleton]at ht;subst ht
   have hij:i≤2:=by
    simp only[isSt,Nat.blt_eq]at hst
    have n3:i≠3:=h3
    have n4:i≠4:=h4
    have n5:i≠5:=h5
    omega
   have hp:=par_ok hO ha i
   obtain⟨k0,hk0,_⟩:=told_kid hf (Nat.blt_eq.mp hb)
   obtain⟨hg,_⟩:=hO.kid i k0 hij hok hk0
   rw[←hA]at hg
   have hv:=sig_v (x:=S.x) (lr:=lr) (lm:=lm) (N:=N) (D:=D) (R1:=R1) (R2:=R2) hij
   have htx:=sig_t (x:=S.x) (lr:=lr) (lm:=lm) (N:=N) (D:=D) (R1:=R1) (R2:=R2) hij
   have hF:=fine_out (L:=sigL S.x lr lm N (N.kids.take 3) (exL S.x D R1 R2)) hS hg.lt (v:=kidO S.x asg i a) (t:=textO (idT S.x i) a) (fine_val hg hv hp.1 hp.2) (fine_text hg htx)
   exact kidE (Nat.blt_eq.mp hb) (fun k hk=>(hO.kid i k hij hok hk).2) (by rw[←hA];exact outA_lit (valO_lit hg hv hp.1 hp.2) (textO_lit hg htx)) hF.1 hF.2
theorem lessE_ok (hO:Ora P W S N A D R1 R2 ok) (ha: ∀e∈asg,e.2=A e.1∧ok e.1=true) {e:Nat×Nat} (he:e∈asg): ∀t∈lessE S.x asg e,PureCall P (.at W (sigY S.x lr lm N D R1 R2)) t.1 t.2.1 t.2.2:=by
 have hp:=par_ok hO ha 1
 have hv:=sig_v (x:=S.x) (lr:=lr) (lm:=lm) (N:=N) (D:=D) (R1:=R1) (R2:=R2) (j:=1) (by omega)
 have hT: ∀ι:Inj,(∀i l,sigY S.x lr lm N D R1 R2 i=some l→ι i=some l)→Tells ι (kidO S.x asg 1 5) (u32 (D 1).1):=fun ι hp2=>
  valO_tells (o:=5) (t:=[]) ⟨by omega,hO.dat 1 (by omega),fun h=>(by cases h),fun h=>(by cases h)⟩ (hp2 _ _ hv) hp.1 hp.2
 obtain⟨i,a⟩:=e
 have hA:=(ha _ he).1
 simp only at hA
 intro t ht
 unfold lessE at ht
 simp only[]at ht
 split at ht
 ·simp only[List.mem_singleton]at ht;subst ht
  have h:=hO.below (ha _ he).2
  rw[←hA]at h
  exact h.call rfl fun ι hp=>(TellsL.cons (tells_int _ _) (.cons (hT ι hp) .nil)).only
 ·simp only[List.mem_singleton]at ht;subst ht
  have h:=hO.neg (ha _ he).2
  rw[←hA]at h
  exact h.call rfl fun ι hp=>(TellsL.cons (hT ι hp) (.cons (tells_int _ _) .nil)).only
 ·cases ht
theorem catE_mem {f:Nat×Nat→List (Nat×List Value×Ans)} {t:Nat×List Value×Ans} : ∀ {l:List (Nat×Nat)},t∈catE f l→ ∃e∈l,t∈f e
 |[],h=>by cases h
 |e::l,h=>by
  simp only[catE,List.mem_append]at h
  rcases h with h|h
  ·exact⟨e,List.mem_cons_self,h⟩
  ·obtain⟨e',h1,h2⟩:=catE_mem h;exact⟨e',List.mem_cons_of_mem _ h1,h2⟩
theorem withS_ok {K:Known} {w0:Start} {es:List (Nat×List Value×Ans)} (hK:KnownOk P K w0) (h: ∀e∈es,KOk P w0 (miniK S.pre S.pre S.x e.2.1 e.2.2) e.1):KnownOk P (withS S K es) w0:=by
 intro f F hF
 have hsel: ∀ {es:List (Nat×List Value×Ans)},(∀e∈es,KOk P w0 (miniK S.pre S.pre S.x e.2.1 e.2.2) e.1)→ ∀e∈sel f es,KOk P w0 (miniK S.pre S.pre S.x e.1 e.2) f:=by
  intro es
  induction es with
  |nil=>intro _ e he;simp[sel]at he
  |cons x es ih=>
   obtain⟨g,l,a⟩:=x
   intro hx e he
   simp only[sel]at he
   cases hg:Nat.beq g f with
   |true=>
    rw[hg]at he
    have:=Nat.eq_of_beq_eq_true hg;subst this
    rcases List.mem_cons.1 he with rfl|he
    ·exact hx _ List.mem_cons_self
    ·exact ih (fun e he=>hx e (List.mem_cons_of_mem _ he)) e he
   |false=>rw[hg]at he;exact ih (fun e he=>hx e (List.mem_cons_of_mem _ he)) e he
 simp only[withS]at hF
 split at hF
 ·exact hK f F hF
 ·simp only[Option.some.injEq]at hF;subst hF
  exact tblK_ok (hsel h)
theorem fit3 {x:Nat} {ex:List (Nat×Loc)} (hw:Wf W N) (hf:c.Fits N):cellsFit (sigL x lr lm N (N.kids.take 3) ex) (kidsC x (told c.kids)) N.kids (told c.kids):=by
 have hk:=hf.kids
 have hm:told c.kids≤N.kids.length∧told c.kids≤3:=by
  cases h:c.kids with
  |few n=>rw[h]at hk;simp only[KC.fits]at hk;simp only[told];omega
  |more=>rw[h]at hk;simp only[KC.fits]at hk;simp only[told];omega
  |z0=>simp only[told];omega
  |any=>simp only[told];omega
 refine⟨kidsC_len x _,hm.1,fun ι hp j k hj hkj i v hi hv=>?_⟩
 rw[kidsC_get x hj hi]at hv
 have hkk:(N.kids.take 3)[j]? =some k:=by rw[List.getElem?_take,if_pos (by omega)];exact hkj
 exact(t_cells (sig_kid hkk) (hw.kid (List.mem_of_getElem? hkj)) hp).get hv
theorem row_gen {f:FuncId} {ans:Ans} {r:Row} (hmix:P.follows .mixedOrders=true) (hS:TSok S) (hw:Wf W N) (hr:RowAt W N lr lm) (hf:r.c.Fits N) (hO:Ora P W S N A D R1 R2 ok) (ha: ∀e∈r.asg,e.2=A e.1∧ok e.1=true)
 (hreck: ∀t∈reck S.x r.c r.asg,PureCall P (.at W (sigY S.x lr lm N D R1 R2)) t.1 t.2.1 t.2.2) (hans:ans.ok (fun i=>Nat.blt i S.x) (someL (sigL S.x lr lm N (N.kids.take 3) (exL S.x D R1 R2)))=true)
 (hrun:tplRun P (knownY S r) 2000 f [S.cV,absV S.x r.c] (Nat.add S.x 60) (S.pre++extT S.x r.c) ans (S.pre++extT S.x r.c)=true):NodeY P W S f N.val (ans.lit (sigY S.x lr lm N D R1 R2)):=by
 have hK:KnownOk P (knownY S r) (.at W (sigY S.x lr lm N D R1 R2)):=by
  refine withS_ok (withE_ok noK_ok fun t ht=>?_) fun t ht=>?_
  ·simp only[pureEs,List.mem_append]at ht
   rcases ht with ht|ht
   ·obtain⟨e,h1,h2⟩:=catE_mem ht
    exact lessE_ok hO ha h1 t h2
   ·exact hreck t ht
  ·obtain⟨e,h1,h2⟩:=catE_mem ht
   cases hst:isSt e with
   |false=>rw[hst]at h2;cases h2
   |true=>rw[hst]at h2;exact stE_ok hS hw hr hf hO ha h1 hst t h2
 have hhead:[S.cV].all (idsV (fun i=>Nat.blt i S.x) 60)=true:=by
  have:idsV (fun i=>Nat.blt i S.x) 60 S.cV=true:=hS.c
  simp only[List.all_cons,List.all_nil,this,Bool.and_true]
 have:=node_ok (P:=P) (W:=W) (K:=knownY S r) (f:=f) (x:=S.x) (n:=2000) (lr:=lr) (lm:=lm) (N:=N) (kids:=N.kids.take 3) (ex:=exL S.x D R1 R2) (pre:=S.pre) (post:=S.pre) (head:=[S.cV]) (qn:=fun _=>false) (c:=r.c)
  (cs:=kidsC S.x (told r.c.kids)) (m:=told r.c.kids) (ans:=ans) hmix hw hr hf take3 ex_range hK
  (by rw[←ext_eq];exact hrun) (fun z hz=>fit3 hw hf) (fun i h=>by cases h) (fun i l h=>by cases h) hS.pl hS.pl hhead hans
 rw[mapL_plain hS.pl]at this
 exact this
theorem row_node {r:Row} (hmix:P.follows .mixedOrders=true) (hS:TSok S) (hw:Wf W N) (hr:RowAt W N lr lm) (hf:r.c.Fits N) (hO:Ora P W S N A D R1 R2 ok) (ha: ∀e∈r.asg,e.2=A e.1∧ok e.1=true)
 (hreck: ∀t∈reck S.x r.c r.asg,PureCall P (.at W (sigY S.x lr lm N D R1 R2)) t.1 t.2.1 t.2.2) (hans:(ansY S r).ok (fun i=>Nat.blt i S.x) (someL (sigL S.x lr lm N (N.kids.take 3) (exL S.x D R1 R2)))=true)
 (hrun:rowRunY P S r=true):NodeY P W S 16 N.val ((ansY S r).lit (sigY S.x lr lm N D R1 R2)):=
 row_gen hmix hS hw hr hf hO ha hreck hans hrun
end
end
end Go.AM
namespace Go.AM
noncomputable section
variable {P:Program} {W:World}
def natV (o v:Nat):Nat:=
 match o with
 |5=>v
 |8=>v
 |9=>v
 |11=>v
 |7=>1
 |_=>0
structure Fns where
 left:Nat→Nat→Nat
 right:Nat→Nat→Nat
 div:Nat→Nat→Nat
 md:Nat→Nat→Nat
 neg:Nat→Nat
 less:Nat→Nat→Bool
 sum:List UInt8→Nat→Nat→Nat
 reck:List UInt8→Nat→Nat→Nat
def builtsN:List (List Nat):=[[65,66,83],[79,68,68],[79,82,68],[67,72,82],[76,83,76],[65,83,82],[76,69,78],[73,78,67],[68,69,67],[78,69,87],[65,83,83,69,82,84],[72,65,76,84],
 [79,76,68],[70,82,69,83,72],[69,79,70],[76,69,78,71,84,72],[82,69,65,68],[87,82,73,84,69],[82,69,65,68,87],[87,82,73,84,69,87],[83,69,69,75],[82,69,71,73,83,84,69,82],[68,69,76,69,84,69]]
def ProcOf (k:Tr) (p:Nat):Prop:=p=0∨(k.kind=11∧ ∃w,builtsN[p - 1]? =some w∧k.name=bytesOf w∧p≠0)
def call1 (F:Fns) (p o v:Nat):Option (Nat×Nat):=
 match p,o with
 |1,5=>some (5,if F.less v 0=true then F.neg v else v)
 |2,5=>some (if v % 2=1 then(7,1)else(6,0))
 |3,5=>some (5,v)
 |3,6=>some (5,0)
 |3,7=>some (5,1)
 |3,8=>some (5,v)
 |3,9=>some (5,v)
 |3,11=>some (5,v)
 |4,5=>some (8,v % 256)
 |_,_=>none
inductive KT (F:Fns):Tr→Nat→Nat→List UInt8→Prop
 |num {N:Tr} :N.kind=25→KT F N 5 N.value []
 |chr {N:Tr} :N.kind=26→N.value<256→KT F N 8 N.value []
 |txt {N:Tr} {b:UInt8} :N.kind=27→N.name=[b]→KT F N 11 b.toNat [b]
 |nil {N:Tr} :N.kind=28→KT F N 10 0 []
 |tru {N:Tr} :N.kind=29→KT F N 7 1 []
 |fls {N:Tr} :N.kind=30→KT F N 6 0 []
 |set {N:Tr} {vs:List Nat} :N.kind=31→vs.length=N.kids.length→(∀(i:Nat) (k:Tr) (v:Nat),N.kids[i]? =some k→vs[i]? =some v→KT F k 5 v [])→KT F N 9 (vs.foldl (fun a v=>a|||F.left 1 v) 0) []
 |paren {N k:Tr} {o v:Nat} {t:List UInt8} :N.kind=32→N.kids=[k]→KT F k o v t→KT F N (if o=11 then 8 else o) (natV o v) []
 |not {N k:Tr} {o v:Nat} {t:List UInt8} :N.kind=33→N.kids=[k]→KT F k o v t→(o=6∨o=7)→KT F N (if o=6 then 7 else 6) (if o=6 then 1 else 0) []
 |sign {N k:Tr} {w:List Nat} {v:Nat} {t:List UInt8} :N.kind=34→N.kids=[k]→N.name=bytesOf w→w∈signs→KT F k 5 v t→KT F N 5 (if w=[45]then F.neg v else v) []
 |opB {N k l:Tr} {w:List Nat} {c a b v v':Nat} {t t':List UInt8} :N.kind=35→N.kids=[k,l]→N.name=bytesOf w→(w,c)∈opsAll→c<2→KT F k a v t→KT F l b v' t'→(a=6∨a=7)→(b=6∨b=7)→KT F N (opO c a b true % 16) (natV (opO c a b true % 16) 0) []
 |opI {N k l:Tr} {w:List Nat} {v v':Nat} {t t':List UInt8} :N.kind=35→N.kids=[k,l]→N.name=bytesOf w→(w,7)∈opsAll→KT F k 5 v t→KT F l 5 v' t'→KT F N 5 (F.reck N.name v v') []
 |opS {N k l:Tr} {w:List Nat} {c v v':Nat} {t t':List UInt8} :N.kind=35→N.kids=[k,l]→N.name=bytesOf w→(w,c)∈opsAll→7≤c→KT F k 9 v t→KT F l 9 v' t'→KT F N 9 (F.sum N.name v v') []
 |opD {N k l:Tr} {w:List Nat} {c v v':Nat} {t t':List UInt8} :N.kind=35→N.kids=[k,l]→N.name=bytesOf w→(w,c)∈opsAll→(c=5∨c=6)→KT F k 5 v t→KT F l 5 v' t'→F.less 0 v'=true→KT F N 5 (if c=5 then F.div v v' else F.md v v') []
 |one {N d k:Tr} {p o v o' v':Nat} {t:List UInt8} :N.kind=21→N.kids=[d,k]→ProcOf d p→KT F k o v t→call1 F p o v=some (o',v')→KT F N o' v' []
 |two {N d k l:Tr} {p v v':Nat} {t t':List UInt8} :N.kind=21→N.kids=[d,k,l]→ProcOf d p→(p=5∨p=6)→KT F k 5 v t→KT F l 5 v' t'→KT F N 5 (if p=5 then F.left v v' else F.right v v') []
def srcR (N:Tr) (D:Nat→Nat×List UInt8) (R1 R2:Nat):Nat→Nat
 |1=>N.value
 |2=>(D 0).1
 |3=>R1
 |4=>R2
 |5=>(D 1).1
 |6=>match N.name with|[b]=>b.toNat|_=>0
 |8=>(D 1).1 % 256
 |10=>1
 |_=>0
def srcTR (N:Tr):Nat→List UInt8
 |6=>N.name
 |7=>N.name
 |_=>[]
def srcOk (r:Row):Bool:=
 let o:=Nat.mod r.ans 16
 let src:=Nat.div r.ans 16
 Nat.blt o 13&&
 (match o with
 |5=>!(Nat.beq src 6)&&!(Nat.beq src 7)
 |8=>!(Nat.beq src 6)&&!(Nat.beq src 7)
 |9=>!(Nat.beq src 6)&&!(Nat.beq src 7)
 |11=>Nat.beq src 6&&(match r.c.name with| .lit [b]=>Nat.blt b 256|_=>false)
 |12=>Nat.beq src 7&&(match r.c.name with| .notOne=>true|_=>false)
 |7=>Nat.beq src 10
 |_=>Nat.beq src 0)
section
variable {S:TS} {N:Tr} {A:Nat→Nat} {D:Nat→Nat×List UInt8} {R1 R2:Nat} {ok:Nat→Bool} {lr lm:Loc}
theorem d_code6 {v:Nat} :den 6 0 (locW v)=some (u32 (v % 256)):=by simp only[den,locW];rfl
theorem lit_absValue {σ:Nat→Option Loc} {i:Nat} {c:VC} (hi:σ i=some (locW N.value)) (hf:c.fits N.value) (hv:N.value<4294967296):litV σ (absValue i c)=u32 N.value:=by
 cases c with
 |zero=>simp only[VC.fits]at hf;rw[hf];rfl
 |any=>exact lit_opq (by omega) (by omega) rfl hi (d_value hv)
 |nonzero=>
  refine lit_opq (by omega) (by omega) rfl hi ?_
  simp only[VC.fits]at hf
  simp only[den]
  split
  ·rfl
  ·rename_i h;exact absurd ⟨hv,fun x=>(by cases x),fun x=>(by cases x),fun _=>hf,fun x=>(by cases x),fun x=>(by cases x)⟩ h
 |small=>
  refine lit_opq (by omega) (by omega) rfl hi ?_
  simp only[VC.fits]at hf
  simp only[den]
  split
  ·rfl
  ·rename_i h;exact absurd ⟨hv,fun x=>(by cases x),fun x=>(by cases x),fun x=>(by cases x),fun _=>hf,fun x=>(by cases x)⟩ h
 |big=>
  refine lit_opq (by omega) (by omega) rfl hi ?_
  simp only[VC.fits]at hf
  simp only[den]
  split
  ·rfl
  ·rename_i h;exact absurd ⟨hv,fun x=>(by cases x),fun x=>(by cases x),fun x=>(by cases x),fun x=>(by cases x),fun _=>hf⟩ h
theorem fine_absValue {L:List (Nat×Loc)} {x i:Nat} {c:VC} (hi:look L i=some (locW N.value)) (hf:c.fits N.value) (hv:N.value<4294967296):Fine L x (absValue i c):=by
 cases c with
 |zero=>exact fine_int _ _
 |any=>exact fine_opq (by omega) (by omega) rfl rfl hi (d_value hv)
 |nonzero=>
  refine fine_opq (v:=u32 N.value) (by omega) (by omega) rfl rfl hi ?_
  simp only[VC.fits]at hf
  simp only[den]
  split
  ·rfl
  ·rename_i h;exact absurd ⟨hv,fun x=>(by cases x),fun x=>(by cases x),fun _=>hf,fun x=>(by cases x),fun x=>(by cases x)⟩ h
 |small=>
  refine fine_opq (v:=u32 N.value) (by omega) (by omega) rfl rfl hi ?_
  simp only[VC.fits]at hf
  simp only[den]
  split
  ·rfl
  ·rename_i h;exact absurd ⟨hv,fun x=>(by cases x),fun x=>(by cases x),fun x=>(by cases x),fun _=>hf,fun x=>(by cases x)⟩ h
 |big=>
  refine fine_opq (v:=u32 N.value) (by omega) (by omega) rfl rfl hi ?_
  simp only[VC.fits]at hf
  simp only[den]
  split
  ·rfl
  ·rename_i h;exact absurd ⟨hv,fun x=>(by cases x),fun x=>(by cases x),fun x=>(by cases x),fun x=>(by cases x),fun _=>hf⟩ h
theorem src_val {r:Row} {src:Nat} (hf:r.c.Fits N) (hw:Wf W N) (hD: ∀j,j≤2→(D j).1<4294967296) (h1:R1<4294967296) (h2:R2<4294967296) (h6:src=6→ ∃b,r.c.name= .lit [b]∧b<256):
 litV (sigY S.x lr lm N D R1 R2) (srcV S.x r.c src)=u32 (srcR N D R1 R2 src)∧Fine (sigL S.x lr lm N (N.kids.take 3) (exL S.x D R1 R2)) S.x (srcV S.x r.c src):=by
 have hown:sigY S.x lr lm N D R1 R2 (Nat.add S.x 3)=some (locW N.value):=(sig_own (x:=S.x) (lr:=lr) (lm:=lm) (N:=N) (kids:=N.kids.take 3) (ex:=exL S.x D R1 R2)).value
 have hv0:sigY S.x lr lm N D R1 R2 (Nat.add S.x 15)=some (locW (D 0).1):=sig_v (j:=0) (by omega)
 have hv1:sigY S.x lr lm N D R1 R2 (Nat.add S.x 25)=some (locW (D 1).1):=sig_v (j:=1) (by omega)
 have h7:sigY S.x lr lm N D R1 R2 (Nat.add S.x 7)=some (locW R1):=sig_7
 have h8:sigY S.x lr lm N D R1 R2 (Nat.add S.x 8)=some (locW R2):=sig_8
 by_cases e1:src=1
 ·subst e1;exact⟨lit_absValue hown hf.value hw.value,fine_absValue hown hf.value hw.value⟩
 by_cases e2:src=2
 ·subst e2;exact⟨lit_opq (by omega) (by omega) rfl hv0 (d_value (hD 0 (by omega))),fine_opq (by omega) (by omega) rfl rfl hv0 (d_value (hD 0 (by omega)))⟩
 by_cases e3:src=3
 ·subst e3;exact⟨lit_opq (by omega) (by omega) rfl h7 (d_value h1),fine_opq (by omega) (by omega) rfl rfl h7 (d_value h1)⟩
 by_cases e4:src=4
 ·subst e4;exact⟨lit_opq (by omega) (by omega) rfl h8 (d_value h2),fine_opq (by omega) (by omega) rfl rfl h8 (d_value h2)⟩
 by_cases e5:src=5
 ·subst e5;exact⟨lit_opq (by omega) (by omega) rfl hv1 (d_value (hD 1 (by omega))),fine_opq (by omega) (by omega) rfl rfl hv1 (d_value (hD 1 (by omega)))⟩
 by_cases e6:src=6
 ·obtain⟨b,hb,hlt⟩:=h6 e6
  subst e6
  have hn:=hf.name
  rw[hb]at hn;simp only[NC.fits,bytesOf,List.map_cons,List.map_nil]at hn
  have ev:srcV S.x r.c 6=u32 b:=by simp only[srcV,hb]
  have er:srcR N D R1 R2 6=b:=by simp only[srcR,hn];simp[Nat.mod_eq_of_lt hlt]
  rw[ev,er]
  exact⟨rfl,fine_int _ _⟩
 by_cases e8:src=8
 ·subst e8;exact⟨lit_opq (by omega) (by omega) rfl hv1 d_code6,fine_opq (by omega) (by omega) rfl rfl hv1 d_code6⟩
 by_cases e10:src=10
 ·subst e10;exact⟨rfl,fine_int _ _⟩
 ·have ev:srcV S.x r.c src=u32 0:=by unfold srcV;split<;>first|rfl|omega
  have er:srcR N D R1 R2 src=0:=by unfold srcR;split<;>first|rfl|omega
  rw[ev,er];exact⟨rfl,fine_int _ _⟩
theorem src_text {r:Row} {o src:Nat} (hf:r.c.Fits N) (h6:o=11→src=6∧ ∃b,r.c.name= .lit [b]) (h7:o=12→src=7∧r.c.name= .notOne) (hn:o≠11→o≠12→src≠6∧src≠7):
 litV (sigY S.x lr lm N D R1 R2) (srcT S.x r.c src)=realT o (srcTR N src)∧Fine (sigL S.x lr lm N (N.kids.take 3) (exL S.x D R1 R2)) S.x (srcT S.x r.c src):=by
 have hown:sigY S.x lr lm N D R1 R2 (Nat.add S.x 2)=some (locS N.name):=(sig_own (x:=S.x) (lr:=lr) (lm:=lm) (N:=N) (kids:=N.kids.take 3) (ex:=exL S.x D R1 R2)).name
 have hnm:=hf.name
 by_cases e1:o=11
 ·obtain⟨e2,b,hb⟩:=h6 e1
  subst e1;subst e2
  rw[hb]at hnm;simp only[NC.fits]at hnm
  have ev:srcT S.x r.c 6= .string ⟨(bytesOf [b]).toArray⟩:=by simp only[srcT,hb,absName]
  rw[ev]
  refine⟨?_,fine_str _⟩
  show Value.string _= .string ⟨N.name.toArray⟩
  rw[hnm]
 by_cases e2:o=12
 ·obtain⟨e3,hb⟩:=h7 e2
  subst e2;subst e3
  rw[hb]at hnm;simp only[NC.fits]at hnm
  have ev:srcT S.x r.c 7=opq (Nat.add S.x 2) 9 1:=by simp only[srcT,hb,absName]
  rw[ev]
  exact⟨lit_opq (by omega) (by omega) rfl hown (d_not1 hnm),fine_opq (by omega) (by omega) rfl rfl hown (d_not1 hnm)⟩
 ·obtain⟨n6,n7⟩:=hn e1 e2
  have ev:srcT S.x r.c src=emptyS:=by unfold srcT;split<;>first|rfl|omega
  have er:realT o (srcTR N src)=emptyS:=by unfold realT;split<;>first|rfl|omega
  rw[ev,er];exact⟨rfl,fine_str _⟩
theorem realV_src {o v:Nat} (h:o=5∨o=8∨o=9∨o=11∨(o=7∧v=1)∨(v=0∧o≠7)):realV o v=u32 v:=by
 rcases h with rfl|rfl|rfl|rfl|⟨rfl,rfl⟩|⟨rfl,h⟩
 ·rfl
 ·rfl
 ·rfl
 ·rfl
 ·rfl
 ·unfold realV;split<;>first|rfl|omega
theorem ansY_lit {r:Row} (hS:TSok S) (hs:srcOk r=true) (hf:r.c.Fits N) (hw:Wf W N) (hD: ∀j,j≤2→(D j).1<4294967296) (h1:R1<4294967296) (h2:R2<4294967296):
 (ansY S r).lit (sigY S.x lr lm N D R1 R2)=outR S (r.ans % 16) (srcR N D R1 R2 (r.ans / 16)) (srcTR N (r.ans / 16))∧(ansY S r).ok (fun i=>Nat.blt i S.x) (someL (sigL S.x lr lm N (N.kids.take 3) (exL S.x D R1 R2)))=true:=by
 have eo:Nat.mod r.ans 16=r.ans % 16:=rfl
 have es:Nat.div r.ans 16=r.ans / 16:=rfl
 simp only[srcOk,eo,es,Bool.and_eq_true,Nat.blt_eq]at hs
 obtain⟨hlt,hs⟩:=hs
 simp only[ansY,eo,es]
 generalize r.ans % 16=o at hlt hs⊢
 generalize r.ans / 16=src at hs⊢
 have key:(src=6→ ∃b,r.c.name= .lit [b]∧b<256)∧(o=11→src=6∧ ∃b,r.c.name= .lit [b])∧(o=12→src=7∧r.c.name= .notOne)∧(o≠11→o≠12→src≠6∧src≠7)∧
  (o=5∨o=8∨o=9∨o=11∨(o=7∧srcR N D R1 R2 src=1)∨(srcR N D R1 R2 src=0∧o≠7)):=by
  split at hs
  ·simp only[Bool.and_eq_true,Bool.not_eq_true',←Bool.not_eq_true,Nat.beq_eq]at hs
   exact⟨fun h=>absurd h hs.1,fun h=>by omega,fun h=>by omega,fun _ _=>hs,.inl rfl⟩
  ·simp only[Bool.and_eq_true,Bool.not_eq_true',←Bool.not_eq_true,Nat.beq_eq]at hs
   exact⟨fun h=>absurd h hs.1,fun h=>by omega,fun h=>by omega,fun _ _=>hs,.inr (.inl rfl)⟩
  ·simp only[Bool.and_eq_true,Bool.not_eq_true',←Bool.not_eq_true,Nat.beq_eq]at hs
   exact⟨fun h=>absurd h hs.1,fun h=>by omega,fun h=>by omega,fun _ _=>hs,.inr (.inr (.inl rfl))⟩
  ·simp only[Bool.and_eq_true,Nat.beq_eq]at hs
   obtain⟨h6,hb⟩:=hs
   split at hb
   ·rename_i b hn
    exact⟨fun _=>⟨b,hn,Nat.blt_eq.mp hb⟩,fun _=>⟨h6,b,hn⟩,fun h=>by omega,fun h _=>absurd rfl h,.inr (.inr (.inr (.inl rfl)))⟩
   ·cases hb
  ·simp only[Bool.and_eq_true,Nat.beq_eq]at hs
   obtain⟨h6,hb⟩:=hs
   split at hb
   ·rename_i hn
    subst h6
    exact⟨fun h=>by omega,fun h=>by omega,fun _=>⟨rfl,hn⟩,fun _ h=>absurd rfl h,.inr (.inr (.inr (.inr (.inr ⟨rfl,by omega⟩))))⟩
   ·cases hb
  ·simp only[Nat.beq_eq]at hs
   subst hs
   exact⟨fun h=>by omega,fun h=>by omega,fun h=>by omega,fun _ _=>⟨by omega,by omega⟩,.inr (.inr (.inr (.inr (.inl ⟨rfl,rfl⟩))))⟩
  ·simp only[Nat.beq_eq]at hs
   subst hs
   rename_i n1 n2 n3 n4 n5 n6
   exact⟨fun h=>by omega,fun h=>absurd h n4,fun h=>absurd h n5,fun _ _=>⟨by omega,by omega⟩,.inr (.inr (.inr (.inr (.inr ⟨rfl,n6⟩))))⟩
 obtain⟨k1,k2,k3,k4,k5⟩:=key
 obtain⟨v1,v2⟩:=src_val (S:=S) (lr:=lr) (lm:=lm) hf hw hD h1 h2 k1
 obtain⟨t1,t2⟩:=src_text (S:=S) (lr:=lr) (lm:=lm) (D:=D) (R1:=R1) (R2:=R2) hf k2 k3 k4
 have e:=realV_src k5
 refine⟨?_,(fine_out hS hlt v2 t2).1⟩
 rw[outR,e]
 exact outA_lit v1 t1
end
end
end Go.AM
namespace Go.AM
noncomputable section
variable {P:Program} {W:World}
theorem realV_nat (o v:Nat):realV o v=u32 (natV o v):=by
 by_cases h:o=5∨o=8∨o=9∨o=11∨o=7
 ·rcases h with rfl|rfl|rfl|rfl|rfl<;>rfl
 ·have e1:realV o v=u32 0:=by unfold realV;split<;>first|rfl|omega
  have e2:natV o v=0:=by unfold natV;split<;>first|rfl|omega
  rw[e1,e2]
theorem natV_lt {o v:Nat} (h:v<4294967296):natV o v<4294967296:=by
 unfold natV
 split<;>omega
def strV (l:List UInt8):Value:= .string ⟨l.toArray⟩
structure ArithOk (P:Program) (W:World) (F:Fns):Prop where
 lt: ∀a b,a<4294967296→b<4294967296→F.left a b<4294967296∧F.right a b<4294967296∧F.div a b<4294967296∧F.md a b<4294967296∧F.neg a<4294967296∧(∀w,F.sum w a b<4294967296)∧ ∀w,F.reck w a b<4294967296
 less: ∀a b,a<4294967296→b<4294967296→RealPure P W 85 [u32 a,u32 b] (.bool (F.less a b))
 left: ∀a b,a<4294967296→b<4294967296→RealPure P W 79 [u32 a,u32 b] (u32 (F.left a b))
 right: ∀a b,a<4294967296→b<4294967296→RealPure P W 167 [u32 a,u32 b] (u32 (F.right a b))
 neg: ∀a,a<4294967296→ ∃y z,RealPure P W 30 [u32 0,u32 a,.bool false] (.tuple #[u32 (F.neg a),y,z])
 div: ∀a b,a<4294967296→b<4294967296→ ∃e,RealPure P W 86 [u32 a,u32 b] (.tuple #[u32 (F.div a b),u32 (F.md a b),e])
 sum: ∀w a b,a<4294967296→b<4294967296→RealPure P W 87 [strV w,u32 a,u32 b] (u32 (F.sum w a b))
 reck: ∀w a b,a<4294967296→b<4294967296→RealPure P W 88 [strV w,u32 a,u32 b] (u32 (F.reck w a b))
section
variable {S:TS} {N:Tr} {A:Nat→Nat} {D:Nat→Nat×List UInt8} {R1 R2:Nat} {ok:Nat→Bool} {lr lm:Loc} {F:Fns}
def res1 (F:Fns) (N:Tr) (A:Nat→Nat) (D:Nat→Nat×List UInt8):Nat:=
 let n:=fun j=>natV (A j) (D j).1
 if N.kind=35 then(if formO (A 0)=5 then F.sum N.name (n 0) (n 1)else if N.name.length=3 then F.div (n 0) (n 1)else F.reck N.name (n 0) (n 1))
 else if N.kind=34 then F.neg (n 0)
 else if A 3=5 then F.left (n 1) (n 2)else if A 3=6 then F.right (n 1) (n 2)else F.neg (n 1)
def res2 (F:Fns) (A:Nat→Nat) (D:Nat→Nat×List UInt8):Nat:=F.md (natV (A 0) (D 0).1) (natV (A 1) (D 1).1)
theorem res_lt (hF:ArithOk P W F) (hD: ∀j,j≤2→(D j).1<4294967296):res1 F N A D<4294967296∧res2 F A D<4294967296:=by
 have h: ∀j,j≤2→natV (A j) (D j).1<4294967296:=fun j hj=>natV_lt (hD j hj)
 have a:=hF.lt _ _ (h 0 (by omega)) (h 1 (by omega))
 have b:=hF.lt _ _ (h 1 (by omega)) (h 2 (by omega))
 refine⟨?_,a.2.2.2.1⟩
 unfold res1
 simp only[]
 split
 ·split
  ·exact a.2.2.2.2.2.1 _
  ·split
   ·exact a.2.2.1
   ·exact a.2.2.2.2.2.2 _
 ·split
  ·exact a.2.2.2.2.1
  ·split
   ·exact b.1
   ·split
    ·exact b.2.1
    ·exact b.2.2.2.2.1
theorem reck_ok {r:Row} (hF:ArithOk P W F) (hw:Wf W N) (hr:RowAt W N lr lm) (hf:r.c.Fits N) (hO:Ora P W S N A D R1 R2 ok) (ha: ∀e∈r.asg,e.2=A e.1∧ok e.1=true) (e1:R1=res1 F N A D) (e2:R2=res2 F A D)
 (hl:r.c.kind=some 35→ ∃w,r.c.name= .lit w):
 ∀t∈reck S.x r.c r.asg,PureCall P (.at W (sigY S.x lr lm N D R1 R2)) t.1 t.2.1 t.2.2:=by
 have hn: ∀j,j≤2→natV (A j) (D j).1<4294967296:=fun j hj=>natV_lt (hO.dat j hj)
 have hT: ∀j,j≤2→ ∀a,a=A j→ ∀ι:Inj,(∀i l,sigY S.x lr lm N D R1 R2 i=some l→ι i=some l)→Tells ι (kidO S.x r.asg j a) (u32 (natV (A j) (D j).1)):=by
  intro j hj a haj ι hp
  have hp2:=par_ok hO ha j
  have hv:=sig_v (x:=S.x) (lr:=lr) (lm:=lm) (N:=N) (D:=D) (R1:=R1) (R2:=R2) hj
  rw[haj,←realV_nat]
  exact valO_tells (hO.good j hj) (hp _ _ hv) hp2.1 hp2.2
 have h7: ∀ι:Inj,(∀i l,sigY S.x lr lm N D R1 R2 i=some l→ι i=some l)→Tells ι (r7 S.x) (u32 R1):=fun ι hp=>tells_opq (by omega) (by omega) rfl (by omega) (hp _ _ sig_7) (d_value hO.r1)
 have h8: ∀ι:Inj,(∀i l,sigY S.x lr lm N D R1 R2 i=some l→ι i=some l)→Tells ι (r8 S.x) (u32 R2):=fun ι hp=>tells_opq (by omega) (by omega) rfl (by omega) (hp _ _ sig_8) (d_value hO.r2)
 have hNm: ∀ι:Inj,(∀i l,sigY S.x lr lm N D R1 R2 i=some l→ι i=some l)→Tells ι (absName (Nat.add S.x 2) r.c.name) (strV N.name):=fun ι hp=>(absC_tells (x:=S.x) (kids:=N.kids.take 3) (ex:=exL S.x D R1 R2) hf hw hr hp).get (i:=1) rfl rfl
 have hA: ∀ {i a:Nat},asgOf r.asg i=some a→a=A i:=fun h=>(ha _ (asgOf_mem h)).1
 have hk:=hf.kind
 have neg: ∀j,j≤2→ ∀a,a=A j→R1=F.neg (natV (A j) (D j).1)→PureCall P (.at W (sigY S.x lr lm N D R1 R2)) 30 [u32 0,kidO S.x r.asg j a,.bool false] (.ret (.tuple #[r7 S.x,poi,poi])):=by
  intro j hj a haj he
  obtain⟨y,z,h⟩:=hF.neg _ (hn j hj)
  rw[←he]at h
  exact h.call' (fun ι hp=> .tuple (.cons (h7 ι hp).rel (.cons (.poi _) (.cons (.poi _) .nil)))) fun ι hp=>(TellsL.cons (tells_int _ _) (.cons (hT j hj a haj ι hp) (.cons (tells_bool _) .nil))).only
 intro t ht
 unfold reck at ht
 split at ht
 ·
  rename_i hk35
  rw[hk35]at hk
  have hk':N.kind=35:=hk
  split at ht
  ·rename_i a b ha0 hb0
   have ea:=hA ha0
   have eb:=hA hb0
   simp only[]at ht
   cases c1:Nat.beq (formO a) 5&&Nat.beq (formO b) 5 with
   |true=>
    rw[c1]at ht;simp only[cond_true,List.mem_singleton]at ht;subst ht
    simp only[Bool.and_eq_true,Nat.beq_eq]at c1
    have he:R1=F.sum N.name (natV (A 0) (D 0).1) (natV (A 1) (D 1).1):=by
     rw[e1];unfold res1;simp only[];rw[if_pos hk',if_pos (by rw[←ea];exact c1.1)]
    have h:=hF.sum N.name _ _ (hn 0 (by omega)) (hn 1 (by omega))
    rw[←he]at h
    exact h.call' (fun ι hp=>(h7 ι hp).rel) fun ι hp=>(TellsL.cons (hNm ι hp) (.cons (hT 0 (by omega) a ea ι hp) (.cons (hT 1 (by omega) b eb ι hp) .nil))).only
   |false=>
    rw[c1]at ht;simp only[cond_false]at ht
    cases c2:Nat.beq (formO a) 1&&Nat.beq (formO b) 1 with
    |false=>rw[c2]at ht;cases ht
    |true=>
     rw[c2]at ht;simp only[cond_true]at ht
     simp only[Bool.and_eq_true,Nat.beq_eq]at c2
     obtain⟨w,hwn⟩:=hl hk35
     have hnm:=hf.name
     rw[hwn]at hnm;simp only[NC.fits]at hnm
     have hlen:N.name.length=w.length:=by rw[hnm];simp[bytesOf]
     have hf5: ¬formO (A 0)=5:=by rw[←ea,c2.1];omega
     cases c3:Nat.beq (List.length (litN r.c.name)) 3 with
     |true=>
      rw[c3]at ht;simp only[cond_true,List.mem_singleton]at ht;subst ht
      have hl3:N.name.length=3:=by rw[hlen];rw[hwn]at c3;exact Nat.eq_of_beq_eq_true c3
      have he:R1=F.div (natV (A 0) (D 0).1) (natV (A 1) (D 1).1):=by
       rw[e1];unfold res1;simp only[];rw[if_pos hk',if_neg hf5,if_pos hl3]
      obtain⟨e,h⟩:=hF.div _ _ (hn 0 (by omega)) (hn 1 (by omega))
      have he2:R2=F.md (natV (A 0) (D 0).1) (natV (A 1) (D 1).1):=e2
      rw[←he,←he2]at h
      exact h.call' (fun ι hp=> .tuple (.cons (h7 ι hp).rel (.cons (h8 ι hp).rel (.cons (.poi _) .nil)))) fun ι hp=>(TellsL.cons (hT 0 (by omega) a ea ι hp) (.cons (hT 1 (by omega) b eb ι hp) .nil)).only
     |false=>
      rw[c3]at ht;simp only[cond_false,List.mem_singleton]at ht;subst ht
      have hl3: ¬N.name.length=3:=by
       rw[hlen];intro h
       rw[hwn]at c3
       have:Nat.beq (List.length (litN (.lit w))) 3=true:=by simp only[litN,h];rfl
       rw[this]at c3;cases c3
      have he:R1=F.reck N.name (natV (A 0) (D 0).1) (natV (A 1) (D 1).1):=by
       rw[e1];unfold res1;simp only[];rw[if_pos hk',if_neg hf5,if_neg hl3]
      have h:=hF.reck N.name _ _ (hn 0 (by omega)) (hn 1 (by omega))
      rw[←he]at h
      exact h.call' (fun ι hp=>(h7 ι hp).rel) fun ι hp=>(TellsL.cons (hNm ι hp) (.cons (hT 0 (by omega) a ea ι hp) (.cons (hT 1 (by omega) b eb ι hp) .nil))).only
  ·cases ht
 ·
  rename_i hk34
  rw[hk34]at hk
  have hk':N.kind=34:=hk
  split at ht
  ·rename_i a ha0
   simp only[List.mem_singleton]at ht;subst ht
   exact neg 0 (by omega) a (hA ha0) (by rw[e1];unfold res1;simp only[];rw[if_neg (by omega),if_pos hk'])
  ·cases ht
 ·
  rename_i hk21
  rw[hk21]at hk
  have hk':N.kind=21:=hk
  split at ht
  ·rename_i p a hp0 ha0
   have ep:=hA hp0
   have ea:=hA ha0
   split at ht
   ·rename_i b hb0
    have eb:=hA hb0
    cases c1:Nat.beq p 5 with
    |true=>
     rw[c1]at ht;simp only[cond_true,List.mem_singleton]at ht;subst ht
     have hp5:A 3=5:=by rw[←ep];exact Nat.eq_of_beq_eq_true c1
     have he:R1=F.left (natV (A 1) (D 1).1) (natV (A 2) (D 2).1):=by
      rw[e1];unfold res1;simp only[];rw[if_neg (by omega),if_neg (by omega),if_pos hp5]
     have h:=hF.left _ _ (hn 1 (by omega)) (hn 2 (by omega))
     rw[←he]at h
     exact h.call' (fun ι hp=>(h7 ι hp).rel) fun ι hp=>(TellsL.cons (hT 1 (by omega) a ea ι hp) (.cons (hT 2 (by omega) b eb ι hp) .nil)).only
    |false=>
     rw[c1]at ht;simp only[cond_false]at ht
     cases c2:Nat.beq p 6 with
     |false=>rw[c2]at ht;cases ht
     |true=>
      rw[c2]at ht;simp only[cond_true,List.mem_singleton]at ht;subst ht
      have hp6:A 3=6:=by rw[←ep];exact Nat.eq_of_beq_eq_true c2
      have he:R1=F.right (natV (A 1) (D 1).1) (natV (A 2) (D 2).1):=by
       rw[e1];unfold res1;simp only[];rw[if_neg (by omega),if_neg (by omega),if_neg (by omega),if_pos hp6]
      have h:=hF.right _ _ (hn 1 (by omega)) (hn 2 (by omega))
      rw[←he]at h
      exact h.call' (fun ι hp=>(h7 ι hp).rel) fun ι hp=>(TellsL.cons (hT 1 (by omega) a ea ι hp) (.cons (hT 2 (by omega) b eb ι hp) .nil)).only
   ·cases c1:Nat.beq p 1 with
    |false=>rw[c1]at ht;cases ht
    |true=>
     rw[c1]at ht;simp only[cond_true,List.mem_singleton]at ht;subst ht
     have hp1:A 3=1:=by rw[←ep];exact Nat.eq_of_beq_eq_true c1
     exact neg 1 (by omega) a ea (by rw[e1];unfold res1;simp only[];rw[if_neg (by omega),if_neg (by omega),if_neg (by omega),if_neg (by omega)])
  ·cases ht
 ·cases ht
end
end
end Go.AM
namespace Go.AM
noncomputable section
variable {P:Program} {W:World}
def codeOf (w:List Nat):List (List Nat×Nat)→Option Nat
 |[]=>none
 |(v,c)::l=>bif named.sameNats v w then some c else codeOf w l
theorem codeOf_mem {w:List Nat} {c:Nat} : ∀ {l:List (List Nat×Nat)},codeOf w l=some c→(w,c)∈l
 |[],h=>by cases h
 |(v,d)::l,h=>by
  simp only[codeOf]at h
  cases hs:named.sameNats v w with
  |true=>rw[hs]at h;simp only[cond_true,Option.some.injEq]at h;rw[←h,sameNats_eq hs];exact List.mem_cons_self
  |false=>rw[hs]at h;exact List.mem_cons_of_mem _ (codeOf_mem h)
def is67 (a:Nat):Bool:=Nat.beq a 6||Nat.beq a 7
def nameL:NC→Option (List Nat)
 | .lit l=>some l
 |_=>none
def fewN:KC→Nat
 | .few n=>n
 |_=>0
def fact35 (w:List Nat) (a b:Nat) (pos:Option Nat) (ans:Nat):Bool:=
 match codeOf w opsAll with
 |none=>false
 |some c=>
  (Nat.blt c 2&&is67 a&&is67 b&&Nat.beq ans (opO c a b true))||(Nat.beq c 7&&Nat.beq a 5&&Nat.beq b 5&&Nat.beq ans (mkO 5 3)&&!(Nat.beq w.length 3))||(Nat.ble 7 c&&Nat.beq a 9&&Nat.beq b 9&&Nat.beq ans (mkO 9 3))||
  (Nat.beq w.length 3&&Nat.beq a 5&&Nat.beq b 5&&(match pos with|some p=>Nat.beq p 1|none=>false)&&((Nat.beq c 5&&Nat.beq ans (mkO 5 3))||(Nat.beq c 6&&Nat.beq ans (mkO 5 4))))
def fact21 (p o:Nat) (n7 n8:Option Nat) (ans:Nat):Bool:=
 (Nat.beq p 1&&Nat.beq o 5&&(match n7 with|some n=>Nat.beq ans (bif Nat.beq n 1 then mkO 5 3 else mkO 5 5)|none=>false))||
 (Nat.beq p 2&&Nat.beq o 5&&(match n8 with|some n=>Nat.beq ans (bif Nat.beq n 1 then mkO 7 10 else 6)|none=>false))||
 (Nat.beq p 3&&(Nat.beq o 5||Nat.beq o 8||Nat.beq o 9||Nat.beq o 11)&&Nat.beq ans (mkO 5 5))||(Nat.beq p 3&&Nat.beq o 6&&Nat.beq ans 5)||(Nat.beq p 3&&Nat.beq o 7&&Nat.beq ans (mkO 5 10))||
 (Nat.beq p 4&&Nat.beq o 5&&Nat.beq ans (mkO 8 8))
def factY (r:Row):Bool:=!(knownO (Nat.mod r.ans 16))||
 match r.c.kind with
 |some 25=>Nat.beq r.ans (mkO 5 1)
 |some 26=>Nat.beq r.ans (mkO 8 1)
 |some 27=>Nat.beq r.ans (mkO 11 6)&&(match r.c.name with| .lit [b]=>Nat.blt b 256|_=>false)
 |some 28=>Nat.beq r.ans 10
 |some 29=>Nat.beq r.ans (mkO 7 10)
 |some 30=>Nat.beq r.ans 6
 |some 31=>Nat.beq r.ans (mkO 9 3)&&(match asgOf r.asg 5 with|some a=>Nat.ble 2 a|none=>false)
 |some 32=>Nat.beq (fewN r.c.kids) 1&&(match asgOf r.asg 0 with|some a=>Nat.beq r.ans (parenO a)&&knownO a|none=>false)
 |some 33=>Nat.beq (fewN r.c.kids) 1&&(match asgOf r.asg 0 with|some a=>Nat.beq r.ans (notO a)&&is67 a|none=>false)
 |some 34=>Nat.beq (fewN r.c.kids) 1&&(match asgOf r.asg 0,r.c.name with|some a,.lit [w]=>Nat.beq a 5&&((Nat.beq w 45&&Nat.beq r.ans (mkO 5 3))||(Nat.beq w 43&&Nat.beq r.ans (mkO 5 2)))|_,_=>false)
 |some 35=>Nat.beq (fewN r.c.kids) 2&&(match asgOf r.asg 0,asgOf r.asg 1,nameL r.c.name with|some a,some b,some w=>fact35 w a b (asgOf r.asg 6) r.ans|_,_,_=>false)
 |some 21=>(match asgOf r.asg 3,asgOf r.asg 1 with
  |some p,some o=>(Nat.beq (fewN r.c.kids) 2&&fact21 p o (asgOf r.asg 7) (asgOf r.asg 8) r.ans)||
   (Nat.beq (fewN r.c.kids) 3&&(Nat.beq p 5||Nat.beq p 6)&&Nat.beq o 5&&(match asgOf r.asg 2 with|some b=>Nat.beq b 5|none=>false)&&Nat.beq r.ans (mkO 5 3))
  |_,_=>false)
 |_=>false
def sgC (c:NC):Option (Bool×Bool):=match c with
 | .lit l=>bif l.all (fun b=>Nat.blt b 256)then some (nameIn signs (.lit l),nameIn opNames (.lit l))else none
 | .foreign=>some (false,false)
 |_=>none
def badC (c:Cls):Bool:=match c.kind,nRep c.kids with
 |none,_=>true
 |some k,some n=>(match sgC c.name with|some (a,b)=>!(shapeN k a b true n)|none=>!(shapeN k true true true n))
 |some k,none=>!(shapeN k true true true 0||shapeN k true true true 1||shapeN k true true true 2||shapeN k true true true 3||shapeN k true true true 4)
section
variable {N:Tr} {c:Cls}
theorem nameIn_eq {L:List (List Nat)} (hL:L.all (fun m=>sameBytes (bytesOf m) m)=true) {l:List Nat} (hl:inL L (bytesOf l)=true) (hb:l.all (fun b=>Nat.blt b 256)=true):L.any (named.sameNats l)=true:=by
 simp only[inL,List.any_eq_true]at hl⊢
 obtain⟨m,h1,h2⟩:=hl
 refine⟨m,h1,?_⟩
 have: ∀ {l m:List Nat},l.all (fun b=>Nat.blt b 256)=true→sameBytes (bytesOf l) m=true→named.sameNats l m=true:=by
  intro l
  induction l with
  |nil=>intro m _ h;cases m with|nil=>rfl|cons _ _=>cases h
  |cons a l ih=>
   intro m hb h
   cases m with
   |nil=>cases h
   |cons b m=>
    simp only[List.all_cons,Bool.and_eq_true,Nat.blt_eq]at hb
    simp only[bytesOf,List.map_cons,sameBytes,Bool.and_eq_true]at h
    simp only[named.sameNats,Bool.and_eq_true]
    refine⟨?_,ih hb.2 h.2⟩
    have:=h.1
    rw[UInt8.toNat_ofNat',Nat.mod_eq_of_lt (by omega)]at this
    exact this
 exact this hb h2
theorem notWord {L:List (List Nat)} (hL: ∀m∈L,m∈words) {nm:List UInt8} (h:isWord nm=false):inL L nm=false:=by
 cases hi:inL L nm with
 |false=>rfl
 |true=>
  simp only[inL,List.any_eq_true]at hi
  obtain⟨m,h1,h2⟩:=hi
  have:isWord nm=true:=by simp only[isWord,List.any_eq_true];exact⟨m,hL m h1,h2⟩
  rw[this]at h;cases h
theorem shape_le {k n:Nat} {a b d:Bool} (h:shapeN k a b d n=true):k≤63:=by
 unfold shapeN at h
 split at h<;>first|omega|cases h
theorem min_cases (n:Nat):Nat.min n 4=0∨Nat.min n 4=1∨Nat.min n 4=2∨Nat.min n 4=3∨Nat.min n 4=4:=by
 have e:Nat.min n 4=min n 4:=rfl
 rw[e];omega
theorem badC_ok (hf:c.Fits N) (h:badC c=true): ¬Shape N:=by
 rintro⟨k,hk,hs⟩
 have hkd:=hf.kind
 unfold badC at h
 split at h
 ·rename_i hc
  rw[hc]at hkd
  have:=shape_le hs
  exact hkd ⟨by rw[hk];omega,by rw[hk];omega⟩
 ·rename_i k' n hc hn
  rw[hc]at hkd
  have e:k=k':=by have:(k:Int)=(k':Int):=hk.symm.trans hkd;omega
  subst e
  rw[nRep_ok hf.kids hn]at hs
  split at h
  ·rename_i a b hsg
   have hab:(inL signs N.name=true→a=true)∧(inL opNames N.name=true→b=true):=by
    have hnm:=hf.name
    unfold sgC at hsg
    split at hsg
    ·rename_i l hl
     rw[hl]at hnm;simp only[NC.fits]at hnm
     cases hb:l.all (fun b=>Nat.blt b 256)with
     |false=>rw[hb]at hsg;cases hsg
     |true=>
      rw[hb]at hsg;simp only[cond_true,Option.some.injEq,Prod.mk.injEq]at hsg
      rw[←hsg.1,←hsg.2,hnm]
      exact⟨fun h=>nameIn_eq (by decide) h hb,fun h=>nameIn_eq (by decide) h hb⟩
    ·rename_i hl
     rw[hl]at hnm;simp only[NC.fits]at hnm
     simp only[Option.some.injEq,Prod.mk.injEq]at hsg
     rw[←hsg.1,←hsg.2,notWord (by decide) hnm,notWord (by decide) hnm]
     exact⟨id,id⟩
    ·cases hsg
   have:=shapeN_mono hs hab.1 hab.2 (fun _=>(rfl:true=true))
   rw[this]at h;cases h
  ·have:=shapeN_mono (a':=true) (b':=true) (c':=true) hs (fun _=>rfl) (fun _=>rfl) (fun _=>rfl)
   rw[this]at h;cases h
 ·rename_i k' hc hn
  rw[hc]at hkd
  have e:k=k':=by have:(k:Int)=(k':Int):=hk.symm.trans hkd;omega
  subst e
  have:=shapeN_mono (a':=true) (b':=true) (c':=true) hs (fun _=>rfl) (fun _=>rfl) (fun _=>rfl)
  rcases min_cases N.kids.length with e|e|e|e|e<;>rw[e]at this<;>simp[this]at h
section
variable {r:Row} {A:Nat→Nat} {D:Nat→Nat×List UInt8} {R1 R2:Nat} {F:Fns}
theorem few_list {n:Nat} (hf:c.Fits N) (h:fewN c.kids=n) (hn:n≠0):N.kids.length=n:=by
 have hk:=hf.kids
 cases hc:c.kids with
 |few m=>rw[hc]at h hk;simp only[fewN]at h;simp only[KC.fits]at hk;omega
 |z0=>rw[hc]at h;simp only[fewN]at h;omega
 |more=>rw[hc]at h;simp only[fewN]at h;omega
 |any=>rw[hc]at h;simp only[fewN]at h;omega
theorem list1 {l:List Tr} (h:l.length=1): ∃k,l=[k]:=List.length_eq_one_iff.1 h
theorem list2 {l:List Tr} (h:l.length=2): ∃k m,l=[k,m]:=by
 cases l with
 |nil=>simp at h
 |cons k l=>obtain⟨m,rfl⟩:=list1 (l:=l) (by simpa using h);exact⟨k,m,rfl⟩
theorem list3 {l:List Tr} (h:l.length=3): ∃d k m,l=[d,k,m]:=by
 cases l with
 |nil=>simp at h
 |cons d l=>obtain⟨k,m,rfl⟩:=list2 (l:=l) (by simpa using h);exact⟨d,k,m,rfl⟩
theorem factY_ok (hf:r.c.Fits N) (ha: ∀e∈r.asg,e.2=A e.1) (h:factY r=true) (hk:knownO (r.ans % 16)=true) (kids: ∀j k,j≤2→N.kids[j]? =some k→knownO (A j)=true→KT F k (A j) (D j).1 (D j).2)
 (proc: ∀k,N.kids[0]? =some k→ProcOf k (A 3)) (hset:N.kind=31→2≤A 5→KT F N 9 R1 []) (h6:A 6=1→F.less 0 (D 1).1=true) (h7:A 7=if F.less (D 1).1 0=true then 1 else 0) (h8:A 8=(D 1).1 % 2)
 (e1:N.kind≠31→R1=res1 F N A D) (e2:R2=res2 F A D) (h26:N.kind=26→N.value<256):KT F N (r.ans % 16) (srcR N D R1 R2 (r.ans / 16)) (srcTR N (r.ans / 16)):=by
 have hA: ∀ {i a:Nat},asgOf r.asg i=some a→a=A i:=fun h=>ha _ (asgOf_mem h)
 have hkd:=hf.kind
 have hk':knownO (Nat.mod r.ans 16)=true:=hk
 simp only[factY,hk',Bool.not_true,Bool.false_or]at h
 split at h
 ·rename_i hc;rw[hc]at hkd
  have:=Nat.eq_of_beq_eq_true h
  rw[this];exact .num hkd
 ·rename_i hc;rw[hc]at hkd
  have:=Nat.eq_of_beq_eq_true h
  rw[this];exact .chr hkd (h26 hkd)
 ·rename_i hc;rw[hc]at hkd
  simp only[Bool.and_eq_true]at h
  have:=Nat.eq_of_beq_eq_true h.1
  rw[this]
  have h2:=h.2
  split at h2
  ·rename_i b hb
   have hn:=hf.name
   rw[hb]at hn;simp only[NC.fits,bytesOf,List.map_cons,List.map_nil]at hn
   have ev:srcR N D R1 R2 (mkO 11 6 / 16)=(UInt8.ofNat b).toNat:=by
    show srcR N D R1 R2 6=_
    simp only[srcR,hn]
   have et:srcTR N (mkO 11 6 / 16)=[UInt8.ofNat b]:=by
    show srcTR N 6=_
    simp only[srcTR,hn]
   rw[ev,et]
   exact .txt hkd hn
  ·cases h2
 ·rename_i hc;rw[hc]at hkd
  have:=Nat.eq_of_beq_eq_true h
  rw[this];exact .nil hkd
 ·rename_i hc;rw[hc]at hkd
  have:=Nat.eq_of_beq_eq_true h
  rw[this];exact .tru hkd
 ·rename_i hc;rw[hc]at hkd
  have:=Nat.eq_of_beq_eq_true h
  rw[this];exact .fls hkd
 ·rename_i hc;rw[hc]at hkd
  simp only[Bool.and_eq_true]at h
  have:=Nat.eq_of_beq_eq_true h.1
  rw[this]
  have h2:=h.2
  split at h2
  ·rename_i a h5
   rw[hA h5]at h2
   exact hset hkd (Nat.ble_eq.mp h2)
  ·cases h2
 ·
  rename_i hc;rw[hc]at hkd
  simp only[Bool.and_eq_true]at h
  obtain⟨k,hkk⟩:=list1 (few_list hf (Nat.eq_of_beq_eq_true h.1) (by omega))
  have h2:=h.2
  split at h2
  ·rename_i a h0
   simp only[Bool.and_eq_true]at h2
   have ea:=hA h0
   have hans:=Nat.eq_of_beq_eq_true h2.1
   have hK:=kids 0 k (by omega) (by rw[hkk];rfl) (by rw[←ea];exact h2.2)
   rw[←ea]at hK
   have hp:=KT.paren hkd hkk hK
   have h511:a=5∨a=6∨a=7∨a=8∨a=9∨a=10∨a=11:=by
    have:=h2.2
    simp only[knownO,Bool.and_eq_true,Nat.ble_eq]at this
    omega
   rw[hans]
   have hD:(D 0).1=srcR N D R1 R2 2:=rfl
   rcases h511 with rfl|rfl|rfl|rfl|rfl|rfl|rfl<;>exact hp
  ·cases h2
 ·
  rename_i hc;rw[hc]at hkd
  simp only[Bool.and_eq_true]at h
  obtain⟨k,hkk⟩:=list1 (few_list hf (Nat.eq_of_beq_eq_true h.1) (by omega))
  have h2:=h.2
  split at h2
  ·rename_i a h0
   simp only[is67,Bool.and_eq_true,Bool.or_eq_true,Nat.beq_eq]at h2
   have ea:=hA h0
   have hK:=kids 0 k (by omega) (by rw[hkk];rfl) (by rw[←ea];rcases h2.2 with e|e<;>rw[e]<;>rfl)
   rw[←ea]at hK
   rw[h2.1]
   have hp:=KT.not hkd hkk hK h2.2
   rcases h2.2 with rfl|rfl<;>exact hp
  ·cases h2
 ·
  rename_i hc;rw[hc]at hkd
  have hkd:N.kind=34:=hkd
  simp only[Bool.and_eq_true]at h
  obtain⟨k,hkk⟩:=list1 (few_list hf (Nat.eq_of_beq_eq_true h.1) (by omega))
  have h2:=h.2
  split at h2
  ·rename_i a w h0 hn
   simp only[Bool.and_eq_true,Bool.or_eq_true,Nat.beq_eq]at h2
   obtain⟨e5,h2⟩:=h2
   have ea:=hA h0
   have hnm:=hf.name
   rw[hn]at hnm;simp only[NC.fits]at hnm
   have hK:=kids 0 k (by omega) (by rw[hkk];rfl) (by rw[←ea,e5];rfl)
   rw[←ea,e5]at hK
   rcases h2 with⟨e,e'⟩|⟨e,e'⟩
   ·subst e
    rw[e']
    have hp:=KT.sign hkd hkk hnm (by simp[signs]) hK
    have hr:srcR N D R1 R2 3=F.neg (D 0).1:=by
     show R1=_
     rw[e1 (by omega)];unfold res1;simp only[];rw[if_neg (by omega),if_pos hkd,←ea,e5];rfl
    have:KT F N 5 (srcR N D R1 R2 3) []:=by rw[hr];simpa using hp
    exact this
   ·subst e
    rw[e']
    have hp:=KT.sign hkd hkk hnm (by simp[signs]) hK
    have:KT F N 5 (D 0).1 []:=by simpa using hp
    exact this
  ·cases h2
 ·
  rename_i hc;rw[hc]at hkd
  have hkd:N.kind=35:=hkd
  simp only[Bool.and_eq_true]at h
  obtain⟨k,l,hkk⟩:=list2 (few_list hf (Nat.eq_of_beq_eq_true h.1) (by omega))
  have h2:=h.2
  split at h2
  ·rename_i a b w h0 h1 hn
   have ea:=hA h0
   have eb:=hA h1
   have hnm:N.name=bytesOf w:=by
    have:=hf.name
    cases hq:r.c.name with
    |lit l=>rw[hq]at this hn;simp only[nameL,Option.some.injEq]at hn;rw[←hn];exact this
    |_=>rw[hq]at hn;cases hn
   have hlen:N.name.length=w.length:=by rw[hnm];simp[bytesOf]
   unfold fact35 at h2
   split at h2
   ·cases h2
   ·rename_i c hcode
    have hmem:=codeOf_mem hcode
    simp only[Bool.and_eq_true,Bool.or_eq_true,Nat.beq_eq,Nat.blt_eq,Nat.ble_eq,is67,Bool.not_eq_true',←Bool.not_eq_true]at h2
    have K0:knownO a=true→KT F k a (D 0).1 (D 0).2:=fun h=>by have:=kids 0 k (by omega) (by rw[hkk];rfl) (by rw[←ea];exact h);rw[←ea]at this;exact this
    have K1:knownO b=true→KT F l b (D 1).1 (D 1).2:=fun h=>by have:=kids 1 l (by omega) (by rw[hkk];rfl) (by rw[←eb];exact h);rw[←eb]at this;exact this
    rcases h2 with((⟨⟨⟨c2,a67⟩,b67⟩,hans⟩|⟨⟨⟨⟨c7,a5⟩,b5⟩,hans⟩,hl3⟩)|⟨⟨⟨c7,a9⟩,b9⟩,hans⟩)|⟨⟨⟨⟨hl3,a5⟩,b5⟩,hpos⟩,hans⟩
    ·rw[hans]
     have hp:=KT.opB hkd hkk hnm hmem c2 (K0 (by rcases a67 with e|e<;>rw[e]<;>rfl)) (K1 (by rcases b67 with e|e<;>rw[e]<;>rfl)) a67 b67
     have hc01:c=0∨c=1:=by omega
     rcases hc01 with rfl|rfl<;>rcases a67 with rfl|rfl<;>rcases b67 with rfl|rfl<;>exact hp
    ·subst c7;subst a5;subst b5
     rw[hans]
     have hr:srcR N D R1 R2 3=F.reck N.name (D 0).1 (D 1).1:=by
      show R1=_
      rw[e1 (by omega)];unfold res1;simp only[];rw[if_pos hkd,←ea,←eb,if_neg (by decide),if_neg (by rw[hlen];exact hl3)];rfl
     have:KT F N 5 (srcR N D R1 R2 3) []:=by rw[hr];exact KT.opI hkd hkk hnm hmem (K0 rfl) (K1 rfl)
     exact this
    ·subst a9;subst b9
     rw[hans]
     have hr:srcR N D R1 R2 3=F.sum N.name (D 0).1 (D 1).1:=by
      show R1=_
      rw[e1 (by omega)];unfold res1;simp only[];rw[if_pos hkd,←ea,←eb,if_pos (by decide)];rfl
     have:KT F N 9 (srcR N D R1 R2 3) []:=by rw[hr];exact KT.opS hkd hkk hnm hmem c7 (K0 rfl) (K1 rfl)
     exact this
    ·subst a5;subst b5
     have hless:F.less 0 (D 1).1=true:=by
      split at hpos
      ·rename_i p hp
       refine h6 ?_
       rw[←hA hp]
       simpa using hpos
      ·cases hpos
     rcases hans with⟨c5,hans⟩|⟨c6,hans⟩
     ·subst c5
      rw[hans]
      have hr:srcR N D R1 R2 3=F.div (D 0).1 (D 1).1:=by
       show R1=_
       rw[e1 (by omega)];unfold res1;simp only[];rw[if_pos hkd,←ea,←eb,if_neg (by decide),if_pos (by rw[hlen];exact hl3)];rfl
      have:KT F N 5 (srcR N D R1 R2 3) []:=by rw[hr];exact KT.opD hkd hkk hnm hmem (.inl rfl) (K0 rfl) (K1 rfl) hless
      exact this
     ·subst c6
      rw[hans]
      have hr:srcR N D R1 R2 4=F.md (D 0).1 (D 1).1:=by
       show R2=_
       rw[e2];unfold res2;rw[←ea,←eb];rfl
      have:KT F N 5 (srcR N D R1 R2 4) []:=by rw[hr];exact KT.opD hkd hkk hnm hmem (.inr rfl) (K0 rfl) (K1 rfl) hless
      exact this
  ·cases h2
 ·
  rename_i hc;rw[hc]at hkd
  have hkd:N.kind=21:=hkd
  split at h
  ·rename_i p o h3 h1
   have ep:=hA h3
   have eo:=hA h1
   simp only[Bool.or_eq_true,Bool.and_eq_true,Nat.beq_eq]at h
   rcases h with⟨hn,h⟩|⟨⟨⟨⟨hn,hp⟩,ho5⟩,hb⟩,hans⟩
   ·obtain⟨d,k,hkk⟩:=list2 (few_list hf hn (by omega))
    have hd:=proc d (by rw[hkk];rfl)
    rw[←ep]at hd
    have K1:knownO o=true→KT F k o (D 1).1 (D 1).2:=fun h=>by have:=kids 1 k (by omega) (by rw[hkk];rfl) (by rw[←eo];exact h);rw[←eo]at this;exact this
    simp only[fact21,Bool.or_eq_true,Bool.and_eq_true,Nat.beq_eq]at h
    rcases h with((((⟨⟨hp,ho⟩,hm⟩|⟨⟨hp,ho⟩,hm⟩)|⟨⟨hp,ho⟩,hans⟩)|⟨⟨hp,ho⟩,hans⟩)|⟨⟨hp,ho⟩,hans⟩)|⟨⟨hp,ho⟩,hans⟩
    ·subst hp;subst ho
     split at hm
     ·rename_i n hn7
      have en:=hA hn7
      rw[h7]at en
      have hK:=KT.one (o':=5) (v':=if F.less (D 1).1 0=true then F.neg (D 1).1 else(D 1).1) hkd hkk hd (K1 rfl) rfl
      have hans:=Nat.eq_of_beq_eq_true hm
      by_cases hl:F.less (D 1).1 0=true
      ·rw[if_pos hl]at en hK
       rw[hans,en]
       have hr:srcR N D R1 R2 3=F.neg (D 1).1:=by
        show R1=_
        rw[e1 (by omega)];unfold res1;simp only[];rw[if_neg (by omega),if_neg (by omega),←ep,if_neg (by decide),if_neg (by decide),←eo];rfl
       have:KT F N 5 (srcR N D R1 R2 3) []:=by rw[hr];exact hK
       exact this
      ·rw[if_neg hl]at en hK
       rw[hans,en]
       exact hK
     ·cases hm
    ·subst hp;subst ho
     split at hm
     ·rename_i n hn8
      have en:=hA hn8
      rw[h8]at en
      have hans:=Nat.eq_of_beq_eq_true hm
      by_cases hl:(D 1).1 % 2=1
      ·have hK:=KT.one (o':=7) (v':=1) hkd hkk hd (K1 rfl) (by simp only[call1];rw[if_pos hl])
       rw[hans,en,hl]
       exact hK
      ·have hK:=KT.one (o':=6) (v':=0) hkd hkk hd (K1 rfl) (by simp only[call1];rw[if_neg hl])
       have h0:(D 1).1 % 2=0:=by omega
       rw[hans,en,h0]
       exact hK
     ·cases hm
    ·subst hp
     rw[hans]
     rcases ho with((rfl|rfl)|rfl)|rfl
     ·exact KT.one (o':=5) (v':=(D 1).1) hkd hkk hd (K1 rfl) rfl
     ·exact KT.one (o':=5) (v':=(D 1).1) hkd hkk hd (K1 rfl) rfl
     ·exact KT.one (o':=5) (v':=(D 1).1) hkd hkk hd (K1 rfl) rfl
     ·exact KT.one (o':=5) (v':=(D 1).1) hkd hkk hd (K1 rfl) rfl
    ·subst hp;subst ho
     rw[hans]
     exact KT.one (o':=5) (v':=0) hkd hkk hd (K1 rfl) rfl
    ·subst hp;subst ho
     rw[hans]
     exact KT.one (o':=5) (v':=1) hkd hkk hd (K1 rfl) rfl
    ·subst hp;subst ho
     rw[hans]
     exact KT.one (o':=8) (v':=(D 1).1 % 256) hkd hkk hd (K1 rfl) rfl
   ·obtain⟨d,k,l,hkk⟩:=list3 (few_list hf hn (by omega))
    have hd:=proc d (by rw[hkk];rfl)
    rw[←ep]at hd
    split at hb
    ·rename_i b h2
     have eb:=hA h2
     have b5:=Nat.eq_of_beq_eq_true hb
     subst ho5;subst b5
     have K1:KT F k 5 (D 1).1 (D 1).2:=by have:=kids 1 k (by omega) (by rw[hkk];rfl) (by rw[←eo];rfl);rw[←eo]at this;exact this
     have K2:KT F l 5 (D 2).1 (D 2).2:=by have:=kids 2 l (by omega) (by rw[hkk];rfl) (by rw[←eb];rfl);rw[←eb]at this;exact this
     have hK:=KT.two hkd hkk hd hp K1 K2
     rw[hans]
     have hr:srcR N D R1 R2 3=if p=5 then F.left (D 1).1 (D 2).1 else F.right (D 1).1 (D 2).1:=by
      show R1=_
      rw[e1 (by omega)];unfold res1;simp only[];rw[if_neg (by omega),if_neg (by omega),←ep,←eo,←eb]
      rcases hp with rfl|rfl<;>rfl
     have:KT F N 5 (srcR N D R1 R2 3) []:=by rw[hr];exact hK
     exact this
    ·cases hb
  ·cases h
 ·cases h
end
end
end
end Go.AM
namespace Go.AM
noncomputable section
variable {P:Program} {W:World}
def TypOk (P:Program) (W:World) (S:TS) (F:Fns) (N:Tr):Prop:= ∃o v t,Good o v t∧NodeY P W S 16 N.val (outR S o v t)∧(knownO o=true→KT F N o v t)
def okK (k i:Nat):Bool:=bif Nat.beq k 31 then Nat.beq i 5 else !(Nat.beq i 5)&&Nat.blt i 9
def isBadR (r:Row):Bool:=Nat.beq r.ans 999
def litB (r:Row):Bool:=match r.c.kind with
 |some 35=>(match r.c.name with| .lit _=>true|_=>false)
 |_=>true
def rowY (P:Program) (S:TS) (r:Row):Bool:=bif isBadR r then badC r.c else srcOk r&&factY r&&litB r&&rowRunY P S r
def rowsY (k:Nat):List Row:=rows candY (typT k) ⟨some k,.any,.any,none,.any⟩ []
def tabY (P:Program) (S:TS) (k:Nat):Bool:=(rowsY k).all (rowY P S)
theorem candY_le (i:Nat):candY i≤32:=by
 unfold candY
 split<;>omega
theorem good_row {N:Tr} {r:Row} {D:Nat→Nat×List UInt8} {R1 R2:Nat} (hw:Wf W N) (hf:r.c.Fits N) (hs:srcOk r=true) (hD: ∀j,j≤2→(D j).1<4294967296) (h1:R1<4294967296) (h2:R2<4294967296):
 Good (r.ans % 16) (srcR N D R1 R2 (r.ans / 16)) (srcTR N (r.ans / 16)):=by
 have eo:Nat.mod r.ans 16=r.ans % 16:=rfl
 have es:Nat.div r.ans 16=r.ans / 16:=rfl
 simp only[srcOk,eo,es,Bool.and_eq_true,Nat.blt_eq]at hs
 obtain⟨hlt,hs⟩:=hs
 generalize r.ans % 16=o at hlt hs⊢
 generalize r.ans / 16=src at hs⊢
 refine⟨hlt,?_,fun h=>?_,fun h=>?_⟩
 ·have hv:=hw.value
  have a0:=hD 0 (by omega)
  have a1:=hD 1 (by omega)
  unfold srcR
  split<;>first|omega|skip
  split
  ·rename_i b _;have:=b.toNat_lt;omega
  ·omega
 ·subst h
  simp only[Bool.and_eq_true,Nat.beq_eq]at hs
  obtain⟨h6,hb⟩:=hs
  subst h6
  split at hb
  ·rename_i b hn
   have:=hf.name
   rw[hn]at this;simp only[NC.fits,bytesOf,List.map_cons,List.map_nil]at this
   simp only[srcTR,this,List.length_cons,List.length_nil]
  ·cases hb
 ·subst h
  simp only[Bool.and_eq_true,Nat.beq_eq]at hs
  obtain⟨h6,hb⟩:=hs
  subst h6
  split at hb
  ·rename_i hn
   have:=hf.name
   rw[hn]at this;simp only[NC.fits]at this
   exact this
  ·cases hb
theorem typ_ok {S:TS} {F:Fns} (hmix:P.follows .mixedOrders=true) (hS:TSok S) (hF:ArithOk P W F) (h0:0<W.heap.size) (hTab: ∀k,k<64→tabY P S k=true) (hNamed: ∀k,k<64→named (okK k) (typT k) []=true)
 (hProc: ∀k,Wf W k→May k→ ∃p,p<24∧NodeY P W S 89 k.val (procA S p)∧ProcOf k p) (hMod: ∀k,Wf W k→NodeY P W S 91 k.val (.ret (.pointer none)))
 (hSet: ∀N,Wf W N→(∀k∈N.kids,TypOk P W S F k)→ ∃a v,a<3∧v<4294967296∧NodeY P W S 26 N.sl (setA S a (u32 v))∧(2≤a→N.kind=31→KT F N 9 v [])) {N:Tr} (hw:Wf W N) (hm:May N) (hk: ∀k∈N.kids,TypOk P W S F k):TypOk P W S F N:=by
 have g: ∀j:Nat,∃(o v:Nat) (t:List UInt8),Good o v t∧ ∀k,N.kids[j]? =some k→NodeY P W S 16 k.val (outR S o v t)∧(knownO o=true→KT F k o v t):=by
  intro j
  cases h:N.kids[j]? with
  |none=>exact⟨0,0,[],⟨by omega,by omega,fun h=>by omega,fun h=>by omega⟩,fun k hk=>by cases hk⟩
  |some k=>
   obtain⟨o,v,t,h1,h2,h3⟩:=hk k (List.mem_of_getElem? h)
   exact⟨o,v,t,h1,fun k' hk'=>by cases hk';exact⟨h2,h3⟩⟩
 have gp: ∃p,p<24∧ ∀k,N.kids[0]? =some k→NodeY P W S 89 k.val (procA S p)∧ProcOf k p:=by
  cases h:N.kids[0]? with
  |none=>exact⟨0,by omega,fun k hk=>by cases hk⟩
  |some k=>
   obtain⟨p,h1,h2⟩:=hProc k (hw.kid (List.mem_of_getElem? h)) (hm.kid (List.mem_of_getElem? h))
   exact⟨p,h1,fun k' hk'=>by cases hk';exact h2⟩
 have gm: ∀k,N.kids[0]? =some k→NodeY P W S 91 k.val (.ret (.pointer none)):=fun k h=>hMod k (hw.kid (List.mem_of_getElem? h))
 obtain⟨sa,sv,hs1,hs2,hs3,hs4⟩:=hSet N hw hk
 obtain⟨p,hp1,hp2⟩:=gp
 let o:Nat→Nat:=fun j=>Classical.choose (g j)
 let v:Nat→Nat:=fun j=>Classical.choose (Classical.choose_spec (g j))
 let t:Nat→List UInt8:=fun j=>Classical.choose (Classical.choose_spec (Classical.choose_spec (g j)))
 have ho: ∀j,Good (o j) (v j) (t j)∧ ∀k,N.kids[j]? =some k→NodeY P W S 16 k.val (outR S (o j) (v j) (t j))∧(knownO (o j)=true→KT F k (o j) (v j) (t j)):=fun j=>Classical.choose_spec (Classical.choose_spec (Classical.choose_spec (g j)))
 generalize o=o at ho
 generalize v=v at ho
 generalize t=t at ho
 let A:Nat→Nat:=fun i=>match i with
  |0=>o 0
  |1=>o 1
  |2=>o 2
  |3=>p
  |4=>0
  |5=>sa
  |6=>if F.less 0 (v 1)=true then 1 else 0
  |7=>if F.less (v 1) 0=true then 1 else 0
  |_=>v 1 % 2
 let D:Nat→Nat×List UInt8:=fun j=>(v j,t j)
 have hAo: ∀j,j≤2→A j=o j:=by
  intro j hj
  have:j=0∨j=1∨j=2:=by omega
  rcases this with rfl|rfl|rfl<;>rfl
 have hD: ∀j,j≤2→(D j).1<4294967296:=fun j _=>(ho j).1.v
 let R1:=if N.kind=31 then sv else res1 F N A D
 let R2:=res2 F A D
 have hR:=res_lt (N:=N) (A:=A) hF hD
 have hR1:R1<4294967296:=by
  show(if N.kind=31 then sv else res1 F N A D)<4294967296
  split
  ·exact hs2
  ·exact hR.1
 obtain⟨k,hkk,hsh⟩:=hm.shape
 have hk64:k<64:=by have:=shape_le hsh;omega
 obtain⟨lr,lm,hrow⟩:=rowAt hw h0
 have hO:Ora P W S N A D R1 R2 (okK k):=by
  refine⟨fun j k' hj _ h=>?_,hD,fun j hj=>?_,hR1,hR.2,fun _=>⟨hp1,fun k' h=>(hp2 k' h).1⟩,fun _=>gm,fun h5=>?_,fun _=>?_,fun _=>?_,rfl⟩
  ·rw[hAo j hj];exact⟨(ho j).1,((ho j).2 k' h).1⟩
  ·rw[hAo j hj];exact(ho j).1
  ·have h31:N.kind=31:=by
    rw[hkk]
    cases hb:Nat.beq k 31 with
    |true=>rw[Nat.eq_of_beq_eq_true hb];rfl
    |false=>simp only[okK,hb,cond_false]at h5;cases h5
   have:R1=sv:=if_pos h31
   rw[this];exact hs3
  ·have:=hF.less 0 (v 1) (by omega) (hD 1 (by omega))
   have e:Nat.beq (A 6) 1=F.less 0 (v 1):=by
    show Nat.beq (if F.less 0 (v 1)=true then 1 else 0) 1=_
    cases F.less 0 (v 1)<;>rfl
   rw[e];exact this
  ·have:=hF.less (v 1) 0 (hD 1 (by omega)) (by omega)
   have e:Nat.beq (A 7) 1=F.less (v 1) 0:=by
    show Nat.beq (if F.less (v 1) 0=true then 1 else 0) 1=_
    cases F.less (v 1) 0<;>rfl
   rw[e];exact this
 have hlt: ∀i,okK k i=true→A i<candY i:=by
  intro i hi
  have h9:i<9:=by
   unfold okK at hi
   cases hb:Nat.beq k 31 with
   |true=>rw[hb]at hi;simp only[cond_true,Nat.beq_eq]at hi;omega
   |false=>rw[hb]at hi;simp only[cond_false,Bool.and_eq_true,Nat.blt_eq]at hi;exact hi.2
  have:i=0∨i=1∨i=2∨i=3∨i=4∨i=5∨i=6∨i=7∨i=8:=by omega
  rcases this with rfl|rfl|rfl|rfl|rfl|rfl|rfl|rfl|rfl
  ·exact(ho 0).1.lt
  ·exact(ho 1).1.lt
  ·exact(ho 2).1.lt
  ·exact hp1
  ·exact Nat.zero_lt_one
  ·exact hs1
  ·show(if F.less 0 (v 1)=true then 1 else 0)<2
   split<;>omega
  ·show(if F.less (v 1) 0=true then 1 else 0)<2
   split<;>omega
  ·show v 1 % 2<2
   omega
 obtain⟨r,hr1,hr2,hr3⟩:=rows_sound (N:=N) (ok:=okK k) (Or:=fun i a=>a=A i∧okK k i=true) candY_le (fun i hi=>⟨A i,hlt i hi,rfl,hi⟩) (typT k) ⟨some k,.any,.any,none,.any⟩ [] [] (hNamed k hk64) (fun _ h=>by cases h)
  ⟨hkk,trivial,trivial,trivial,trivial⟩ (fun _ h=>by cases h)
 have hrow1:=List.all_eq_true.1 (hTab k hk64) r hr1
 unfold rowY at hrow1
 cases hbad:isBadR r with
 |true=>rw[hbad]at hrow1;exact absurd hm.shape (badC_ok hr2 hrow1)
 |false=>
  rw[hbad]at hrow1
  simp only[cond_false,Bool.and_eq_true]at hrow1
  obtain⟨⟨⟨q1,q2⟩,q3⟩,q4⟩:=hrow1
  obtain⟨l1,l2⟩:=ansY_lit (S:=S) (lr:=lr) (lm:=lm) (D:=D) (R1:=R1) (R2:=R2) hS q1 hr2 hw hD hR1 hR.2
  have hlit:r.c.kind=some 35→ ∃w,r.c.name= .lit w:=by
   intro h
   simp only[litB,h]at q3
   split at q3
   ·rename_i w hw';exact⟨w,hw'⟩
   ·cases q3
  have hans:r.ans % 16<13:=by
   simp only[srcOk,Bool.and_eq_true,Nat.blt_eq]at q1
   exact q1.1
  have h26:N.kind=26→N.value<256:=by
   intro h
   have:k=26:=by rw[hkk]at h;omega
   subst this
   simp only[shapeN,Bool.and_eq_true]at hsh
   exact Nat.blt_eq.mp hsh.2
  have hgood:Good (r.ans % 16) (srcR N D R1 R2 (r.ans / 16)) (srcTR N (r.ans / 16)):=good_row hw hr2 q1 hD hR1 hR.2
  have fin:NodeY P W S 16 N.val (outR S (r.ans % 16) (srcR N D R1 R2 (r.ans / 16)) (srcTR N (r.ans / 16)))→TypOk P W S F N:=by
   intro hn
   refine⟨_,_,_,hgood,hn,fun hkn=>?_⟩
   refine factY_ok hr2 (fun e he=>(hr3 e he).1) q2 hkn (fun j k' hj h hkn=>?_) (fun k' h=>(hp2 k' h).2) (fun h31 h5=>?_) (fun h=>?_) rfl rfl (fun h=>if_neg h) rfl h26
   ·rw[hAo j hj]at hkn⊢;exact((ho j).2 k' h).2 hkn
   ·have:R1=sv:=if_pos h31
    rw[this];exact hs4 h5 h31
   ·by_cases hl:F.less 0 (v 1)=true
    ·exact hl
    ·exfalso
     have:(if F.less 0 (v 1)=true then 1 else 0)=1:=h
     rw[if_neg hl]at this;cases this
  by_cases h31:N.kind=31
  ·
   have hreck: ∀t∈reck S.x r.c r.asg,PureCall P (.at W (sigY S.x lr lm N D R1 R2)) t.1 t.2.1 t.2.2:=by
    intro t ht
    have hkd:=hr2.kind
    unfold reck at ht
    split at ht
    ·rename_i h;rw[h]at hkd;have:N.kind=35:=hkd;omega
    ·rename_i h;rw[h]at hkd;have:N.kind=34:=hkd;omega
    ·rename_i h;rw[h]at hkd;have:N.kind=21:=hkd;omega
    ·cases ht
   have hn:=row_node hmix hS hw hrow hr2 hO hr3 hreck l2 q4
   rw[l1]at hn
   exact fin hn
  ·have hreck:=reck_ok (S:=S) (r:=r) hF hw hrow hr2 hO hr3 (if_neg h31) rfl hlit
   have hn:=row_node hmix hS hw hrow hr2 hO hr3 hreck l2 q4
   rw[l1]at hn
   exact fin hn
end
end Go.AM
noncomputable section
namespace Go.AM
variable {P:Program} {W:World}
def wordsP:List (List Nat)→Nat→DT→DT
 |[],_,d=>d
 |w::l,p,d=> .word [w] (.leaf p) (wordsP l (Nat.succ p) d)
def procT:Nat→DT
 |11=>wordsP builtsN 1 (.word (otherWords builtsN) (.leaf 0) (.foreign (.leaf 0) bad))
 |36=>k1 (.ask 4 fun _=> .leaf 0)
 |_=> .leaf 0
def modT:Nat→DT
 |11=> .word words (.leaf 0) (.foreign (.leaf 0) bad)
 |_=> .leaf 0
def runG (P:Program) (S:TS) (f:Nat) (r:Row) (a:Ans):Bool:=tplRun P (knownY S r) 2000 f [S.cV,absV S.x r.c] (Nat.add S.x 60) (S.pre++extT S.x r.c) a (S.pre++extT S.x r.c)
def factP (r:Row):Bool:=Nat.blt r.ans 24&&(Nat.beq r.ans 0||(match r.c.kind,r.c.name with
 |some 11,.lit w=>(match builtsN[Nat.pred r.ans]? with|some v=>named.sameNats v w|none=>false)
 |_,_=>false))
def noReck (r:Row):Bool:=match reck 0 r.c r.asg with|[]=>true|_=>false
def rowP (P:Program) (S:TS) (r:Row):Bool:=bif isBadR r then badC r.c else factP r&&noReck r&&runG P S 89 r (procA S r.ans)
def rowM (P:Program) (S:TS) (r:Row):Bool:=noReck r&&runG P S 91 r (.ret (.pointer none))
def rowsG (tab:Nat→DT):List Row:=rowsK candY tab (tab 64)
theorem noReck_ok {x:Nat} {r:Row} (h:noReck r=true): ∀t∈reck x r.c r.asg,False:=by
 intro t ht
 have h0:reck 0 r.c r.asg=[]:=by
  unfold noReck at h
  split at h
  ·rename_i e;exact e
  ·cases h
 unfold reck at ht h0
 split at ht
 ·rename_i hk;rw[hk]at h0
  split at ht
  ·rename_i a b ha hb;rw[ha,hb]at h0
   simp only[]at ht h0
   cases c1:Nat.beq (formO a) 5&&Nat.beq (formO b) 5 with
   |true=>rw[c1]at h0;cases h0
   |false=>
    rw[c1]at h0 ht
    simp only[cond_false]at h0 ht
    cases c2:Nat.beq (formO a) 1&&Nat.beq (formO b) 1 with
    |false=>rw[c2]at ht;cases ht
    |true=>
     rw[c2]at h0;simp only[cond_true]at h0
     cases c3:Nat.beq (List.length (litN r.c.name)) 3<;>rw[c3]at h0<;>cases h0
  ·cases ht
 ·rename_i hk;rw[hk]at h0
  split at ht
  ·rename_i a ha;rw[ha]at h0;cases h0
  ·cases ht
 ·rename_i hk;rw[hk]at h0
  split at ht
  ·rename_i p a hp ha;rw[hp,ha]at h0
   split at ht
   ·rename_i b hb;rw[hb]at h0
    simp only[]at h0 ht
    cases c1:Nat.beq p 5 with
    |true=>rw[c1]at h0;cases h0
    |false=>
     rw[c1]at h0 ht;simp only[cond_false]at h0 ht
     cases c2:Nat.beq p 6 with
     |true=>rw[c2]at h0;cases h0
     |false=>rw[c2]at ht;cases ht
   ·rename_i hb;rw[hb]at h0
    simp only[]at h0 ht
    cases c1:Nat.beq p 1 with
    |true=>rw[c1]at h0;cases h0
    |false=>rw[c1]at ht;cases ht
  ·cases ht
 ·cases ht
section
variable {S:TS} {N:Tr}
theorem ora0 (hM: ∀k,N.kids[0]? =some k→NodeY P W S 91 k.val (.ret (.pointer none))):Ora P W S N (fun _=>0) (fun _=>(0,[])) 0 0 (fun i=>Nat.beq i 4):=
 ⟨fun j k hj h _=>(by simp only[Nat.beq_eq]at h;omega),fun _ _=>(by decide),fun _ _=>⟨by decide,by decide,fun h=>(by cases h),fun h=>(by cases h)⟩,by decide,by decide,fun h=>(by cases h),fun _=>hM,fun h=>(by cases h),fun h=>(by cases h),fun h=>(by cases h),rfl⟩
theorem mod_ok (hmix:P.follows .mixedOrders=true) (hS:TSok S) (h0:0<W.heap.size) (hT:(rowsG modT).all (rowM P S)=true) (hn: ∀k,k<65→named (fun _=>false) (modT k) []=true) (hw:Wf W N):NodeY P W S 91 N.val (.ret (.pointer none)):=by
 obtain⟨r,h1,h2,h3⟩:=rowsK_sound (N:=N) (ok:=fun _=>false) (Or:=fun i a=>False) candY_le (fun i hi=>by cases hi) (f:=modT) (d:=modT 64) (fun k hk=>hn k (by omega)) (hn 64 (by omega))
 obtain⟨lr,lm,hrow⟩:=rowAt hw h0
 have hc:=List.all_eq_true.1 hT r h1
 simp only[rowM,Bool.and_eq_true]at hc
 have hO:Ora P W S N (fun _=>0) (fun _=>(0,[])) 0 0 (fun _=>false):=
  ⟨fun j k hj h _=>(by cases h),fun _ _=>(by decide),fun _ _=>⟨by decide,by decide,fun h=>(by cases h),fun h=>(by cases h)⟩,by decide,by decide,fun h=>(by cases h),fun h=>(by cases h),fun h=>(by cases h),fun h=>(by cases h),fun h=>(by cases h),rfl⟩
 exact row_gen hmix hS hw hrow h2 hO (fun e he=>(h3 e he).elim) (fun t ht=>(noReck_ok hc.1 t ht).elim) rfl hc.2
theorem proc_ok (hmix:P.follows .mixedOrders=true) (hS:TSok S) (h0:0<W.heap.size) (hT:(rowsG procT).all (rowP P S)=true) (hn: ∀k,k<65→named (fun i=>Nat.beq i 4) (procT k) []=true)
 (hM: ∀k,Wf W k→NodeY P W S 91 k.val (.ret (.pointer none))) (hw:Wf W N) (hm:May N): ∃p,p<24∧NodeY P W S 89 N.val (procA S p)∧ProcOf N p:=by
 obtain⟨r,h1,h2,h3⟩:=rowsK_sound (N:=N) (ok:=fun i=>Nat.beq i 4) (Or:=fun i a=>a=0∧Nat.beq i 4=true) candY_le (fun i hi=>⟨0,by rw[Nat.eq_of_beq_eq_true hi];decide,rfl,hi⟩) (f:=procT) (d:=procT 64) (fun k hk=>hn k (by omega)) (hn 64 (by omega))
 obtain⟨lr,lm,hrow⟩:=rowAt hw h0
 have hc:=List.all_eq_true.1 hT r h1
 unfold rowP at hc
 cases hb:isBadR r with
 |true=>rw[hb]at hc;exact absurd hm.shape (badC_ok h2 hc)
 |false=>
  rw[hb]at hc
  simp only[cond_false,Bool.and_eq_true]at hc
  obtain⟨⟨q1,q2⟩,q3⟩:=hc
  simp only[factP,Bool.and_eq_true,Nat.blt_eq]at q1
  have hO:=ora0 (N:=N) (S:=S) (P:=P) (W:=W) (fun k hk=>hM k (hw.kid (List.mem_of_getElem? hk)))
  have hlit: ∀σ,(procA S r.ans).lit σ=procA S r.ans:=by intro σ;cases r.ans<;>rfl
  have hok: ∀L,(procA S r.ans).ok (fun i=>Nat.blt i S.x) (someL L)=true:=by
   intro L
   cases hr:r.ans with
   |zero=>rfl
   |succ p=>exact hS.proc p (by omega)
  have hn:=row_gen hmix hS hw hrow h2 hO h3 (fun t ht=>(noReck_ok q2 t ht).elim) (hok _) q3
  rw[hlit]at hn
  refine⟨r.ans,q1.1,hn,?_⟩
  have q12:=q1.2
  simp only[Bool.or_eq_true,Nat.beq_eq]at q12
  rcases q12 with e|e
  ·exact .inl e
  ·have hkd:=h2.kind
   have hnm:=h2.name
   split at e
   ·rename_i w hk hname
    rw[hk]at hkd
    rw[hname]at hnm;simp only[NC.fits]at hnm
    split at e
    ·rename_i v hv
     have:=sameNats_eq e;subst this
     by_cases hz:r.ans=0
     ·exact .inl hz
     ·exact .inr ⟨hkd,v,by rw[←Nat.pred_eq_sub_one];exact hv,hnm,hz⟩
    ·cases e
   ·cases e
end
end Go.AM
namespace Go.AM
variable {P:Program} {W:World}
structure TabOk (P:Program) (S:TS):Prop where
 ok:TSok S
 expr: ∀k,k<64→tabY P S k=true
 proc:(rowsG procT).all (rowP P S)=true
 modu:(rowsG modT).all (rowM P S)=true
structure NamedOk:Prop where
 expr: ∀k,k<64→named (okK k) (typT k) []=true
 proc: ∀k,k<65→named (fun i=>Nat.beq i 4) (procT k) []=true
 modu: ∀k,k<65→named (fun _=>false) (modT k) []=true
def SetOk (P:Program) (W:World) (S:TS) (F:Fns):Prop:= ∀N,Wf W N→(∀k∈N.kids,TypOk P W S F k)→ ∃a v,a<3∧v<4294967296∧NodeY P W S 26 N.sl (setA S a (u32 v))∧(2≤a→N.kind=31→KT F N 9 v [])
theorem typ_all {S:TS} {F:Fns} (hmix:P.follows .mixedOrders=true) (hF:ArithOk P W F) (h0:0<W.heap.size) (hT:TabOk P S) (hN:NamedOk) (hSet:SetOk P W S F): ∀N:Tr,Wf W N→May N→TypOk P W S F N:=by
 have hMod: ∀k,Wf W k→NodeY P W S 91 k.val (.ret (.pointer none)):=fun k hw=>mod_ok hmix hT.ok h0 hT.modu hN.modu hw
 intro N
 induction N using Tr.rec (motive_2:=fun l=> ∀k∈l,Wf W k→May k→TypOk P W S F k)with
 |nil=>rename_i h _ _;cases h
 |cons a l iha ihl=>
  rename_i k hk hwk hmk
  rcases List.mem_cons.1 hk with rfl|hk
  ·exact iha hwk hmk
  ·exact ihl k hk hwk hmk
 |mk kd nm v b sl l ih=>
  intro hw hm
  exact typ_ok hmix hT.ok hF h0 hT.expr hN.expr (fun k hwk hmk=>proc_ok hmix hT.ok h0 hT.proc hN.proc hMod hwk hmk) hMod hSet hw hm fun k hk=>ih k hk (hw.kid hk) (hm.kid hk)
end Go.AM
end
namespace Go.AM
noncomputable section
structure MS where
 x:Nat
 pre:Value→List (Nat×AObj)
 w:Nat
 sc:Nat
 proc:Nat→Nat
def MS.hd (M:MS):List Value:=[ptrV M.w,ptrV M.sc]
def nid (x j:Nat):Nat:=Nat.add (Nat.mul 4 (Nat.add (Nat.div (Nat.add x 43) 4) j)) 2
def stp (x j off:Nat):Value:= .chan (some (symMk (nid x j) 0 off))
def kindM:Nat→Nat
 |5=>1
 |6=>2
 |7=>2
 |8=>3
 |9=>5
 |10=>6
 |11=>99
 |_=>0
def wordM (i off:Nat):Nat→Value
 |5=>opq i 3 off
 |8=>opq i 3 0
 |9=>opq i 3 0
 |7=>u32 1
 |_=>u32 0
def textM (i:Nat):Nat→Value
 |11=>opq i 10 1
 |_=>emptyS
def datM (m:Nat) (v t:Value):Value:= .agg #[.int .i64 (kindM m:Nat),v,.pointer none,t]
structure RowM where
 c:Cls
 ks:List (Nat×Nat)
 par:Nat
 p:Nat
 fn:List Nat
 m:Nat
 src:Nat
def offK (r:RowM) (j:Nat):Nat:=bif Nat.beq j 1 then r.par else 0
def kidW (x:Nat) (r:RowM) (j m:Nat):Value:=wordM (idV x j) (offK r j) m
def kidD (x:Nat) (r:RowM) (q:Nat×Nat):Ans:= .ret (datM q.2 (kidW x r q.1 q.2) (textM (idT x q.1) q.2))
def isC (r:RowM):Nat:=bif Nat.beq r.p 0 then 0 else 1
def minisK (nx:Nat):List (List (Nat×AObj)×List (Nat×AObj)×List Value×Ans)→List Value→S→Option KRes
 |[],_,_=>none
 |(pre,post,args,a)::es,l,s=>match miniK pre post nx args a l s with
  |some r=>some r
  |none=>minisK nx es l s
def ofs (d i:Nat):Nat:=bif Nat.beq i 0 then d else 0
def exprEs (M:MS) (r:RowM):List (Nat×Nat)→Nat→List (List (Nat×AObj)×List (Nat×AObj)×List Value×Ans)
 |[],_=>[]
 |q::l,i=>(M.pre (stp M.x i (ofs (isC r) i)),M.pre (stp M.x (Nat.succ i) 0),M.hd++[kidV M.x q.1],kidD M.x r q)::exprEs M r l (Nat.succ i)
def objEs (M:MS) (r:RowM):List (List (Nat×AObj)×List (Nat×AObj)×List Value×Ans):=
 bif Nat.beq r.p 0 then[]else[(M.pre (stp M.x 0 1),M.pre (stp M.x 0 1),M.hd++[kidV M.x 0],.ret (ptrV (M.proc (Nat.pred r.p))))]
def kq0 (r:RowM):Nat×Nat:=match r.ks with|q::_=>q|[]=>(0,0)
def kq1 (r:RowM):Nat×Nat:=match r.ks with|_::q::_=>q|_=>(0,0)
def fnE (x:Nat) (r:RowM):Nat→List (Nat×List Value×Ans)
 |1=>[(30,[u32 0,kidW x r (kq0 r).1 (kq0 r).2,.bool false],.ret (.tuple #[r7 x,poi,poi]))]
 |2=>[(79,[kidW x r (kq0 r).1 (kq0 r).2,kidW x r (kq1 r).1 (kq1 r).2],.ret (r7 x))]
 |3=>[(167,[kidW x r (kq0 r).1 (kq0 r).2,kidW x r (kq1 r).1 (kq1 r).2],.ret (r7 x))]
 |4=>[(85,[kidW x r (kq0 r).1 (kq0 r).2,u32 0],.ret (.bool true))]
 |5=>[(85,[kidW x r (kq0 r).1 (kq0 r).2,u32 0],.ret (.bool false))]
 |6=>[(284,[absName (Nat.add x 2) r.c.name,kidW x r (kq0 r).1 (kq0 r).2,kidW x r (kq1 r).1 (kq1 r).2],.ret (r7 x))]
 |7=>[(285,[absName (Nat.add x 2) r.c.name,kidW x r (kq0 r).1 (kq0 r).2,kidW x r (kq1 r).1 (kq1 r).2],.ret (r7 x))]
 |8=>[(144,[datM (kq0 r).2 (kidW x r (kq0 r).1 (kq0 r).2) (textM (idT x (kq0 r).1) (kq0 r).2)],.ret (datM 8 (opq (idV x (kq0 r).1) 3 0) emptyS))]
 |_=>[]
def fnEs (x:Nat) (r:RowM):List Nat→List (Nat×List Value×Ans)
 |[]=>[]
 |i::l=>fnE x r i++fnEs x r l
def knownM (M:MS) (r:RowM):Known:=fun g=>
 bif Nat.beq g 143 then some (minisK M.x (exprEs M r r.ks 0))
 else bif Nat.beq g 226 then some (minisK M.x (objEs M r))
 else withE noK (fnEs M.x r r.fn) g
def srcM (x:Nat) (r:RowM):Nat→Value
 |1=>opq (Nat.add x 3) 3 0
 |2=>opq (idV x (kq0 r).1) 3 (offK r (kq0 r).1)
 |3=>r7 x
 |8=>opq (idV x (kq0 r).1) 6 0
 |10=>u32 1
 |_=>u32 0
def srcTM (x:Nat) (r:RowM):Nat→Value
 |7=>opq (Nat.add x 2) 9 0
 |9=>opq (idT x (kq0 r).1) 10 1
 |_=>emptyS
def ansM (M:MS) (r:RowM):Ans:= .ret (datM r.m (srcM M.x r r.src) (srcTM M.x r r.src))
def endM (M:MS) (r:RowM):Value:=match r.ks with
 |[]=>stp M.x 0 (isC r)
 |_=>stp M.x (List.length r.ks) 0
def rowRunM (P:Program) (M:MS) (r:RowM):Bool:=
 tplRun P (knownM M r) 3000 143 (M.hd++[absV M.x r.c]) (Nat.add M.x 60) (M.pre (stp M.x 0 0)++extT M.x r.c) (ansM M r) (M.pre (endM M r)++extT M.x r.c)
def cls (k:Nat) (n:NC) (kc:KC):Cls:=⟨some k,n,.any,none,kc⟩
def ms:List Nat:=[5,6,7,8,9,10,11]
def rNum:RowM:=⟨cls 25 .any .any,[],0,0,[],5,1⟩
def rChr:RowM:=⟨cls 26 .any .any,[],0,0,[],8,1⟩
def rTxt:RowM:=⟨cls 27 .any .any,[],0,0,[],11,7⟩
def rNil:RowM:=⟨cls 28 .any .any,[],0,0,[],10,0⟩
def rTru:RowM:=⟨cls 29 .any .any,[],0,0,[],7,10⟩
def rFls:RowM:=⟨cls 30 .any .any,[],0,0,[],6,0⟩
def ownS:Nat→Nat
 |5=>2
 |8=>2
 |9=>2
 |7=>10
 |11=>9
 |_=>0
def rParen (m:Nat):RowM:=⟨cls 32 .any (.few 1),[(0,m)],0,0,[],m,ownS m⟩
def rNot (m:Nat):RowM:=⟨cls 33 .any (.few 1),[(0,m)],0,0,[],bif Nat.beq m 6 then 7 else 6,bif Nat.beq m 6 then 10 else 0⟩
def rPlus:RowM:=⟨cls 34 (.lit [43]) (.few 1),[(0,5)],0,0,[],5,2⟩
def rMinus:RowM:=⟨cls 34 (.lit [45]) (.few 1),[(0,5)],0,0,[1],5,3⟩
def bO (b:Bool):Nat:=bif b then 7 else 6
def bS (b:Bool):Nat:=bif b then 10 else 0
def rAnd (a b:Nat):RowM:=bif Nat.beq a 6 then⟨cls 35 (.lit [38]) (.few 2),[(0,6)],0,0,[],6,0⟩else⟨cls 35 (.lit [38]) (.few 2),[(0,7),(1,b)],0,0,[],b,bS (Nat.beq b 7)⟩
def rOr (a b:Nat):RowM:=bif Nat.beq a 7 then⟨cls 35 (.lit [79,82]) (.few 2),[(0,7)],0,0,[],7,10⟩else⟨cls 35 (.lit [79,82]) (.few 2),[(0,6),(1,b)],0,0,[],b,bS (Nat.beq b 7)⟩
def rInt (w:List Nat):RowM:=⟨cls 35 (.lit w) (.few 2),[(0,5),(1,5)],0,0,[7],5,3⟩
def rSet (w:List Nat):RowM:=⟨cls 35 (.lit w) (.few 2),[(0,9),(1,9)],0,0,[6],9,3⟩
def rAbs (b:Bool):RowM:=⟨cls 21 .any (.few 2),[(1,5)],0,1,bif b then[4,1]else[5],5,bif b then 3 else 2⟩
def rOdd (b:Bool):RowM:=⟨cls 21 .any (.few 2),[(1,5)],bif b then 2 else 1,2,[],bO b,bS b⟩
def rOrd (m:Nat):RowM:=⟨cls 21 .any (.few 2),[(1,m)],0,3,bif Nat.beq m 11 then[8]else[],5,bif Nat.beq m 11 then 2 else ownS m⟩
def rChrF:RowM:=⟨cls 21 .any (.few 2),[(1,5)],0,4,[],8,8⟩
def rLsl:RowM:=⟨cls 21 .any (.few 3),[(1,5),(2,5)],0,5,[2],5,3⟩
def rAsr:RowM:=⟨cls 21 .any (.few 3),[(1,5),(2,5)],0,6,[3],5,3⟩
def rowsM:List RowM:=[rNum,rChr,rTxt,rNil,rTru,rFls]++ms.map rParen++[rNot 6,rNot 7,rPlus,rMinus,rAnd 6 6,rAnd 7 6,rAnd 7 7,rOr 7 7,rOr 6 6,rOr 6 7,
 rInt [43],rInt [45],rInt [42],rInt [68,73,86],rInt [77,79,68],rSet [43],rSet [45],rSet [42],rSet [47],rAbs true,rAbs false,rOdd true,rOdd false]++[5,6,7,8,9,11].map rOrd++[rChrF,rLsl,rAsr]
def rowObj (p:Nat):Option Cls:=match builtsN[p]? with
 |some w=>some ⟨some 11,.lit w,.any,none,.any⟩
 |none=>none
def objRun (P:Program) (M:MS) (p:Nat):Bool:=match rowObj p with
 |some c=>tplRun P noK 3000 226 (M.hd++[absV M.x c]) (Nat.add M.x 60) (M.pre (stp M.x 0 0)++extT M.x c) (.ret (ptrV (M.proc p))) (M.pre (stp M.x 0 0)++extT M.x c)
 |none=>false
end
end Go.AM
namespace Go.AM
noncomputable section
variable {P:Program} {W:World}
def qnM (x i:Nat):Bool:=Nat.beq i (nid x 0)||Nat.beq i (nid x 1)||Nat.beq i (nid x 2)
def vn (n:Nat):Value:= .int .i64 ((n:Nat):Int)
structure MSok (M:MS):Prop where
 sub: ∀(σ:Nat→Option Nat) (v:Value),mapL (subV σ) (M.pre v)=M.pre (subV σ v)
 ok: ∀i d,i<3→d<2→okL (fun j=>Nat.blt j M.x) (qnM M.x) M.x (M.pre (stp M.x i d))=true
 mini: ∀i d j e,i<3→d<2→j<3→e<2→miniOk (qnM M.x) (M.pre (stp M.x i d)) (M.pre (stp M.x j e)) M.x=true
 chg: ∀i d j e,i<3→d<2→j<3→e<2→chgOk (M.pre (stp M.x i d)) M.hd (M.pre (stp M.x j e))=true
 w:Nat.blt M.w M.x=true
 sc:Nat.blt M.sc M.x=true
 proc: ∀p,p<23→Nat.blt (M.proc p) M.x=true
def NodeM (P:Program) (W:World) (M:MS) (f:FuncId) (v:Value) (k:Nat) (a:Ans):Prop:= ∀s,s+k≤600→NodeOk P W f (M.pre (vn s)) (M.pre (vn (s+k))) M.x M.hd v a
def realW (m v:Nat):Value:=
 match m with
 |5=>u32 v
 |8=>u32 v
 |9=>u32 v
 |7=>u32 1
 |_=>u32 0
def textR (m:Nat) (t:List UInt8):Value:=
 match m with
 |11=> .string ⟨t.toArray⟩
 |_=>emptyS
def datR (m v:Nat) (t:List UInt8):Ans:= .ret (datM m (realW m v) (textR m t))
structure GoodM (m v:Nat) (t:List UInt8):Prop where
 v:v<4294967296
 one:m=11→t.length=1
def exM (x:Nat) (D:Nat→Nat×List UInt8) (R1:Nat) (s:Nat→Nat):List (Nat×Loc):=exL x D R1 0++[(nid x 0,locW (s 0)),(nid x 1,locW (s 1)),(nid x 2,locW (s 2))]
def sigM (x:Nat) (lr lm:Loc) (N:Tr) (D:Nat→Nat×List UInt8) (R1:Nat) (s:Nat→Nat):Nat→Option Loc:=look (sigL x lr lm N (N.kids.take 3) (exM x D R1 s))
theorem nid_rng {x j:Nat} (hj:j<3):x+42≤nid x j∧nid x j<x+60:=by
 have e:nid x j=4*((x+43) / 4+j)+2:=rfl
 rw[e];omega
theorem nid_ne {x i j:Nat} (h:i≠j):nid x i≠nid x j:=by
 have e: ∀j,nid x j=4*((x+43) / 4+j)+2:=fun _=>rfl
 rw[e,e];omega
theorem nid_b {x j:Nat} :symB (nid x j)=700:=by
 have e:nid x j=4*((x+43) / 4+j)+2:=rfl
 rw[e]
 have h1:Nat.mod (4*((x+43) / 4+j)+2) 2=0:=by show(4*((x+43) / 4+j)+2) % 2=0;omega
 have h2:Nat.mod (4*((x+43) / 4+j)+2) 4=2:=by show(4*((x+43) / 4+j)+2) % 4=2;omega
 simp only[symB,h1,h2];rfl
section
variable {x:Nat} {lr lm:Loc} {N:Tr} {D:Nat→Nat×List UInt8} {R1:Nat} {s:Nat→Nat}
theorem sigM_old {n:Nat} {l:Loc} (h:sigY x lr lm N D R1 0 n=some l):sigM x lr lm N D R1 s n=some l:=by
 have e:sigL x lr lm N (N.kids.take 3) (exM x D R1 s)=sigL x lr lm N (N.kids.take 3) (exL x D R1 0)++[(nid x 0,locW (s 0)),(nid x 1,locW (s 1)),(nid x 2,locW (s 2))]:=by
  simp only[sigL,exM,List.cons_append,List.append_assoc]
 rw[sigM,e,look_app]
 rw[sigY]at h
 rw[h]
theorem sigM_nid {j:Nat} (hj:j<3):sigM x lr lm N D R1 s (nid x j)=some (locW (s j)):=by
 have hr:=nid_rng (x:=x) hj
 have e:sigL x lr lm N (N.kids.take 3) (exM x D R1 s)=sigL x lr lm N (N.kids.take 3) (exL x D R1 0)++[(nid x 0,locW (s 0)),(nid x 1,locW (s 1)),(nid x 2,locW (s 2))]:=by
  simp only[sigL,exM,List.cons_append,List.append_assoc]
 rw[sigM,e,look_app]
 have hn:look (sigL x lr lm N (N.kids.take 3) (exL x D R1 0)) (nid x j)=none:=by
  simp only[sigL,look]
  rw[if_neg (by omega),if_neg (by omega),look_skip (by omega)]
  have hk:(N.kids.take 3).length≤3:=take3
  rw[kids_out fun i hi=>by omega]
  simp only[exL,look]
  repeat (first|rw[if_neg (by omega)]|rfl)
 rw[hn]
 have h3:j=0∨j=1∨j=2:=by omega
 have n01:=nid_ne (x:=x) (i:=1) (j:=0) (by omega)
 have n02:=nid_ne (x:=x) (i:=2) (j:=0) (by omega)
 have n12:=nid_ne (x:=x) (i:=2) (j:=1) (by omega)
 rcases h3 with rfl|rfl|rfl
 ·simp only[look];rw[if_pos trivial]
 ·simp only[look];rw[if_neg n01,if_pos trivial]
 ·simp only[look];rw[if_neg n02,if_neg n12,if_pos trivial]
theorem exM_range: ∀q∈exM x D R1 s,(x≤q.1∧q.1<x+60)∧q.2.blk=0:=by
 intro q hq
 simp only[exM,List.mem_append,List.mem_cons,List.mem_nil_iff,or_false]at hq
 rcases hq with h|h|h|h
 ·exact ex_range q h
 ·have:=nid_rng (x:=x) (j:=0) (by omega);rw[h];exact⟨⟨by simp only[];omega,by simp only[];omega⟩,rfl⟩
 ·have:=nid_rng (x:=x) (j:=1) (by omega);rw[h];exact⟨⟨by simp only[];omega,by simp only[];omega⟩,rfl⟩
 ·have:=nid_rng (x:=x) (j:=2) (by omega);rw[h];exact⟨⟨by simp only[];omega,by simp only[];omega⟩,rfl⟩
theorem qnM_some {i:Nat} (h:qnM x i=true): ∃j,j<3∧i=nid x j:=by
 simp only[qnM,Bool.or_eq_true,Nat.beq_eq]at h
 rcases h with(h|h)|h
 ·exact⟨0,by omega,h⟩
 ·exact⟨1,by omega,h⟩
 ·exact⟨2,by omega,h⟩
theorem subV_mk {σ:Nat→Option Nat} {m id d n:Nat} (h1:symId m=id) (h2:symCode m=0) (h3:symOff m=d) (hn:σ id=some n):subV σ (.chan (some m))=vn (n+d):=by
 have hk:symK 0=some .i64:=rfl
 simp only[subV,h1,h2,h3,hn,hk]
 rfl
theorem subV_stp {i d:Nat} (hi:i<3) (hd:d<2):subV (numOf (sigM x lr lm N D R1 s)) (stp x i d)=vn (s i+d):=by
 obtain⟨a,b,c⟩:=opqMk (id:=nid x i) (code:=0) (off:=d) (by omega) (by omega)
 unfold stp
 refine subV_mk a b c ?_
 simp only[numOf,sigM_nid hi]
 rfl
end
end
end Go.AM
namespace Go.AM
noncomputable section
variable {P:Program} {W:World}
theorem minisK_ok {w0:Start} {f:FuncId} {nx:Nat} : ∀ {es:List (List (Nat×AObj)×List (Nat×AObj)×List Value×Ans)},(∀e∈es,KOk P w0 (miniK e.1 e.2.1 nx e.2.2.1 e.2.2.2) f)→KOk P w0 (minisK nx es) f
 |[],_=>by intro cs args s r h;cases h
 |(pre,post,args,a)::es,h=>by
  intro cs l s r hF
  simp only[minisK]at hF
  cases hf:miniK pre post nx args a l s with
  |some r'=>rw[hf]at hF;simp only[Option.some.injEq]at hF;subst hF;exact h _ List.mem_cons_self cs l s _ hf
  |none=>rw[hf]at hF;exact minisK_ok (fun e he=>h e (List.mem_cons_of_mem _ he)) cs l s r hF
section
variable {m v i off:Nat} {t:List UInt8}
theorem wordM_cases (i off:Nat) (m v:Nat):(wordM i off m=opq i 3 off∧realW m v=u32 v)∨(wordM i off m=opq i 3 0∧realW m v=u32 v)∨(∃n,wordM i off m=u32 n∧realW m v=u32 n):=by
 by_cases h:m=5∨m=8∨m=9∨m=7
 ·rcases h with rfl|rfl|rfl|rfl
  ·exact .inl ⟨rfl,rfl⟩
  ·exact .inr (.inl ⟨rfl,rfl⟩)
  ·exact .inr (.inl ⟨rfl,rfl⟩)
  ·exact .inr (.inr ⟨1,rfl,rfl⟩)
 ·refine .inr (.inr ⟨0,?_,?_⟩)
  ·unfold wordM;split<;>first|rfl|omega
  ·unfold realW;split<;>first|rfl|omega
theorem wordM_lit {σ:Nat→Option Loc} (hg:GoodM m v t) (hi:σ i=some (locW v)) (ho:off<3) (hp:off=0∨off=1∧v % 2=0∨off=2∧v % 2=1):litV σ (wordM i off m)=realW m v:=by
 rcases wordM_cases i off m v with⟨e1,e2⟩|⟨e1,e2⟩|⟨n,e1,e2⟩
 ·rw[e1,e2];exact lit_opq (by omega) (by omega) rfl hi (d_par hg.v hp)
 ·rw[e1,e2];exact lit_opq (by omega) (by omega) rfl hi (d_par hg.v (.inl rfl))
 ·rw[e1,e2];rfl
theorem wordM_tells {ι:Inj} (hg:GoodM m v t) (hi:ι i=some (locW v)) (ho:off<3) (hp:off=0∨off=1∧v % 2=0∨off=2∧v % 2=1):Tells ι (wordM i off m) (realW m v):=by
 rcases wordM_cases i off m v with⟨e1,e2⟩|⟨e1,e2⟩|⟨n,e1,e2⟩
 ·rw[e1,e2];exact tells_opq (by omega) (by omega) rfl (by omega) hi (d_par hg.v hp)
 ·rw[e1,e2];exact tells_opq (by omega) (by omega) rfl (by omega) hi (d_par hg.v (.inl rfl))
 ·rw[e1,e2];exact tells_int _ _
theorem wordM_fine {L:List (Nat×Loc)} {x:Nat} (hg:GoodM m v t) (hi:look L i=some (locW v)) (ho:off<3) (hp:off=0∨off=1∧v % 2=0∨off=2∧v % 2=1):Fine L x (wordM i off m):=by
 rcases wordM_cases i off m v with⟨e1,_⟩|⟨e1,_⟩|⟨n,e1,_⟩
 ·rw[e1];exact fine_opq (by omega) (by omega) rfl rfl hi (d_par hg.v hp)
 ·rw[e1];exact fine_opq (by omega) (by omega) rfl rfl hi (d_par hg.v (.inl rfl))
 ·rw[e1];exact fine_int _ _
theorem textM_fine {L:List (Nat×Loc)} {x:Nat} (hg:GoodM m v t) (hi:look L i=some (locS t)):Fine L x (textM i m):=by
 by_cases h1:m=11
 ·subst h1;exact fine_opq (by omega) (by omega) rfl rfl hi (d_len (hg.one rfl))
 ·have e1:textM i m=emptyS:=by unfold textM;split<;>first|rfl|omega
  rw[e1];exact fine_str _
theorem textM_lit {σ:Nat→Option Loc} (hg:GoodM m v t) (hi:σ i=some (locS t)):litV σ (textM i m)=textR m t:=by
 by_cases h1:m=11
 ·subst h1;exact lit_opq (by omega) (by omega) rfl hi (d_len (hg.one rfl))
 ·have e1:textM i m=emptyS:=by unfold textM;split<;>first|rfl|omega
  have e2:textR m t=emptyS:=by unfold textR;split<;>first|rfl|omega
  rw[e1,e2];rfl
theorem textM_tells {ι:Inj} (hg:GoodM m v t) (hi:ι i=some (locS t)):Tells ι (textM i m) (textR m t):=by
 by_cases h1:m=11
 ·subst h1;exact tells_opq (by omega) (by omega) rfl (by omega) hi (d_len (hg.one rfl))
 ·have e1:textM i m=emptyS:=by unfold textM;split<;>first|rfl|omega
  have e2:textR m t=emptyS:=by unfold textR;split<;>first|rfl|omega
  rw[e1,e2];exact tells_str _
theorem dat_lit {σ:Nat→Option Loc} {v1 t1 v2 t2:Value} (h1:litV σ v1=v2) (h2:litV σ t1=t2):(Ans.ret (datM m v1 t1)).lit σ= .ret (datM m v2 t2):=by
 simp only[Ans.lit,datM,litA]
 simp only[List.map_cons,List.map_nil,h1,h2]
 rfl
theorem dat_fine {L:List (Nat×Loc)} {x:Nat} {v t:Value} (hv:Fine L x v) (ht:Fine L x t):(Ans.ret (datM m v t)).ok (fun i=>Nat.blt i x) (someL L)=true∧(Ans.ret (datM m v t)).good (look L):=by
 refine⟨?_,?_⟩
 ·simp only[Ans.ok,datM,okA,List.all_cons,List.all_nil,Bool.and_true,Bool.and_eq_true]
  exact⟨rfl,hv.ok,rfl,ht.ok⟩
 ·simp only[Ans.good,datM,goodA]
  intro y hy
  simp only[List.mem_cons,List.mem_nil_iff,or_false]at hy
  rcases hy with rfl|rfl|rfl|rfl
  ·trivial
  ·exact hv.good
  ·trivial
  ·exact ht.good
theorem dat_tells {ι:Inj} {v t v' t':Value} (hv:Tells ι v v') (ht:Tells ι t t'):Tells ι (datM m v t) (datM m v' t'):=
 TellsL.agg (.cons (tells_int _ _) (.cons hv (.cons ⟨.nilptr,fun _ h=>h.nilptr_inv⟩ (.cons ht .nil))))
end
section
variable {M:MS} {N:Tr} {D:Nat→Nat×List UInt8} {R1:Nat} {s:Nat→Nat} {lr lm:Loc} {r:RowM}
theorem sigM_v {j:Nat} (hj:j≤2):sigM M.x lr lm N D R1 s (idV M.x j)=some (locW (D j).1):=sigM_old (sig_v hj)
theorem sigM_t {j:Nat} (hj:j≤2):sigM M.x lr lm N D R1 s (idT M.x j)=some (locS (D j).2):=sigM_old (sig_t hj)
theorem sigM_7:sigM M.x lr lm N D R1 s (Nat.add M.x 7)=some (locW R1):=sigM_old sig_7
theorem hd_ids (hM:MSok M):M.hd.all (idsV (fun i=>Nat.blt i M.x) 60)=true:=by
 have h1:idsV (fun i=>Nat.blt i M.x) 60 (ptrV M.w)=true:=hM.w
 have h2:idsV (fun i=>Nat.blt i M.x) 60 (ptrV M.sc)=true:=hM.sc
 simp only[MS.hd,List.all_cons,List.all_nil,h1,h2,Bool.and_true]
theorem bndM (hs: ∀j,j<3→s j≤600): ∀i l,qnM M.x i=true→sigM M.x lr lm N D R1 s i=some l→l.base<symB i:=by
 intro i l h1 h2
 obtain⟨j,hj,rfl⟩:=qnM_some h1
 rw[sigM_nid hj]at h2
 cases h2
 rw[nid_b]
 have:=hs j hj
 show s j<700
 omega
theorem qnM_l {i:Nat} (h:qnM M.x i=true):someL (sigL M.x lr lm N (N.kids.take 3) (exM M.x D R1 s)) i=true:=by
 obtain⟨j,hj,rfl⟩:=qnM_some h
 have:=sigM_nid (x:=M.x) (lr:=lr) (lm:=lm) (N:=N) (D:=D) (R1:=R1) (s:=s) hj
 unfold someL
 unfold sigM at this
 rw[this];rfl
theorem pre_sub (hM:MSok M) {i d:Nat} (hi:i<3) (hd:d<2):mapL (subV (numOf (sigM M.x lr lm N D R1 s))) (M.pre (stp M.x i d))=M.pre (vn (s i+d)):=by
 rw[hM.sub,subV_stp hi hd]
theorem mini_kid (hM:MSok M) (hs: ∀j,j<3→s j≤600) {g:FuncId} {i d i' d' j:Nat} {k:Tr} {a:Ans} (hi:i<3) (hd:d<2) (hi':i'<3) (hd':d'<2) (hkj:(N.kids.take 3)[j]? =some k) (hwk:Wf W k)
 (hN:NodeOk P W g (M.pre (vn (s i+d))) (M.pre (vn (s i'+d'))) M.x M.hd k.val (a.lit (sigM M.x lr lm N D R1 s))) (hans:a.ok (fun i=>Nat.blt i M.x) (someL (sigL M.x lr lm N (N.kids.take 3) (exM M.x D R1 s)))=true) (hgood:a.good (sigM M.x lr lm N D R1 s)):
 KOk P (.at W (sigM M.x lr lm N D R1 s)) (miniK (M.pre (stp M.x i d)) (M.pre (stp M.x i' d')) M.x (M.hd++[kidV M.x j]) a) g:=by
 refine miniK_ok (q:=someL (sigL M.x lr lm N (N.kids.take 3) (exM M.x D R1 s))) (qn:=qnM M.x) (v:=k.val) ?_ (fun i hi=>someL_spec hi) (fun i hi=>qnM_l hi) (fun i l h=>(sig_range take3 (fun q hq=>(exM_range q hq).1) i l h).1) (bndM hs)
  (hM.mini i d i' d' hi hd hi' hd') (hM.chg i d i' d' hi hd hi' hd') (hd_ids hM) hans hgood (fun ι hp y hy=>t_node_eq (sig_kid hkj) hwk hp hy)
 rw[pre_sub hM hi hd,pre_sub hM hi' hd']
 exact hN
structure KidOk (P:Program) (W:World) (M:MS) (N:Tr) (D:Nat→Nat×List UInt8) (s:Nat→Nat) (d:Nat) (i:Nat) (q:Nat×Nat):Prop where
 lt:i<2
 j:q.1≤2
 good:GoodM q.2 (D q.1).1 (D q.1).2
 node: ∀k,N.kids[q.1]? =some k→NodeOk P W 143 (M.pre (vn (s i+ofs d i))) (M.pre (vn (s (i+1)))) M.x M.hd k.val (datR q.2 (D q.1).1 (D q.1).2)
theorem exprEs_ok (hM:MSok M) (hs: ∀j,j<3→s j≤600) (hw:Wf W N) (hf:r.c.Fits N) (hpar:r.par<3) (hp1:r.par=0∨r.par=1∧(D 1).1 % 2=0∨r.par=2∧(D 1).1 % 2=1): ∀ {l:List (Nat×Nat)} {i:Nat},
 (∀j q,l[j]? =some q→KidOk P W M N D s (isC r) (i+j) q∧q.1<told r.c.kids)→ ∀e∈exprEs M r l i,KOk P (.at W (sigM M.x lr lm N D R1 s)) (miniK e.1 e.2.1 M.x e.2.2.1 e.2.2.2) 143
 |[],_,_,e,he=>by cases he
 |q::l,i,h,e,he=>by
  simp only[exprEs]at he
  rcases List.mem_cons.1 he with rfl|he
  ·obtain⟨hk,ht⟩:=h 0 q rfl
   have hi2:i<2:=hk.lt
   obtain⟨k,h1,h2⟩:=told_kid hf ht
   have hoff:offK r q.1<3∧(offK r q.1=0∨offK r q.1=1∧(D q.1).1 % 2=0∨offK r q.1=2∧(D q.1).1 % 2=1):=by
    unfold offK
    cases hb:Nat.beq q.1 1 with
    |true=>have:=Nat.eq_of_beq_eq_true hb;rw[this];exact⟨hpar,hp1⟩
    |false=>exact⟨Nat.zero_lt_succ _,.inl rfl⟩
   have hF:=dat_fine (L:=sigL M.x lr lm N (N.kids.take 3) (exM M.x D R1 s)) (x:=M.x) (m:=q.2) (wordM_fine hk.good (sigM_v hk.j) hoff.1 hoff.2) (textM_fine hk.good (sigM_t hk.j))
   have hof:ofs (isC r) i<2:=by
    unfold ofs isC
    cases Nat.beq i 0<;>cases Nat.beq r.p 0<;>simp
   refine mini_kid hM hs (i':=Nat.succ i) (by omega) hof (by show i+1<3;omega) (by omega) h2 (hw.kid (List.mem_of_getElem? h1)) ?_ hF.1 hF.2
   have hn:=hk.node k h1
   have hl:(kidD M.x r q).lit (sigM M.x lr lm N D R1 s)=datR q.2 (D q.1).1 (D q.1).2:=dat_lit (wordM_lit hk.good (sigM_v hk.j) hoff.1 hoff.2) (textM_lit hk.good (sigM_t hk.j))
   rw[hl]
   exact hn
  ·exact exprEs_ok hM hs hw hf hpar hp1 (fun j q hq=>by have:=h (j+1) q (by simpa using hq);rw[show i+(j+1)=Nat.succ i+j by show _=i+1+j;omega]at this;exact this) e he
end
end
end Go.AM
namespace Go.AM
noncomputable section
variable {P:Program} {W:World}
section
variable {M:MS} {N:Tr} {D:Nat→Nat×List UInt8} {R1:Nat} {s:Nat→Nat} {lr lm:Loc} {r:RowM}
def srcMR (N:Tr) (D:Nat→Nat×List UInt8) (R1:Nat) (r:RowM):Nat→Nat
 |1=>N.value
 |2=>(D (kq0 r).1).1
 |3=>R1
 |8=>(D (kq0 r).1).1 % 256
 |10=>1
 |_=>0
def srcTMR (N:Tr) (D:Nat→Nat×List UInt8) (r:RowM):Nat→List UInt8
 |7=>N.name
 |9=>(D (kq0 r).1).2
 |_=>[]
theorem srcM_ok (hw:Wf W N) (hD: ∀j,j≤2→(D j).1<4294967296) (h1:R1<4294967296) (hq:(kq0 r).1≤2) (hpar:r.par<3) (hp1:r.par=0∨r.par=1∧(D 1).1 % 2=0∨r.par=2∧(D 1).1 % 2=1) (src:Nat):
 litV (sigM M.x lr lm N D R1 s) (srcM M.x r src)=u32 (srcMR N D R1 r src)∧Fine (sigL M.x lr lm N (N.kids.take 3) (exM M.x D R1 s)) M.x (srcM M.x r src):=by
 have hown:sigM M.x lr lm N D R1 s (Nat.add M.x 3)=some (locW N.value):=(sig_own (x:=M.x) (lr:=lr) (lm:=lm) (N:=N) (kids:=N.kids.take 3) (ex:=exM M.x D R1 s)).value
 have hv:=sigM_v (M:=M) (lr:=lr) (lm:=lm) (N:=N) (D:=D) (R1:=R1) (s:=s) hq
 have h7:=sigM_7 (M:=M) (lr:=lr) (lm:=lm) (N:=N) (D:=D) (R1:=R1) (s:=s)
 have hoff:offK r (kq0 r).1<3∧(offK r (kq0 r).1=0∨offK r (kq0 r).1=1∧(D (kq0 r).1).1 % 2=0∨offK r (kq0 r).1=2∧(D (kq0 r).1).1 % 2=1):=by
  unfold offK
  cases hb:Nat.beq (kq0 r).1 1 with
  |true=>have:=Nat.eq_of_beq_eq_true hb;rw[this];exact⟨hpar,hp1⟩
  |false=>exact⟨Nat.zero_lt_succ _,.inl rfl⟩
 by_cases e1:src=1
 ·subst e1;exact⟨lit_opq (by omega) (by omega) rfl hown (d_value hw.value),fine_opq (by omega) (by omega) rfl rfl hown (d_value hw.value)⟩
 by_cases e2:src=2
 ·subst e2;exact⟨lit_opq (by omega) (by omega) rfl hv (d_par (hD _ hq) hoff.2),fine_opq (by omega) (by omega) rfl rfl hv (d_par (hD _ hq) hoff.2)⟩
 by_cases e3:src=3
 ·subst e3;exact⟨lit_opq (by omega) (by omega) rfl h7 (d_value h1),fine_opq (by omega) (by omega) rfl rfl h7 (d_value h1)⟩
 by_cases e8:src=8
 ·subst e8;exact⟨lit_opq (by omega) (by omega) rfl hv d_code6,fine_opq (by omega) (by omega) rfl rfl hv d_code6⟩
 by_cases e10:src=10
 ·subst e10;exact⟨rfl,fine_int _ _⟩
 ·have ev:srcM M.x r src=u32 0:=by unfold srcM;split<;>first|rfl|omega
  have er:srcMR N D R1 r src=0:=by unfold srcMR;split<;>first|rfl|omega
  rw[ev,er];exact⟨rfl,fine_int _ _⟩
theorem srcTM_ok (hq:(kq0 r).1≤2) (src:Nat) (h9:src=9→(D (kq0 r).1).2.length=1):
 litV (sigM M.x lr lm N D R1 s) (srcTM M.x r src)=strV (srcTMR N D r src)∧Fine (sigL M.x lr lm N (N.kids.take 3) (exM M.x D R1 s)) M.x (srcTM M.x r src):=by
 have hown:sigM M.x lr lm N D R1 s (Nat.add M.x 2)=some (locS N.name):=(sig_own (x:=M.x) (lr:=lr) (lm:=lm) (N:=N) (kids:=N.kids.take 3) (ex:=exM M.x D R1 s)).name
 have ht:=sigM_t (M:=M) (lr:=lr) (lm:=lm) (N:=N) (D:=D) (R1:=R1) (s:=s) hq
 by_cases e7:src=7
 ·subst e7;exact⟨lit_opq (by omega) (by omega) rfl hown (d_name _),fine_opq (by omega) (by omega) rfl rfl hown (d_name _)⟩
 by_cases e9:src=9
 ·subst e9;exact⟨lit_opq (by omega) (by omega) rfl ht (d_len (h9 rfl)),fine_opq (by omega) (by omega) rfl rfl ht (d_len (h9 rfl))⟩
 ·have ev:srcTM M.x r src=emptyS:=by unfold srcTM;split<;>first|rfl|omega
  have er:srcTMR N D r src=[]:=by unfold srcTMR;split<;>first|rfl|omega
  rw[ev,er];exact⟨rfl,fine_str _⟩
theorem rowM_ok (hmix:P.follows .mixedOrders=true) (hM:MSok M) (hs: ∀j,j<3→s j≤600) (hw:Wf W N) (hr:RowAt W N lr lm) (hf:r.c.Fits N) (hD: ∀j,j≤2→(D j).1<4294967296) (h1:R1<4294967296)
 (hq:(kq0 r).1≤2) (hpar:r.par<3) (hp1:r.par=0∨r.par=1∧(D 1).1 % 2=0∨r.par=2∧(D 1).1 % 2=1) (h9:r.src=9→(D (kq0 r).1).2.length=1)
 (hks: ∀j q,r.ks[j]? =some q→KidOk P W M N D s (isC r) j q∧q.1<told r.c.kids) (hlen:r.ks.length≤2)
 (hobj:r.p≠0→r.p≤23∧0<told r.c.kids∧ ∀k,N.kids[0]? =some k→NodeOk P W 226 (M.pre (vn (s 0+1))) (M.pre (vn (s 0+1))) M.x M.hd k.val (.ret (ptrV (M.proc (Nat.pred r.p)))))
 (hfn: ∀t∈fnEs M.x r r.fn,PureCall P (.at W (sigM M.x lr lm N D R1 s)) t.1 t.2.1 t.2.2) (hrun:rowRunM P M r=true):
 NodeOk P W 143 (M.pre (vn (s 0))) (M.pre (vn (match r.ks with|[]=>s 0+isC r|_=>s r.ks.length))) M.x M.hd N.val (.ret (datM r.m (u32 (srcMR N D R1 r r.src)) (strV (srcTMR N D r r.src)))):=by
 have hK:KnownOk P (knownM M r) (.at W (sigM M.x lr lm N D R1 s)):=by
  intro g F hF
  unfold knownM at hF
  cases hb:Nat.beq g 143 with
  |true=>
   rw[hb]at hF;simp only[cond_true,Option.some.injEq]at hF;subst hF
   rw[Nat.eq_of_beq_eq_true hb]
   exact minisK_ok (exprEs_ok hM hs hw hf hpar hp1 fun j q hq=>by rw[Nat.zero_add];exact hks j q hq)
  |false=>
   rw[hb]at hF;simp only[cond_false]at hF
   cases hb2:Nat.beq g 226 with
   |true=>
    rw[hb2]at hF;simp only[cond_true,Option.some.injEq]at hF;subst hF
    rw[Nat.eq_of_beq_eq_true hb2]
    refine minisK_ok fun e he=>?_
    unfold objEs at he
    cases hp:Nat.beq r.p 0 with
    |true=>rw[hp]at he;cases he
    |false=>
     rw[hp]at he;simp only[cond_false,List.mem_singleton]at he;subst he
     have hp0:r.p≠0:=fun h=>by rw[h]at hp;cases hp
     obtain⟨o1,o2,o3⟩:=hobj hp0
     obtain⟨k,k1,k2⟩:=told_kid hf o2
     have hlt:Nat.blt (M.proc (Nat.pred r.p)) M.x=true:=hM.proc _ (by show r.p - 1<23;omega)
     refine mini_kid hM hs (by omega) (by omega) (by omega) (by omega) k2 (hw.kid (List.mem_of_getElem? k1)) (o3 k k1) ?_ trivial
     simp only[Ans.ok,okA,okC,ptrV,idsV];exact hlt
   |false=>
    rw[hb2]at hF;simp only[cond_false]at hF
    exact withE_ok noK_ok hfn g F hF
 obtain⟨v1,v2⟩:=srcM_ok (M:=M) (lr:=lr) (lm:=lm) (N:=N) (D:=D) (R1:=R1) (s:=s) (r:=r) hw hD h1 hq hpar hp1 r.src
 obtain⟨t1,t2⟩:=srcTM_ok (M:=M) (lr:=lr) (lm:=lm) (N:=N) (D:=D) (R1:=R1) (s:=s) (r:=r) hq r.src h9
 have hF:=dat_fine (m:=r.m) v2 t2
 have hC:isC r<2:=by unfold isC;cases Nat.beq r.p 0<;>simp
 have hend: ∃i d,i<3∧d<2∧endM M r=stp M.x i d∧(match r.ks with|[]=>s 0+isC r|_=>s r.ks.length)=s i+d:=by
  unfold endM
  cases hk:r.ks with
  |nil=>exact⟨0,isC r,by omega,hC,rfl,rfl⟩
  |cons a l=>exact⟨(a::l).length,0,by rw[←hk];omega,by omega,rfl,rfl⟩
 obtain⟨i,d,hi,hd,he1,he2⟩:=hend
 have hrun':tplRun P (knownM M r) 3000 143 (M.hd++[absV M.x r.c]) (M.x+60) (M.pre (stp M.x 0 0)++extT M.x r.c) (ansM M r) (M.pre (stp M.x i d)++extT M.x r.c)=true:=by
  have:=hrun
  unfold rowRunM at this
  rw[he1]at this
  exact this
 have:=node_ok (P:=P) (W:=W) (K:=knownM M r) (f:=143) (x:=M.x) (n:=3000) (lr:=lr) (lm:=lm) (N:=N) (kids:=N.kids.take 3) (ex:=exM M.x D R1 s) (pre:=M.pre (stp M.x 0 0)) (post:=M.pre (stp M.x i d)) (head:=M.hd) (qn:=qnM M.x) (c:=r.c)
  (cs:=kidsC M.x (told r.c.kids)) (m:=told r.c.kids) (ans:=ansM M r) hmix hw hr hf take3 exM_range hK
  (by rw[←ext_eq];exact hrun') (fun z hz=>fit3 hw hf) (fun i h=>qnM_l h) (bndM hs) (hM.ok 0 0 (by omega) (by omega)) (hM.ok i d hi hd) (hd_ids hM) hF.1
 have e1:mapL (subV (numOf (look (sigL M.x lr lm N (N.kids.take 3) (exM M.x D R1 s))))) (M.pre (stp M.x 0 0))=M.pre (vn (s 0+0)):=pre_sub hM (by omega) (by omega)
 have e2:mapL (subV (numOf (look (sigL M.x lr lm N (N.kids.take 3) (exM M.x D R1 s))))) (M.pre (stp M.x i d))=M.pre (vn (s i+d)):=pre_sub hM hi hd
 have e3:(ansM M r).lit (look (sigL M.x lr lm N (N.kids.take 3) (exM M.x D R1 s)))= .ret (datM r.m (u32 (srcMR N D R1 r r.src)) (strV (srcTMR N D r r.src))):=dat_lit v1 t1
 rw[e1,e2,e3]at this
 rw[he2]
 exact this
end
end
end Go.AM
namespace Go.AM
noncomputable section
variable {P:Program} {W:World}
section
variable {M:MS} {N:Tr} {lr lm:Loc} {r:RowM}
structure RowAsk (P:Program) (W:World) (M:MS) (N:Tr) (r:RowM) (D:Nat→Nat×List UInt8) (R1:Nat):Prop where
 dat: ∀j,j≤2→(D j).1<4294967296
 r1:R1<4294967296
 q:(kq0 r).1≤2
 par:r.par<3
 par1:r.par=0∨r.par=1∧(D 1).1 % 2=0∨r.par=2∧(D 1).1 % 2=1
 s9:r.src=9→(D (kq0 r).1).2.length=1
 obj:r.p≠0→r.p≤23∧0<told r.c.kids∧ ∀k,N.kids[0]? =some k→NodeM P W M 226 k.val 0 (.ret (ptrV (M.proc (Nat.pred r.p))))
 fn: ∀(lr lm:Loc) (s:Nat→Nat),RowAt W N lr lm→ ∀t∈fnEs M.x r r.fn,PureCall P (.at W (sigM M.x lr lm N D R1 s)) t.1 t.2.1 t.2.2
def ansR (N:Tr) (D:Nat→Nat×List UInt8) (R1:Nat) (r:RowM):Ans:= .ret (datM r.m (u32 (srcMR N D R1 r r.src)) (strV (srcTMR N D r r.src)))
theorem obj_at {M:MS} {k:Tr} {a:Ans} (h:NodeM P W M 226 k.val 0 a) {s:Nat} (hs:s≤600):NodeOk P W 226 (M.pre (vn s)) (M.pre (vn s)) M.x M.hd k.val a:=h s (by omega)
theorem row0 {D:Nat→Nat×List UInt8} {R1:Nat} (hmix:P.follows .mixedOrders=true) (hM:MSok M) (h0:0<W.heap.size) (hw:Wf W N) (hf:r.c.Fits N) (hA:RowAsk P W M N r D R1) (hk:r.ks=[]) (hp:r.p=0) (hrun:rowRunM P M r=true):NodeM P W M 143 N.val 0 (ansR N D R1 r):=by
 obtain⟨lr,lm,hr⟩:=rowAt hw h0
 intro s hs
 have hC:isC r=0:=by unfold isC;rw[hp];rfl
 have:=rowM_ok (s:=fun _=>s) hmix hM (fun j hj=>by omega) hw hr hf hA.dat hA.r1 hA.q hA.par hA.par1 hA.s9 (fun j q hq=>by rw[hk]at hq;simp at hq) (by rw[hk];simp) (fun h=>absurd hp h) (hA.fn lr lm _ hr) hrun
 rw[hk,hC]at this
 exact this
theorem row1 {D:Nat→Nat×List UInt8} {R1:Nat} {j m k:Nat} {K:Tr} (hmix:P.follows .mixedOrders=true) (hM:MSok M) (h0:0<W.heap.size) (hw:Wf W N) (hf:r.c.Fits N) (hA:RowAsk P W M N r D R1) (hk:r.ks=[(j,m)]) (hj:j<told r.c.kids) (hj2:j≤2) (hK:N.kids[j]? =some K)
 (hg:GoodM m (D j).1 (D j).2) (hN:NodeM P W M 143 K.val k (datR m (D j).1 (D j).2)) (hrun:rowRunM P M r=true):NodeM P W M 143 N.val (isC r+k) (ansR N D R1 r):=by
 obtain⟨lr,lm,hr⟩:=rowAt hw h0
 intro s hs
 have hC:isC r≤1:=by unfold isC;cases Nat.beq r.p 0<;>simp
 have:=rowM_ok (s:=fun i=>if i=0 then s else s+isC r+k) hmix hM (fun i _=>by by_cases h:i=0<;>simp only[h,if_true,if_false]<;>omega) hw hr hf hA.dat hA.r1 hA.q hA.par hA.par1 hA.s9 (fun i q hq=>by
  rw[hk]at hq
  cases i with
  |zero=>
   simp only[List.getElem?_cons_zero,Option.some.injEq]at hq;subst hq
   refine⟨⟨by omega,hj2,hg,fun k' hk'=>?_⟩,hj⟩
   rw[hK]at hk';cases hk'
   have h:=hN (s+isC r) (by omega)
   rw[show ofs (isC r) 0=isC r from rfl]
   rw[if_pos rfl,if_neg (by omega)]
   exact h
  |succ i=>simp at hq) (by rw[hk];simp) (fun h=>by
  obtain⟨a,b,c⟩:=hA.obj h
  exact⟨a,b,fun k' hk'=>by rw[if_pos rfl];exact obj_at (c k' hk') (by
   have:isC r=1:=by { unfold isC;cases hb:Nat.beq r.p 0 with|true=>exact absurd (Nat.eq_of_beq_eq_true hb) h|false=>rfl }
   omega)⟩) (hA.fn lr lm _ hr) hrun
 rw[hk]at this
 simp only[if_true,List.length_singleton]at this
 rw[if_neg (by omega),Nat.add_assoc]at this
 exact this
theorem row2 {D:Nat→Nat×List UInt8} {R1:Nat} {j m k j' m' k':Nat} {K K':Tr} (hmix:P.follows .mixedOrders=true) (hM:MSok M) (h0:0<W.heap.size) (hw:Wf W N) (hf:r.c.Fits N) (hA:RowAsk P W M N r D R1) (hk:r.ks=[(j,m),(j',m')]) (hj:j<told r.c.kids) (hj2:j≤2) (hK:N.kids[j]? =some K)
 (hg:GoodM m (D j).1 (D j).2) (hN:NodeM P W M 143 K.val k (datR m (D j).1 (D j).2)) (hj':j'<told r.c.kids) (hj2':j'≤2) (hK':N.kids[j']? =some K') (hg':GoodM m' (D j').1 (D j').2) (hN':NodeM P W M 143 K'.val k' (datR m' (D j').1 (D j').2)) (hrun:rowRunM P M r=true):
 NodeM P W M 143 N.val (isC r+k+k') (ansR N D R1 r):=by
 obtain⟨lr,lm,hr⟩:=rowAt hw h0
 intro s hs
 have hC:isC r≤1:=by unfold isC;cases Nat.beq r.p 0<;>simp
 have:=rowM_ok (s:=fun i=>if i=0 then s else if i=1 then s+isC r+k else s+isC r+k+k') hmix hM (fun i _=>by
  by_cases h:i=0
  ·simp only[h,if_true];omega
  ·by_cases h':i=1
   ·simp only[h',if_true];rw[if_neg (by omega)];omega
   ·simp only[h,h',if_false];omega) hw hr hf hA.dat hA.r1 hA.q hA.par hA.par1 hA.s9 (fun i q hq=>by
  rw[hk]at hq
  cases i with
  |zero=>
   simp only[List.getElem?_cons_zero,Option.some.injEq]at hq;subst hq
   refine⟨⟨by omega,hj2,hg,fun k1 hk1=>?_⟩,hj⟩
   rw[hK]at hk1;cases hk1
   have h:=hN (s+isC r) (by omega)
   rw[show ofs (isC r) 0=isC r from rfl]
   rw[if_pos rfl,if_neg (by omega),if_pos rfl]
   exact h
  |succ i=>
   cases i with
   |zero=>
    simp only[List.getElem?_cons_succ,List.getElem?_cons_zero,Option.some.injEq]at hq;subst hq
    refine⟨⟨by omega,hj2',hg',fun k1 hk1=>?_⟩,hj'⟩
    rw[hK']at hk1;cases hk1
    have h:=hN' (s+isC r+k) (by omega)
    have ho:ofs (isC r) (0+1)=0:=rfl
    rw[ho]
    rw[if_neg (by omega),if_pos (by omega),if_neg (by omega),if_neg (by omega),Nat.add_zero]
    exact h
   |succ i=>simp at hq) (by rw[hk];simp) (fun h=>by
  obtain⟨a,b,c⟩:=hA.obj h
  exact⟨a,b,fun k1 hk1=>by rw[if_pos rfl];exact obj_at (c k1 hk1) (by
   have:isC r=1:=by { unfold isC;cases hb:Nat.beq r.p 0 with|true=>exact absurd (Nat.eq_of_beq_eq_true hb) h|false=>rfl }
   omega)⟩) (hA.fn lr lm _ hr) hrun
 rw[hk]at this
 simp only[if_true,List.length_cons,List.length_nil]at this
 rw[if_neg (by omega),if_neg (by omega),Nat.add_assoc,Nat.add_assoc,←Nat.add_assoc (isC r)]at this
 exact this
end
end
end Go.AM
namespace Go.AM
noncomputable section
variable {P:Program} {W:World}
structure MeanEnv (P:Program) (W:World) (M:MS) (F:Fns):Prop where
 mix:P.follows .mixedOrders=true
 ms:MSok M
 h0:0<W.heap.size
 rows: ∀r∈rowsM,rowRunM P M r=true
 arith:ArithOk P W F
 sets: ∀w a b,a<4294967296→b<4294967296→RealPure P W 284 [strV w,u32 a,u32 b] (u32 (F.sum w a b))
 wholes: ∀w a b,(w=[43]∨w=[45]∨w=[42])→a<4294967296→b<4294967296→RealPure P W 285 [strV (bytesOf w),u32 a,u32 b] (u32 (F.reck (bytesOf w) a b))
 div: ∀a b,F.less 0 b=true→a<4294967296→b<4294967296→RealPure P W 285 [strV (bytesOf [68,73,86]),u32 a,u32 b] (u32 (F.div a b))
 md: ∀a b,F.less 0 b=true→a<4294967296→b<4294967296→RealPure P W 285 [strV (bytesOf [77,79,68]),u32 a,u32 b] (u32 (F.md a b))
 letter: ∀b:UInt8,RealPure P W 144 [datM 11 (u32 0) (strV [b])] (datM 8 (u32 b.toNat) emptyS)
 obj: ∀N,Wf W N→ ∀p w,p<6→builtsN[p]? =some w→N.kind=11→N.name=bytesOf w→NodeM P W M 226 N.val 0 (.ret (ptrV (M.proc p)))
 set: ∀N,Wf W N→N.kind=31→ ∀(vs ks:List Nat),vs.length=N.kids.length→ks.length=N.kids.length→(∀v∈vs,v<4294967296)→
  (∀(i:Nat) (k:Tr) (v q:Nat),N.kids[i]? =some k→vs[i]? =some v→ks[i]? =some q→NodeM P W M 143 k.val q (datR 5 v []))→NodeM P W M 143 N.val ks.sum (datR 9 (vs.foldl (fun a v=>a|||F.left 1 v) 0) [])
def RelM (o v:Nat) (t:List UInt8) (m:Nat) (t':List UInt8):Prop:=(m=o∧t'=t∨o=8∧m=11)∧(m=11→ ∃b:UInt8,t'=[b]∧v=b.toNat)
def MeanOk (P:Program) (W:World) (M:MS) (N:Tr) (o v:Nat) (t:List UInt8):Prop:= ∃m t' k,RelM o v t m t'∧GoodM m v t'∧k≤size1 N∧NodeM P W M 143 N.val k (datR m v t')
theorem MeanOk.same {M:MS} {N:Tr} {o v:Nat} {t:List UInt8} (h:MeanOk P W M N o v t) (h8:o≠8): ∃k,GoodM o v t∧k≤size1 N∧NodeM P W M 143 N.val k (datR o v t):=by
 obtain⟨m,t',k,⟨h1,h2⟩,h3,h4,h5⟩:=h
 rcases h1 with⟨rfl,rfl⟩|⟨h,_⟩
 ·exact⟨k,h3,h4,h5⟩
 ·exact absurd h h8
section
variable {M:MS} {N:Tr} {F:Fns} {lr lm:Loc} {r:RowM} {D:Nat→Nat×List UInt8} {R1:Nat} {s:Nat→Nat} {ι:Inj}
theorem kidW_tells {j m:Nat} (hj:j≤2) (hg:GoodM m (D j).1 (D j).2) (hpar:r.par<3) (hp1:r.par=0∨r.par=1∧(D 1).1 % 2=0∨r.par=2∧(D 1).1 % 2=1) (hp: ∀i l,sigM M.x lr lm N D R1 s i=some l→ι i=some l):
 Tells ι (kidW M.x r j m) (realW m (D j).1):=by
 have hoff:offK r j<3∧(offK r j=0∨offK r j=1∧(D j).1 % 2=0∨offK r j=2∧(D j).1 % 2=1):=by
  unfold offK
  cases hb:Nat.beq j 1 with
  |true=>have:=Nat.eq_of_beq_eq_true hb;subst this;exact⟨hpar,hp1⟩
  |false=>exact⟨Nat.zero_lt_succ _,.inl rfl⟩
 exact wordM_tells hg (hp _ _ (sigM_v hj)) hoff.1 hoff.2
theorem r7_tells (h1:R1<4294967296) (hp: ∀i l,sigM M.x lr lm N D R1 s i=some l→ι i=some l):Tells ι (r7 M.x) (u32 R1):=tells_opq (by omega) (by omega) rfl (by omega) (hp _ _ sigM_7) (d_value h1)
theorem fn2 {f:FuncId} {a b:Value} {x y:Nat} (h:RealPure P W f [u32 x,u32 y] (u32 R1)) (h1:R1<4294967296) (ha: ∀ι:Inj,(∀i l,sigM M.x lr lm N D R1 s i=some l→ι i=some l)→Tells ι a (u32 x)) (hb: ∀ι:Inj,(∀i l,sigM M.x lr lm N D R1 s i=some l→ι i=some l)→Tells ι b (u32 y)):
 PureCall P (.at W (sigM M.x lr lm N D R1 s)) f [a,b] (.ret (r7 M.x)):=
 h.call' (fun ι hp=>(r7_tells h1 hp).rel) fun ι hp=>(TellsL.cons (ha ι hp) (.cons (hb ι hp) .nil)).only
theorem fn3 {f:FuncId} {c a b:Value} {n:List UInt8} {x y:Nat} (h:RealPure P W f [strV n,u32 x,u32 y] (u32 R1)) (h1:R1<4294967296) (hc:c=strV n) (ha: ∀ι:Inj,(∀i l,sigM M.x lr lm N D R1 s i=some l→ι i=some l)→Tells ι a (u32 x)) (hb: ∀ι:Inj,(∀i l,sigM M.x lr lm N D R1 s i=some l→ι i=some l)→Tells ι b (u32 y)):
 PureCall P (.at W (sigM M.x lr lm N D R1 s)) f [c,a,b] (.ret (r7 M.x)):=
 h.call' (fun ι hp=>(r7_tells h1 hp).rel) fun ι hp=>(TellsL.cons (by rw[hc];exact tells_str _) (.cons (ha ι hp) (.cons (hb ι hp) .nil))).only
theorem fits {k:Nat} {n:NC} {kc:KC} (h1:N.kind=(k:Nat)) (h2:n.fits N.name) (h3:kc.fits N.kids.length):(cls k n kc).Fits N:=⟨h1,h2,trivial,trivial,h3⟩
theorem few1 {k:Tr} (h:N.kids=[k]):(KC.few 1).fits N.kids.length:=by rw[h];exact⟨rfl,by omega,by omega⟩
theorem few2 {k l:Tr} (h:N.kids=[k,l]):(KC.few 2).fits N.kids.length:=by rw[h];exact⟨rfl,by omega,by omega⟩
theorem few3 {k l q:Tr} (h:N.kids=[k,l,q]):(KC.few 3).fits N.kids.length:=by rw[h];exact⟨rfl,by omega,by omega⟩
theorem ask0 (hq:(kq0 r).1≤2) (hp:r.par=0) (hD: ∀j,j≤2→(D j).1<4294967296) (h1:R1<4294967296) (h9:r.src=9→(D (kq0 r).1).2.length=1) (hp0:r.p=0) (hfn: ∀(lr lm:Loc) (s:Nat→Nat),RowAt W N lr lm→ ∀t∈fnEs M.x r r.fn,PureCall P (.at W (sigM M.x lr lm N D R1 s)) t.1 t.2.1 t.2.2):RowAsk P W M N r D R1:=
 ⟨hD,h1,hq,by omega,.inl hp,h9,fun h=>absurd hp0 h,hfn⟩
theorem noFn (h:r.fn=[]): ∀(lr lm:Loc) (s:Nat→Nat),RowAt W N lr lm→ ∀t∈fnEs M.x r r.fn,PureCall P (.at W (sigM M.x lr lm N D R1 s)) t.1 t.2.1 t.2.2:=by
 intro lr lm s _ t ht
 rw[h]at ht;cases ht
theorem leaf_ok (hE:MeanEnv P W M F) (hw:Wf W N) {k m src:Nat} (hr:(⟨cls k .any .any,[],0,0,[],m,src⟩:RowM)∈rowsM) (h9:src≠9) (hk:N.kind=(k:Nat)):NodeM P W M 143 N.val 0 (ansR N (fun _=>(0,[])) 0 ⟨cls k .any .any,[],0,0,[],m,src⟩):=
 row0 hE.mix hE.ms hE.h0 hw (fits hk trivial trivial) (ask0 (show(0:Nat)≤2 by omega) rfl (fun _ _=>by show(0:Nat)<_;omega) (by omega) (fun h=>absurd h h9) rfl (noFn rfl)) rfl rfl (hE.rows _ hr)
theorem size_pos (N:Tr):1≤size1 N:=by rw[size1_eq];omega
theorem size_kid1 {k:Tr} (h:N.kids=[k]):size1 k+1≤size1 N:=by rw[size1_eq N,h];simp[sizeL]
theorem size_kid2 {k l:Tr} (h:N.kids=[k,l]):size1 k+size1 l+1≤size1 N:=by rw[size1_eq N,h];simp[sizeL]
theorem size_kid3 {k l q:Tr} (h:N.kids=[k,l,q]):size1 k+size1 l+size1 q+1≤size1 N:=by rw[size1_eq N,h];simp[sizeL];omega
theorem kid1_ok (hE:MeanEnv P W M F) (hw:Wf W N) {k:Nat} {n:NC} {K:Tr} {m q v R1 m' src:Nat} {t:List UInt8} {fn:List Nat} (hr:(⟨cls k n (.few 1),[(0,m)],0,0,fn,m',src⟩:RowM)∈rowsM) (hk:N.kind=(k:Nat)) (hn:n.fits N.name) (hK:N.kids=[K]) (hg:GoodM m v t)
 (hN:NodeM P W M 143 K.val q (datR m v t)) (h1:R1<4294967296) (h9:src=9→t.length=1)
 (hfn: ∀(lr lm:Loc) (s:Nat→Nat),RowAt W N lr lm→ ∀e∈fnEs M.x ⟨cls k n (.few 1),[(0,m)],0,0,fn,m',src⟩ fn,PureCall P (.at W (sigM M.x lr lm N (fun _=>(v,t)) R1 s)) e.1 e.2.1 e.2.2):
 NodeM P W M 143 N.val q (ansR N (fun _=>(v,t)) R1 ⟨cls k n (.few 1),[(0,m)],0,0,fn,m',src⟩):=by
 have:=row1 (N:=N) (D:=fun _=>(v,t)) (R1:=R1) (j:=0) (r:=⟨cls k n (.few 1),[(0,m)],0,0,fn,m',src⟩) hE.mix hE.ms hE.h0 hw (fits hk hn (few1 hK)) (ask0 (show(0:Nat)≤2 by omega) rfl (fun _ _=>hg.v) h1 h9 rfl hfn) rfl (by show 0<1;omega) (by omega) (by rw[hK];rfl) hg hN (hE.rows _ hr)
 rw[show isC (⟨cls k n (.few 1),[(0,m)],0,0,fn,m',src⟩:RowM)=0 from rfl,Nat.zero_add]at this
 exact this
theorem kid2_ok (hE:MeanEnv P W M F) (hw:Wf W N) {w:List Nat} {K K':Tr} {m q v m1 q1 v1 R1 m' src:Nat} {t t1:List UInt8} {fn:List Nat} (hr:(⟨cls 35 (.lit w) (.few 2),[(0,m),(1,m1)],0,0,fn,m',src⟩:RowM)∈rowsM) (hk:N.kind=35) (hn:N.name=bytesOf w) (hK:N.kids=[K,K']) (hg:GoodM m v t)
 (hN:NodeM P W M 143 K.val q (datR m v t)) (hg1:GoodM m1 v1 t1) (hN1:NodeM P W M 143 K'.val q1 (datR m1 v1 t1)) (h1:R1<4294967296) (h9:src≠9)
 (hfn: ∀(lr lm:Loc) (s:Nat→Nat),RowAt W N lr lm→ ∀e∈fnEs M.x ⟨cls 35 (.lit w) (.few 2),[(0,m),(1,m1)],0,0,fn,m',src⟩ fn,PureCall P (.at W (sigM M.x lr lm N (fun j=>if j=0 then(v,t)else(v1,t1)) R1 s)) e.1 e.2.1 e.2.2):
 NodeM P W M 143 N.val (q+q1) (ansR N (fun j=>if j=0 then(v,t)else(v1,t1)) R1 ⟨cls 35 (.lit w) (.few 2),[(0,m),(1,m1)],0,0,fn,m',src⟩):=by
 have:=row2 (N:=N) (D:=fun j=>if j=0 then(v,t)else(v1,t1)) (R1:=R1) (j:=0) (j':=1) (r:=⟨cls 35 (.lit w) (.few 2),[(0,m),(1,m1)],0,0,fn,m',src⟩) hE.mix hE.ms hE.h0 hw (fits hk hn (few2 hK)) (ask0 (show(0:Nat)≤2 by omega) rfl (fun j _=>by by_cases h:j=0<;>simp only[h,if_true,if_false]<;>first|exact hg.v|exact hg1.v) h1 (fun h=>absurd h h9) rfl hfn) rfl
  (by show 0<2;omega) (by omega) (by rw[hK];rfl) hg hN (by show 1<2;omega) (by omega) (by rw[hK];rfl) hg1 hN1 (hE.rows _ hr)
 rw[show isC (⟨cls 35 (.lit w) (.few 2),[(0,m),(1,m1)],0,0,fn,m',src⟩:RowM)=0 from rfl,Nat.zero_add]at this
 exact this
theorem kidH_ok (hE:MeanEnv P W M F) (hw:Wf W N) {w:List Nat} {K K':Tr} {m q v m' src:Nat} {t:List UInt8} (hr:(⟨cls 35 (.lit w) (.few 2),[(0,m)],0,0,[],m',src⟩:RowM)∈rowsM) (hk:N.kind=35) (hn:N.name=bytesOf w) (hK:N.kids=[K,K']) (hg:GoodM m v t)
 (hN:NodeM P W M 143 K.val q (datR m v t)) (h9:src≠9):NodeM P W M 143 N.val q (ansR N (fun _=>(v,t)) 0 ⟨cls 35 (.lit w) (.few 2),[(0,m)],0,0,[],m',src⟩):=by
 have:=row1 (N:=N) (D:=fun _=>(v,t)) (R1:=0) (j:=0) (r:=⟨cls 35 (.lit w) (.few 2),[(0,m)],0,0,[],m',src⟩) hE.mix hE.ms hE.h0 hw (fits hk hn (few2 hK)) (ask0 (show(0:Nat)≤2 by omega) rfl (fun _ _=>hg.v) (by omega) (fun h=>absurd h h9) rfl (noFn rfl)) rfl (by show 0<2;omega) (by omega) (by rw[hK];rfl) hg hN (hE.rows _ hr)
 rw[show isC (⟨cls 35 (.lit w) (.few 2),[(0,m)],0,0,[],m',src⟩:RowM)=0 from rfl,Nat.zero_add]at this
 exact this
theorem callN_ok (hE:MeanEnv P W M F) (hw:Wf W N) {d K:Tr} {p m q v R1 m' src par:Nat} {t:List UInt8} {fn:List Nat} {w:List Nat} (hr:(⟨cls 21 .any (.few 2),[(1,m)],par,p+1,fn,m',src⟩:RowM)∈rowsM) (hk:N.kind=21) (hK:N.kids=[d,K]) (hp:p<6) (hd:d.kind=11) (hdn:d.name=bytesOf w) (hwd:builtsN[p]? =some w) (hg:GoodM m v t)
 (hN:NodeM P W M 143 K.val q (datR m v t)) (h1:R1<4294967296) (h9:src≠9) (hpar:par=0∨par=1∧v % 2=0∨par=2∧v % 2=1)
 (hfn: ∀(lr lm:Loc) (s:Nat→Nat),RowAt W N lr lm→ ∀e∈fnEs M.x ⟨cls 21 .any (.few 2),[(1,m)],par,p+1,fn,m',src⟩ fn,PureCall P (.at W (sigM M.x lr lm N (fun _=>(v,t)) R1 s)) e.1 e.2.1 e.2.2):
 NodeM P W M 143 N.val (1+q) (ansR N (fun _=>(v,t)) R1 ⟨cls 21 .any (.few 2),[(1,m)],par,p+1,fn,m',src⟩):=by
 have:=row1 (N:=N) (D:=fun _=>(v,t)) (R1:=R1) (j:=1) (r:=⟨cls 21 .any (.few 2),[(1,m)],par,p+1,fn,m',src⟩) hE.mix hE.ms hE.h0 hw (fits hk trivial (few2 hK)) ⟨fun _ _=>hg.v,h1,(show(1:Nat)≤2 by omega),(by show par<3;omega),hpar,fun h=>absurd h h9,fun _=>⟨(by show p+1≤23;omega),(by show 0<2;omega),fun k hk=>by
  rw[hK]at hk;cases hk
  exact hE.obj d (hw.kid (by rw[hK];simp)) p w hp hwd hd hdn⟩,hfn⟩ rfl (by show 1<2;omega) (by omega) (by rw[hK];rfl) hg hN (hE.rows _ hr)
 exact this
theorem callT_ok (hE:MeanEnv P W M F) (hw:Wf W N) {d K K':Tr} {p m q v m1 q1 v1 R1 m' src:Nat} {t t1:List UInt8} {fn:List Nat} {w:List Nat} (hr:(⟨cls 21 .any (.few 3),[(1,m),(2,m1)],0,p+1,fn,m',src⟩:RowM)∈rowsM) (hk:N.kind=21) (hK:N.kids=[d,K,K']) (hp:p<6) (hd:d.kind=11) (hdn:d.name=bytesOf w) (hwd:builtsN[p]? =some w) (hg:GoodM m v t)
 (hN:NodeM P W M 143 K.val q (datR m v t)) (hg1:GoodM m1 v1 t1) (hN1:NodeM P W M 143 K'.val q1 (datR m1 v1 t1)) (h1:R1<4294967296) (h9:src≠9)
 (hfn: ∀(lr lm:Loc) (s:Nat→Nat),RowAt W N lr lm→ ∀e∈fnEs M.x ⟨cls 21 .any (.few 3),[(1,m),(2,m1)],0,p+1,fn,m',src⟩ fn,PureCall P (.at W (sigM M.x lr lm N (fun j=>if j=1 then(v,t)else(v1,t1)) R1 s)) e.1 e.2.1 e.2.2):
 NodeM P W M 143 N.val (1+q+q1) (ansR N (fun j=>if j=1 then(v,t)else(v1,t1)) R1 ⟨cls 21 .any (.few 3),[(1,m),(2,m1)],0,p+1,fn,m',src⟩):=by
 have:=row2 (N:=N) (D:=fun j=>if j=1 then(v,t)else(v1,t1)) (R1:=R1) (j:=1) (j':=2) (r:=⟨cls 21 .any (.few 3),[(1,m),(2,m1)],0,p+1,fn,m',src⟩) hE.mix hE.ms hE.h0 hw (fits hk trivial (few3 hK)) ⟨fun j _=>by by_cases h:j=1<;>simp only[h,if_true,if_false]<;>first|exact hg.v|exact hg1.v,h1,(show(1:Nat)≤2 by omega),(by show 0<3;omega),.inl rfl,fun h=>absurd h h9,fun _=>⟨(by show p+1≤23;omega),(by show 0<3;omega),fun k hk=>by
  rw[hK]at hk;cases hk
  exact hE.obj d (hw.kid (by rw[hK];simp)) p w hp hwd hd hdn⟩,hfn⟩ rfl (by show 1<3;omega) (by omega) (by rw[hK];rfl) hg hN (by show 2<3;omega) (by omega) (by rw[hK];rfl) hg1 hN1 (hE.rows _ hr)
 exact this
end
end
end Go.AM
namespace Go.AM
noncomputable section
variable {P:Program} {W:World} {M:MS} {F:Fns}
theorem mem_at {r:RowM} (i:Nat) (h:rowsM[i]? =some r):r∈rowsM:=List.mem_of_getElem? h
theorem dat_eq {m a v:Nat} {t s:List UInt8} (h1:u32 a=realW m v) (h2:strV t=textR m s):Ans.ret (datM m (u32 a) (strV t))=datR m v s:=by rw[h1,h2];rfl
theorem good5 {v:Nat} {m:Nat} (hv:v<4294967296) (hm:m≠11):GoodM m v []:=⟨hv,fun h=>absurd h hm⟩
theorem kt_rng {N:Tr} {o v:Nat} {t:List UInt8} (h:KT F N o v t):5≤o∧o≤11:=by
 induction h with
 |paren _ _ _ ih=>split<;>omega
 |not _ _ _ ho ih=>split<;>omega
 | @opB N k l w c a b v v' t t' hk hK hn hws hc h1 h2 ha hb ih1 ih2=>
  have hc':c=0∨c=1:=by omega
  rcases hc' with rfl|rfl<;>rcases ha with rfl|rfl<;>rcases hb with rfl|rfl<;>decide
 | @one N d k p o v o' v' t hk hK hd hkt hc ih=>
  unfold call1 at hc
  split at hc<;>first|(cases hc;done)|(simp only[Option.some.injEq,Prod.mk.injEq]at hc;omega)|skip
  split at hc<;>(simp only[Option.some.injEq,Prod.mk.injEq]at hc;omega)
 |_=>omega
theorem fnS {v:Nat} {m:Nat} {r:RowM} {x:Nat} {lr lm:Loc} {N:Tr} {D:Nat→Nat×List UInt8} {R1:Nat} {s:Nat→Nat} {j:Nat} (hx:x=M.x) (hg:GoodM m (D j).1 (D j).2) (hj:j≤2) (hpar:r.par=0) (hv:realW m (D j).1=u32 v):
 ∀ι:Inj,(∀i l,sigM M.x lr lm N D R1 s i=some l→ι i=some l)→Tells ι (kidW x r j m) (u32 v):=by
 intro ι hp
 rw[←hv,hx]
 exact kidW_tells hj hg (by omega) (.inl hpar) hp
theorem letter_fn (hE:MeanEnv P W M F) {N:Tr} {v:Nat} {b:UInt8} (hg:GoodM 11 v [b]) (hb:v=b.toNat): ∀(lr lm:Loc) (s:Nat→Nat),RowAt W N lr lm→ ∀e∈fnEs M.x ⟨cls 21 .any (.few 2),[(1,11)],0,2+1,[8],5,2⟩ [8],PureCall P (.at W (sigM M.x lr lm N (fun _=>(v,[b])) 0 s)) e.1 e.2.1 e.2.2:=by
 intro lr lm s hr e he
 simp only[fnEs,fnE,List.append_nil,List.mem_singleton,kq0]at he
 subst he
 have h:=hE.letter b
 rw[←hb]at h
 exact h.call' (fun ι hp=>(dat_tells (tells_opq (by omega) (by omega) rfl (by omega) (hp _ _ (sigM_v (j:=1) (by omega))) (d_value hg.v)) (tells_str _)).rel) fun ι hp=>(TellsL.cons (dat_tells (kidW_tells (by omega) hg (by show 0<3;omega) (.inl rfl) hp) (textM_tells hg (hp _ _ (sigM_t (j:=1) (by omega))))) .nil).only
theorem mean_ok (hE:MeanEnv P W M F) {N:Tr} {o v:Nat} {t:List UInt8} (h:KT F N o v t):Wf W N→MeanOk P W M N o v t:=by
 induction h with
 | @num N hk=>
  intro hw
  exact⟨5,[],0,⟨.inl ⟨rfl,rfl⟩,fun h=>by cases h⟩,good5 hw.value (by omega),Nat.zero_le _,leaf_ok hE hw (mem_at 0 rfl) (by omega) hk⟩
 | @chr N hk hv=>
  intro hw
  exact⟨8,[],0,⟨.inl ⟨rfl,rfl⟩,fun h=>by cases h⟩,good5 hw.value (by omega),Nat.zero_le _,leaf_ok hE hw (mem_at 1 rfl) (by omega) hk⟩
 | @txt N b hk hn=>
  intro hw
  refine⟨11,[b],0,⟨.inl ⟨rfl,rfl⟩,fun _=>⟨b,rfl,rfl⟩⟩,⟨by have:=b.toNat_lt;omega,fun _=>rfl⟩,Nat.zero_le _,?_⟩
  have:=leaf_ok hE hw (mem_at 2 rfl) (by omega) hk
  rw[show ansR N (fun _=>(0,[])) 0 ⟨cls 27 .any .any,[],0,0,[],11,7⟩=datR 11 b.toNat [b]from by
   show Ans.ret (datM 11 (u32 0) (strV N.name))=_
   rw[hn];rfl]at this
  exact this
 | @nil N hk=>
  intro hw
  exact⟨10,[],0,⟨.inl ⟨rfl,rfl⟩,fun h=>by cases h⟩,good5 (by omega) (by omega),Nat.zero_le _,leaf_ok hE hw (mem_at 3 rfl) (by omega) hk⟩
 | @tru N hk=>
  intro hw
  exact⟨7,[],0,⟨.inl ⟨rfl,rfl⟩,fun h=>by cases h⟩,good5 (by omega) (by omega),Nat.zero_le _,leaf_ok hE hw (mem_at 4 rfl) (by omega) hk⟩
 | @fls N hk=>
  intro hw
  exact⟨6,[],0,⟨.inl ⟨rfl,rfl⟩,fun h=>by cases h⟩,good5 (by omega) (by omega),Nat.zero_le _,leaf_ok hE hw (mem_at 5 rfl) (by omega) hk⟩
 | @set N vs hk hlen hkids ih=>
  intro hw
  have g: ∀i:Nat,∃q:Nat,∀(k:Tr) (v:Nat),N.kids[i]? =some k→vs[i]? =some v→GoodM 5 v []∧q≤size1 k∧NodeM P W M 143 k.val q (datR 5 v []):=by
   intro i
   cases hi:N.kids[i]? with
   |none=>exact⟨0,fun k v h=>by cases h⟩
   |some k=>
    cases hv:vs[i]? with
    |none=>exact⟨0,fun k v _ h=>by cases h⟩
    |some v=>
     obtain⟨q,h1,h2,h3⟩:=(ih i k v hi hv (hw.kid (List.mem_of_getElem? hi))).same (by omega)
     exact⟨q,fun k' v' h h'=>by cases h;cases h';exact⟨h1,h2,h3⟩⟩
  let qs:Nat→Nat:=fun i=>Classical.choose (g i)
  have hqs: ∀i (k:Tr) (v:Nat),N.kids[i]? =some k→vs[i]? =some v→GoodM 5 v []∧qs i≤size1 k∧NodeM P W M 143 k.val (qs i) (datR 5 v []):=fun i=>Classical.choose_spec (g i)
  have hvl: ∀v∈vs,v<4294967296:=by
   intro v hv
   obtain⟨i,hi⟩:=List.mem_iff_getElem?.1 hv
   have hlt:i<N.kids.length:=by rw[←hlen];exact(List.getElem?_eq_some_iff.1 hi).1
   exact(hqs i _ v (List.getElem?_eq_getElem hlt) hi).1.v
  have hfold: ∀(l:List Nat) (a:Nat),a<4294967296→(∀v∈l,v<4294967296)→l.foldl (fun a v=>a|||F.left 1 v) a<4294967296:=by
   intro l
   induction l with
   |nil=>intro a ha _;exact ha
   |cons v l ihl=>
    intro a ha hl
    exact ihl _ (Nat.or_lt_two_pow (n:=32) ha (hE.arith.lt 1 v (by omega) (hl v (by simp))).1) (fun v hv=>hl v (by simp[hv]))
  have hsum: ∀(l:List Tr) (a:Nat),(∀i (k:Tr),l[i]? =some k→qs (a+i)≤size1 k)→((List.range' a l.length).map qs).sum≤sizeL l:=by
   intro l
   induction l with
   |nil=>intro a _;simp[sizeL]
   |cons k l ihl=>
    intro a h
    simp only[List.length_cons,List.range'_succ,List.map_cons,List.sum_cons,sizeL]
    have h1:=h 0 k rfl
    have h2:=ihl (a+1) (fun i k' hi=>by have:=h (i+1) k' (by simpa using hi);rw[show a+(i+1)=a+1+i by omega]at this;exact this)
    rw[Nat.add_zero]at h1
    omega
  have hsz:((List.range' 0 N.kids.length).map qs).sum≤size1 N:=by
   have:=hsum N.kids 0 (fun i k hi=>by
    have hlt:i<vs.length:=by rw[hlen];exact(List.getElem?_eq_some_iff.1 hi).1
    rw[Nat.zero_add]
    exact(hqs i k _ hi (List.getElem?_eq_getElem hlt)).2.1)
   rw[size1_eq];omega
  refine⟨9,[],((List.range' 0 N.kids.length).map qs).sum,⟨.inl ⟨rfl,rfl⟩,fun h=>by cases h⟩,good5 (hfold vs 0 (by omega) hvl) (by omega),hsz,?_⟩
  refine hE.set N hw hk vs _ hlen (by simp) hvl fun i k v q hi hv hq=>?_
  have hlt:i<N.kids.length:=(List.getElem?_eq_some_iff.1 hi).1
  have:q=qs i:=by
   simp only[List.getElem?_map,List.getElem?_range' hlt,Option.map_some,Option.some.injEq,Nat.one_mul,Nat.zero_add]at hq
   exact hq.symm
  rw[this]
  exact(hqs i k v hi hv).2.2
 | @paren N k o v t hk hK hkt ih=>
  intro hw
  obtain⟨m,t',q,⟨h1,h2⟩,hg,hq,hN⟩:=ih (hw.kid (by rw[hK];simp))
  have hsz:=size_kid1 hK
  have ho:=kt_rng hkt
  by_cases h11:m=11
  ·subst h11
   obtain⟨b,rfl,hb⟩:=h2 rfl
   have ho2:o=8∨o=11:=by rcases h1 with⟨h,_⟩|⟨h,_⟩<;>omega
   have hv:natV o v=v:=by rcases ho2 with rfl|rfl<;>rfl
   have hi:(if o=11 then 8 else o)=8:=by rcases ho2 with rfl|rfl<;>rfl
   rw[hv,hi]
   refine⟨11,[b],q,⟨.inr ⟨rfl,rfl⟩,fun _=>⟨b,rfl,hb⟩⟩,hg,by omega,?_⟩
   exact kid1_ok (R1:=0) hE hw (mem_at 12 rfl) hk trivial hK hg hN (by omega) (fun _=>rfl) (noFn rfl)
  ·have hmo:m=o:=by
    rcases h1 with⟨h,_⟩|⟨_,h⟩
    ·exact h
    ·exact absurd h h11
   subst hmo
   have hi:(if m=11 then 8 else m)=m:=if_neg h11
   rw[hi]
   have hm:m=5∨m=6∨m=7∨m=8∨m=9∨m=10:=by omega
   refine⟨m,[],q,⟨.inl ⟨rfl,rfl⟩,fun h=>absurd h h11⟩,good5 (natV_lt hg.v) h11,by omega,?_⟩
   rcases hm with rfl|rfl|rfl|rfl|rfl|rfl
   ·exact kid1_ok (R1:=0) hE hw (mem_at 6 rfl) hk trivial hK hg hN (by omega) (fun h=>by cases h) (noFn rfl)
   ·exact kid1_ok (R1:=0) hE hw (mem_at 7 rfl) hk trivial hK hg hN (by omega) (fun h=>by cases h) (noFn rfl)
   ·exact kid1_ok (R1:=0) hE hw (mem_at 8 rfl) hk trivial hK hg hN (by omega) (fun h=>by cases h) (noFn rfl)
   ·exact kid1_ok (R1:=0) hE hw (mem_at 9 rfl) hk trivial hK hg hN (by omega) (fun h=>by cases h) (noFn rfl)
   ·exact kid1_ok (R1:=0) hE hw (mem_at 10 rfl) hk trivial hK hg hN (by omega) (fun h=>by cases h) (noFn rfl)
   ·exact kid1_ok (R1:=0) hE hw (mem_at 11 rfl) hk trivial hK hg hN (by omega) (fun h=>by cases h) (noFn rfl)
 | @not N k o v t hk hK hkt ho ih=>
  intro hw
  have hw1:=hw.kid (x:=k) (by rw[hK];simp)
  obtain⟨q,hg,hq,hN⟩:=(ih hw1).same (by omega)
  have hsz:=size_kid1 hK
  rcases ho with rfl|rfl
  ·refine⟨7,[],q,⟨.inl ⟨rfl,rfl⟩,fun h=>by cases h⟩,good5 (by decide) (by omega),by omega,?_⟩
   exact kid1_ok (R1:=0) hE hw (mem_at 13 rfl) hk trivial hK hg hN (by omega) (fun h=>by cases h) (noFn rfl)
  ·refine⟨6,[],q,⟨.inl ⟨rfl,rfl⟩,fun h=>by cases h⟩,good5 (by decide) (by omega),by omega,?_⟩
   exact kid1_ok (R1:=0) hE hw (mem_at 14 rfl) hk trivial hK hg hN (by omega) (fun h=>by cases h) (noFn rfl)
 | @sign N k w v t hk hK hn hws hkt ih=>
  intro hw
  have hw1:=hw.kid (x:=k) (by rw[hK];simp)
  obtain⟨q,hg,hq,hN⟩:=(ih hw1).same (by omega)
  have hsz:=size_kid1 hK
  have hws2:w=[43]∨w=[45]:=by simpa[signs]using hws
  rcases hws2 with rfl|rfl
  ·rw[if_neg (by decide)]
   refine⟨5,[],q,⟨.inl ⟨rfl,rfl⟩,fun h=>by cases h⟩,good5 hg.v (by omega),by omega,?_⟩
   exact kid1_ok (R1:=0) hE hw (mem_at 15 rfl) hk hn hK hg hN (by omega) (fun h=>by cases h) (noFn rfl)
  ·rw[if_pos rfl]
   have hlt:F.neg v<4294967296:=(hE.arith.lt v v hg.v hg.v).2.2.2.2.1
   refine⟨5,[],q,⟨.inl ⟨rfl,rfl⟩,fun h=>by cases h⟩,good5 hlt (by omega),by omega,?_⟩
   refine kid1_ok (R1:=F.neg v) hE hw (mem_at 16 rfl) hk hn hK hg hN hlt (fun h=>by cases h) ?_
   intro lr lm s hr e he
   simp only[fnEs,fnE,List.append_nil,List.mem_singleton]at he
   subst he
   obtain⟨y,z,hh⟩:=hE.arith.neg v hg.v
   exact hh.call' (fun ι hp=> .tuple (.cons (r7_tells hlt hp).rel (.cons (.poi _) (.cons (.poi _) .nil)))) fun ι hp=>(TellsL.cons (tells_int _ _) (.cons (kidW_tells (by show 0≤2;omega) hg (by show 0<3;omega) (.inl rfl) hp) (.cons (tells_bool _) .nil))).only
 | @opB N k l w c a b v v' t t' hk hK hn hws hc h1 h2 ha hb ih1 ih2=>
  intro hw
  have hw1:=hw.kid (x:=k) (by rw[hK];simp)
  have hw2:=hw.kid (x:=l) (by rw[hK];simp)
  obtain⟨q,hg,hq,hN⟩:=(ih1 hw1).same (by omega)
  obtain⟨q',hg',hq',hN'⟩:=(ih2 hw2).same (by omega)
  have hsz:=size_kid2 hK
  have hwc:(w=[38]∧c=0)∨(w=[79,82]∧c=1):=by
   simp only[opsAll,List.mem_cons,Prod.mk.injEq,List.mem_nil_iff,or_false]at hws
   rcases hws with⟨rfl,h⟩|⟨rfl,h⟩|⟨rfl,h⟩|⟨rfl,h⟩|⟨rfl,h⟩|⟨rfl,h⟩|⟨rfl,h⟩|⟨rfl,h⟩|⟨rfl,h⟩|⟨rfl,h⟩|⟨rfl,h⟩|⟨rfl,h⟩|⟨rfl,h⟩|⟨rfl,h⟩|⟨rfl,h⟩<;>
    first|omega|exact .inl ⟨rfl,h⟩|exact .inr ⟨rfl,h⟩|exact .inl rfl|exact .inr (.inl rfl)|exact .inr (.inr rfl)|exact .inr (.inr (.inl rfl))|exact .inr (.inr (.inr rfl))
  rcases hwc with⟨rfl,rfl⟩|⟨rfl,rfl⟩
  ·rcases ha with rfl|rfl
   ·
    have:=kidH_ok hE hw (mem_at 17 rfl) hk hn hK hg hN (by omega)
    rcases hb with rfl|rfl<;>exact⟨6,[],q,⟨.inl ⟨rfl,rfl⟩,fun h=>by cases h⟩,good5 (by decide) (by omega),by omega,this⟩
   ·rcases hb with rfl|rfl
    ·exact⟨6,[],q+q',⟨.inl ⟨rfl,rfl⟩,fun h=>by cases h⟩,good5 (by decide) (by omega),by omega,kid2_ok (R1:=0) hE hw (mem_at 18 rfl) hk hn hK hg hN hg' hN' (by omega) (by decide) (noFn rfl)⟩
    ·exact⟨7,[],q+q',⟨.inl ⟨rfl,rfl⟩,fun h=>by cases h⟩,good5 (by decide) (by omega),by omega,kid2_ok (R1:=0) hE hw (mem_at 19 rfl) hk hn hK hg hN hg' hN' (by omega) (by decide) (noFn rfl)⟩
  ·rcases ha with rfl|rfl
   ·rcases hb with rfl|rfl
    ·exact⟨6,[],q+q',⟨.inl ⟨rfl,rfl⟩,fun h=>by cases h⟩,good5 (by decide) (by omega),by omega,kid2_ok (R1:=0) hE hw (mem_at 21 rfl) hk hn hK hg hN hg' hN' (by omega) (by decide) (noFn rfl)⟩
    ·exact⟨7,[],q+q',⟨.inl ⟨rfl,rfl⟩,fun h=>by cases h⟩,good5 (by decide) (by omega),by omega,kid2_ok (R1:=0) hE hw (mem_at 22 rfl) hk hn hK hg hN hg' hN' (by omega) (by decide) (noFn rfl)⟩
   ·have:=kidH_ok hE hw (mem_at 20 rfl) hk hn hK hg hN (by omega)
    rcases hb with rfl|rfl<;>exact⟨7,[],q,⟨.inl ⟨rfl,rfl⟩,fun h=>by cases h⟩,good5 (by decide) (by omega),by omega,this⟩
 | @opI N k l w v v' t t' hk hK hn hws h1 h2 ih1 ih2=>
  intro hw
  have hw1:=hw.kid (x:=k) (by rw[hK];simp)
  have hw2:=hw.kid (x:=l) (by rw[hK];simp)
  obtain⟨q,hg,hq,hN⟩:=(ih1 hw1).same (by omega)
  obtain⟨q',hg',hq',hN'⟩:=(ih2 hw2).same (by omega)
  have hsz:=size_kid2 hK
  have hwc:w=[43]∨w=[45]∨w=[42]:=by
   simp only[opsAll,List.mem_cons,Prod.mk.injEq,List.mem_nil_iff,or_false]at hws
   rcases hws with⟨rfl,h⟩|⟨rfl,h⟩|⟨rfl,h⟩|⟨rfl,h⟩|⟨rfl,h⟩|⟨rfl,h⟩|⟨rfl,h⟩|⟨rfl,h⟩|⟨rfl,h⟩|⟨rfl,h⟩|⟨rfl,h⟩|⟨rfl,h⟩|⟨rfl,h⟩|⟨rfl,h⟩|⟨rfl,h⟩<;>
    first|omega|exact .inl ⟨rfl,h⟩|exact .inr ⟨rfl,h⟩|exact .inl rfl|exact .inr (.inl rfl)|exact .inr (.inr rfl)|exact .inr (.inr (.inl rfl))|exact .inr (.inr (.inr rfl))
  have hlt:=(hE.arith.lt v v' hg.v hg'.v).2.2.2.2.2.2 N.name
  refine⟨5,[],q+q',⟨.inl ⟨rfl,rfl⟩,fun h=>by cases h⟩,good5 hlt (by omega),by omega,?_⟩
  have hW:=hE.wholes w v v' hwc hg.v hg'.v
  rw[←hn]at hW
  have hfn: ∀(r:RowM),r.c.name= .lit w→r.ks=[(0,5),(1,5)]→r.par=0→ ∀(lr lm:Loc) (s:Nat→Nat),RowAt W N lr lm→ ∀e∈fnEs M.x r [7],PureCall P (.at W (sigM M.x lr lm N (fun j=>if j=0 then(v,t)else(v',t')) (F.reck N.name v v') s)) e.1 e.2.1 e.2.2:=by
   intro r hr1 hr2 hr3 lr lm s hr e he
   simp only[fnEs,fnE,List.append_nil,List.mem_singleton,kq0,kq1,hr2]at he
   subst he
   exact fn3 hW hlt (by rw[hr1,hn];rfl) (fnS rfl hg (by omega) hr3 rfl) (fnS rfl hg' (by omega) hr3 rfl)
  rcases hwc with rfl|rfl|rfl
  ·exact kid2_ok hE hw (mem_at 23 rfl) hk hn hK hg hN hg' hN' hlt (by omega) (hfn _ rfl rfl rfl)
  ·exact kid2_ok hE hw (mem_at 24 rfl) hk hn hK hg hN hg' hN' hlt (by omega) (hfn _ rfl rfl rfl)
  ·exact kid2_ok hE hw (mem_at 25 rfl) hk hn hK hg hN hg' hN' hlt (by omega) (hfn _ rfl rfl rfl)
 | @opS N k l w c v v' t t' hk hK hn hws hc h1 h2 ih1 ih2=>
  intro hw
  have hw1:=hw.kid (x:=k) (by rw[hK];simp)
  have hw2:=hw.kid (x:=l) (by rw[hK];simp)
  obtain⟨q,hg,hq,hN⟩:=(ih1 hw1).same (by omega)
  obtain⟨q',hg',hq',hN'⟩:=(ih2 hw2).same (by omega)
  have hsz:=size_kid2 hK
  have hwc:w=[43]∨w=[45]∨w=[42]∨w=[47]:=by
   simp only[opsAll,List.mem_cons,Prod.mk.injEq,List.mem_nil_iff,or_false]at hws
   rcases hws with⟨rfl,h⟩|⟨rfl,h⟩|⟨rfl,h⟩|⟨rfl,h⟩|⟨rfl,h⟩|⟨rfl,h⟩|⟨rfl,h⟩|⟨rfl,h⟩|⟨rfl,h⟩|⟨rfl,h⟩|⟨rfl,h⟩|⟨rfl,h⟩|⟨rfl,h⟩|⟨rfl,h⟩|⟨rfl,h⟩<;>
    first|omega|exact .inl ⟨rfl,h⟩|exact .inr ⟨rfl,h⟩|exact .inl rfl|exact .inr (.inl rfl)|exact .inr (.inr rfl)|exact .inr (.inr (.inl rfl))|exact .inr (.inr (.inr rfl))
  have hlt:=(hE.arith.lt v v' hg.v hg'.v).2.2.2.2.2.1 N.name
  refine⟨9,[],q+q',⟨.inl ⟨rfl,rfl⟩,fun h=>by cases h⟩,good5 hlt (by omega),by omega,?_⟩
  have hW:=hE.sets N.name v v' hg.v hg'.v
  have hfn: ∀(r:RowM),r.c.name= .lit w→r.ks=[(0,9),(1,9)]→r.par=0→ ∀(lr lm:Loc) (s:Nat→Nat),RowAt W N lr lm→ ∀e∈fnEs M.x r [6],PureCall P (.at W (sigM M.x lr lm N (fun j=>if j=0 then(v,t)else(v',t')) (F.sum N.name v v') s)) e.1 e.2.1 e.2.2:=by
   intro r hr1 hr2 hr3 lr lm s hr e he
   simp only[fnEs,fnE,List.append_nil,List.mem_singleton,kq0,kq1,hr2]at he
   subst he
   exact fn3 hW hlt (by rw[hr1,hn];rfl) (fnS rfl hg (by omega) hr3 rfl) (fnS rfl hg' (by omega) hr3 rfl)
  rcases hwc with rfl|rfl|rfl|rfl
  ·exact kid2_ok hE hw (mem_at 28 rfl) hk hn hK hg hN hg' hN' hlt (by omega) (hfn _ rfl rfl rfl)
  ·exact kid2_ok hE hw (mem_at 29 rfl) hk hn hK hg hN hg' hN' hlt (by omega) (hfn _ rfl rfl rfl)
  ·exact kid2_ok hE hw (mem_at 30 rfl) hk hn hK hg hN hg' hN' hlt (by omega) (hfn _ rfl rfl rfl)
  ·exact kid2_ok hE hw (mem_at 31 rfl) hk hn hK hg hN hg' hN' hlt (by omega) (hfn _ rfl rfl rfl)
 | @opD N k l w c v v' t t' hk hK hn hws hc h1 h2 hl ih1 ih2=>
  intro hw
  have hw1:=hw.kid (x:=k) (by rw[hK];simp)
  have hw2:=hw.kid (x:=l) (by rw[hK];simp)
  obtain⟨q,hg,hq,hN⟩:=(ih1 hw1).same (by omega)
  obtain⟨q',hg',hq',hN'⟩:=(ih2 hw2).same (by omega)
  have hsz:=size_kid2 hK
  have hlts:=hE.arith.lt v v' hg.v hg'.v
  have hfn: ∀(r:RowM) (R:Nat),R<4294967296→RealPure P W 285 [strV (bytesOf w),u32 v,u32 v'] (u32 R)→r.c.name= .lit w→r.ks=[(0,5),(1,5)]→r.par=0→ ∀(lr lm:Loc) (s:Nat→Nat),RowAt W N lr lm→ ∀e∈fnEs M.x r [7],PureCall P (.at W (sigM M.x lr lm N (fun j=>if j=0 then(v,t)else(v',t')) R s)) e.1 e.2.1 e.2.2:=by
   intro r R hR hW hr1 hr2 hr3 lr lm s hr e he
   simp only[fnEs,fnE,List.append_nil,List.mem_singleton,kq0,kq1,hr2]at he
   subst he
   exact fn3 hW hR (by rw[hr1];rfl) (fnS rfl hg (by omega) hr3 rfl) (fnS rfl hg' (by omega) hr3 rfl)
  have hwc:(w=[68,73,86]∧c=5)∨(w=[77,79,68]∧c=6):=by
   simp only[opsAll,List.mem_cons,Prod.mk.injEq,List.mem_nil_iff,or_false]at hws
   rcases hws with⟨rfl,h⟩|⟨rfl,h⟩|⟨rfl,h⟩|⟨rfl,h⟩|⟨rfl,h⟩|⟨rfl,h⟩|⟨rfl,h⟩|⟨rfl,h⟩|⟨rfl,h⟩|⟨rfl,h⟩|⟨rfl,h⟩|⟨rfl,h⟩|⟨rfl,h⟩|⟨rfl,h⟩|⟨rfl,h⟩<;>
    first|omega|exact .inl ⟨rfl,h⟩|exact .inr ⟨rfl,h⟩|exact .inl rfl|exact .inr (.inl rfl)|exact .inr (.inr rfl)|exact .inr (.inr (.inl rfl))|exact .inr (.inr (.inr rfl))
  rcases hwc with⟨rfl,rfl⟩|⟨rfl,rfl⟩
  ·rw[if_pos rfl]
   refine⟨5,[],q+q',⟨.inl ⟨rfl,rfl⟩,fun h=>by cases h⟩,good5 hlts.2.2.1 (by omega),by omega,?_⟩
   exact kid2_ok hE hw (mem_at 26 rfl) hk hn hK hg hN hg' hN' hlts.2.2.1 (by omega) (hfn _ _ hlts.2.2.1 (hE.div v v' hl hg.v hg'.v) rfl rfl rfl)
  ·rw[if_neg (by decide)]
   refine⟨5,[],q+q',⟨.inl ⟨rfl,rfl⟩,fun h=>by cases h⟩,good5 hlts.2.2.2.1 (by omega),by omega,?_⟩
   exact kid2_ok hE hw (mem_at 27 rfl) hk hn hK hg hN hg' hN' hlts.2.2.2.1 (by omega) (hfn _ _ hlts.2.2.2.1 (hE.md v v' hl hg.v hg'.v) rfl rfl rfl)
 | @one N d k p o v o' v' t hk hK hd hkt hc ih=>
  intro hw
  have hw1:=hw.kid (x:=k) (by rw[hK];simp)
  obtain⟨m,t',q,⟨h1,h2⟩,hg,hq,hN⟩:=ih hw1
  have hsz:=size_kid2 hK
  have hsd:=size_pos d
  have hdd: ∀ {p:Nat},ProcOf d (p+1)→d.kind=11∧ ∃w,builtsN[p]? =some w∧d.name=bytesOf w:=by
   intro p h
   rcases h with h|⟨a,w,b,c,_⟩
   ·omega
   ·exact⟨a,w,b,c⟩
  have hsame:o≠8→m=o∧t'=t:=by
   intro h
   rcases h1 with h1|⟨h1,_⟩
   ·exact h1
   ·exact absurd h1 h
  unfold call1 at hc
  split at hc
  ·
   obtain⟨rfl,rfl⟩:=hsame (by omega)
   obtain⟨hdk,w,hdw,hdn⟩:=hdd hd
   simp only[Option.some.injEq,Prod.mk.injEq]at hc
   obtain⟨rfl,rfl⟩:=hc
   have hneg:F.neg v<4294967296:=(hE.arith.lt v v hg.v hg.v).2.2.2.2.1
   by_cases hl:F.less v 0=true
   ·rw[if_pos hl]
    refine⟨5,[],1+q,⟨.inl ⟨rfl,rfl⟩,fun h=>by cases h⟩,good5 hneg (by omega),by omega,?_⟩
    refine callN_ok (R1:=F.neg v) (p:=0) hE hw (mem_at 32 rfl) hk hK (by omega) hdk hdn hdw hg hN hneg (by decide) (.inl rfl) ?_
    intro lr lm s hr e he
    replace he:e∈fnEs M.x (rAbs true) [4,1]:=he
    simp only[fnEs,fnE,List.append_nil,List.mem_append,List.mem_singleton,kq0,rAbs]at he
    rcases he with rfl|rfl
    ·have h:=hE.arith.less v 0 hg.v (by omega)
     rw[hl]at h
     exact h.call rfl fun ι hp=>(TellsL.cons (kidW_tells (by omega) hg (by show 0<3;omega) (.inl rfl) hp) (.cons (tells_int _ _) .nil)).only
    ·obtain⟨y,z,hh⟩:=hE.arith.neg v hg.v
     exact hh.call' (fun ι hp=> .tuple (.cons (r7_tells hneg hp).rel (.cons (.poi _) (.cons (.poi _) .nil)))) fun ι hp=>(TellsL.cons (tells_int _ _) (.cons (kidW_tells (by omega) hg (by show 0<3;omega) (.inl rfl) hp) (.cons (tells_bool _) .nil))).only
   ·rw[if_neg hl]
    refine⟨5,[],1+q,⟨.inl ⟨rfl,rfl⟩,fun h=>by cases h⟩,good5 hg.v (by omega),by omega,?_⟩
    refine callN_ok (R1:=0) (p:=0) hE hw (mem_at 33 rfl) hk hK (by omega) hdk hdn hdw hg hN (by omega) (by decide) (.inl rfl) ?_
    intro lr lm s hr e he
    replace he:e∈fnEs M.x (rAbs false) [5]:=he
    simp only[fnEs,fnE,List.append_nil,List.mem_singleton,kq0,rAbs]at he
    subst he
    have h:=hE.arith.less v 0 hg.v (by omega)
    rw[show F.less v 0=false from by cases h:F.less v 0 with|true=>exact absurd h hl|false=>rfl]at h
    exact h.call rfl fun ι hp=>(TellsL.cons (kidW_tells (by omega) hg (by show 0<3;omega) (.inl rfl) hp) (.cons (tells_int _ _) .nil)).only
  ·
   obtain⟨rfl,rfl⟩:=hsame (by omega)
   obtain⟨hdk,w,hdw,hdn⟩:=hdd hd
   by_cases ho:v % 2=1
   ·rw[if_pos ho]at hc
    simp only[Option.some.injEq,Prod.mk.injEq]at hc
    obtain⟨rfl,rfl⟩:=hc
    refine⟨7,[],1+q,⟨.inl ⟨rfl,rfl⟩,fun h=>by cases h⟩,good5 (by omega) (by omega),by omega,?_⟩
    exact callN_ok (R1:=0) (p:=1) hE hw (mem_at 34 rfl) hk hK (by omega) hdk hdn hdw hg hN (by omega) (by decide) (.inr (.inr ⟨rfl,ho⟩)) (noFn rfl)
   ·rw[if_neg ho]at hc
    simp only[Option.some.injEq,Prod.mk.injEq]at hc
    obtain⟨rfl,rfl⟩:=hc
    refine⟨6,[],1+q,⟨.inl ⟨rfl,rfl⟩,fun h=>by cases h⟩,good5 (by omega) (by omega),by omega,?_⟩
    exact callN_ok (R1:=0) (p:=1) hE hw (mem_at 35 rfl) hk hK (by omega) hdk hdn hdw hg hN (by omega) (by decide) (.inr (.inl ⟨rfl,by omega⟩)) (noFn rfl)
  ·
   obtain⟨rfl,rfl⟩:=hsame (by omega)
   obtain⟨hdk,w,hdw,hdn⟩:=hdd hd
   simp only[Option.some.injEq,Prod.mk.injEq]at hc
   obtain⟨rfl,rfl⟩:=hc
   refine⟨5,[],1+q,⟨.inl ⟨rfl,rfl⟩,fun h=>by cases h⟩,good5 hg.v (by omega),by omega,?_⟩
   exact callN_ok (R1:=0) (p:=2) hE hw (mem_at 36 rfl) hk hK (by omega) hdk hdn hdw hg hN (by omega) (by decide) (.inl rfl) (noFn rfl)
  ·obtain⟨rfl,rfl⟩:=hsame (by omega)
   obtain⟨hdk,w,hdw,hdn⟩:=hdd hd
   simp only[Option.some.injEq,Prod.mk.injEq]at hc
   obtain⟨rfl,rfl⟩:=hc
   refine⟨5,[],1+q,⟨.inl ⟨rfl,rfl⟩,fun h=>by cases h⟩,good5 (by omega) (by omega),by omega,?_⟩
   exact callN_ok (R1:=0) (p:=2) hE hw (mem_at 37 rfl) hk hK (by omega) hdk hdn hdw hg hN (by omega) (by decide) (.inl rfl) (noFn rfl)
  ·obtain⟨rfl,rfl⟩:=hsame (by omega)
   obtain⟨hdk,w,hdw,hdn⟩:=hdd hd
   simp only[Option.some.injEq,Prod.mk.injEq]at hc
   obtain⟨rfl,rfl⟩:=hc
   refine⟨5,[],1+q,⟨.inl ⟨rfl,rfl⟩,fun h=>by cases h⟩,good5 (by omega) (by omega),by omega,?_⟩
   exact callN_ok (R1:=0) (p:=2) hE hw (mem_at 38 rfl) hk hK (by omega) hdk hdn hdw hg hN (by omega) (by decide) (.inl rfl) (noFn rfl)
  ·
   obtain⟨hdk,w,hdw,hdn⟩:=hdd hd
   simp only[Option.some.injEq,Prod.mk.injEq]at hc
   obtain⟨rfl,rfl⟩:=hc
   by_cases h11:m=11
   ·subst h11
    obtain⟨b,rfl,hb⟩:=h2 rfl
    refine⟨5,[],1+q,⟨.inl ⟨rfl,rfl⟩,fun h=>by cases h⟩,good5 hg.v (by omega),by omega,?_⟩
    exact callN_ok (R1:=0) (p:=2) hE hw (mem_at 41 rfl) hk hK (by omega) hdk hdn hdw hg hN (by omega) (by decide) (.inl rfl) (letter_fn hE hg hb)
   ·have hm:m=8:=by
     rcases h1 with⟨h,_⟩|⟨_,h⟩
     ·exact h
     ·exact absurd h h11
    subst hm
    refine⟨5,[],1+q,⟨.inl ⟨rfl,rfl⟩,fun h=>by cases h⟩,good5 hg.v (by omega),by omega,?_⟩
    exact callN_ok (R1:=0) (p:=2) hE hw (mem_at 39 rfl) hk hK (by omega) hdk hdn hdw hg hN (by omega) (by decide) (.inl rfl) (noFn rfl)
  ·obtain⟨rfl,rfl⟩:=hsame (by omega)
   obtain⟨hdk,w,hdw,hdn⟩:=hdd hd
   simp only[Option.some.injEq,Prod.mk.injEq]at hc
   obtain⟨rfl,rfl⟩:=hc
   refine⟨5,[],1+q,⟨.inl ⟨rfl,rfl⟩,fun h=>by cases h⟩,good5 hg.v (by omega),by omega,?_⟩
   exact callN_ok (R1:=0) (p:=2) hE hw (mem_at 40 rfl) hk hK (by omega) hdk hdn hdw hg hN (by omega) (by decide) (.inl rfl) (noFn rfl)
  ·
   obtain⟨rfl,rfl⟩:=hsame (by omega)
   obtain⟨b,rfl,hb⟩:=h2 rfl
   obtain⟨hdk,w,hdw,hdn⟩:=hdd hd
   simp only[Option.some.injEq,Prod.mk.injEq]at hc
   obtain⟨rfl,rfl⟩:=hc
   refine⟨5,[],1+q,⟨.inl ⟨rfl,rfl⟩,fun h=>by cases h⟩,good5 hg.v (by omega),by omega,?_⟩
   exact callN_ok (R1:=0) (p:=2) hE hw (mem_at 41 rfl) hk hK (by omega) hdk hdn hdw hg hN (by omega) (by decide) (.inl rfl) (letter_fn hE hg hb)
  ·
   obtain⟨rfl,rfl⟩:=hsame (by omega)
   obtain⟨hdk,w,hdw,hdn⟩:=hdd hd
   simp only[Option.some.injEq,Prod.mk.injEq]at hc
   obtain⟨rfl,rfl⟩:=hc
   refine⟨8,[],1+q,⟨.inl ⟨rfl,rfl⟩,fun h=>by cases h⟩,good5 (by omega) (by omega),by omega,?_⟩
   exact callN_ok (R1:=0) (p:=3) hE hw (mem_at 42 rfl) hk hK (by omega) hdk hdn hdw hg hN (by omega) (by decide) (.inl rfl) (noFn rfl)
  ·cases hc
 | @two N d k l p v v' t t' hk hK hd hp h1 h2 ih1 ih2=>
  intro hw
  have hw1:=hw.kid (x:=k) (by rw[hK];simp)
  have hw2:=hw.kid (x:=l) (by rw[hK];simp)
  obtain⟨q,hg,hq,hN⟩:=(ih1 hw1).same (by omega)
  obtain⟨q',hg',hq',hN'⟩:=(ih2 hw2).same (by omega)
  have hsz:=size_kid3 hK
  have hsd:=size_pos d
  have hlts:=hE.arith.lt v v' hg.v hg'.v
  rcases hd with hd|⟨hdk,w,hdw,hdn,_⟩
  ·omega
  have hfn: ∀(r:RowM) (R f c:Nat),(f=79∧c=2∨f=167∧c=3)→R<4294967296→RealPure P W f [u32 v,u32 v'] (u32 R)→r.ks=[(1,5),(2,5)]→r.par=0→ ∀(lr lm:Loc) (s:Nat→Nat),RowAt W N lr lm→ ∀e∈fnEs M.x r [c],PureCall P (.at W (sigM M.x lr lm N (fun j=>if j=1 then(v,t)else(v',t')) R s)) e.1 e.2.1 e.2.2:=by
   intro r R f c hfc hR hW hr2 hr3 lr lm s hr e he
   rcases hfc with⟨rfl,rfl⟩|⟨rfl,rfl⟩
   ·simp only[fnEs,fnE,List.append_nil,List.mem_singleton,kq0,kq1,hr2]at he
    subst he
    exact fn2 hW hR (fnS rfl hg (by omega) hr3 rfl) (fnS rfl hg' (by omega) hr3 rfl)
   ·simp only[fnEs,fnE,List.append_nil,List.mem_singleton,kq0,kq1,hr2]at he
    subst he
    exact fn2 hW hR (fnS rfl hg (by omega) hr3 rfl) (fnS rfl hg' (by omega) hr3 rfl)
  rcases hp with rfl|rfl
  ·rw[if_pos rfl]
   refine⟨5,[],1+q+q',⟨.inl ⟨rfl,rfl⟩,fun h=>by cases h⟩,good5 hlts.1 (by omega),by omega,?_⟩
   exact callT_ok hE hw (mem_at 43 rfl) hk hK (by omega) hdk hdn hdw hg hN hg' hN' hlts.1 (by omega) (hfn _ _ 79 2 (.inl ⟨rfl,rfl⟩) hlts.1 (hE.arith.left v v' hg.v hg'.v) rfl rfl)
  ·rw[if_neg (by decide)]
   refine⟨5,[],1+q+q',⟨.inl ⟨rfl,rfl⟩,fun h=>by cases h⟩,good5 hlts.2.1 (by omega),by omega,?_⟩
   exact callT_ok hE hw (mem_at 44 rfl) hk hK (by omega) hdk hdn hdw hg hN hg' hN' hlts.2.1 (by omega) (hfn _ _ 167 3 (.inr ⟨rfl,rfl⟩) hlts.2.1 (hE.arith.right v v' hg.v hg'.v) rfl rfl)
end
end Go.AM
namespace Go.AM
noncomputable section
variable {P:Program} {W:World}
theorem obj_ok {M:MS} (hmix:P.follows .mixedOrders=true) (hM:MSok M) (h0:0<W.heap.size) {p:Nat} (hp:p<6) (hrun:objRun P M p=true) {N:Tr} (hw:Wf W N) {w:List Nat} (hb:builtsN[p]? =some w) (hk:N.kind=11) (hn:N.name=bytesOf w):NodeM P W M 226 N.val 0 (.ret (ptrV (M.proc p))):=by
 obtain⟨lr,lm,hr⟩:=rowAt hw h0
 intro s hs
 simp only[objRun,rowObj,hb]at hrun
 have hf:(⟨some 11,.lit w,.any,none,.any⟩:Cls).Fits N:=⟨hk,hn,trivial,trivial,trivial⟩
 have hlt:Nat.blt (M.proc p) M.x=true:=hM.proc p (by omega)
 have:=node_ok (P:=P) (W:=W) (K:=noK) (f:=226) (x:=M.x) (n:=3000) (lr:=lr) (lm:=lm) (N:=N) (kids:=N.kids.take 3) (ex:=exM M.x (fun _=>(0,[])) 0 (fun _=>s)) (pre:=M.pre (stp M.x 0 0)) (post:=M.pre (stp M.x 0 0)) (head:=M.hd) (qn:=qnM M.x) (c:=⟨some 11,.lit w,.any,none,.any⟩)
  (cs:=kidsC M.x 0) (m:=0) (ans:= .ret (ptrV (M.proc p))) hmix hw hr hf take3 exM_range noK_ok
  (by exact hrun) (fun z hz=>by cases hz) (fun i h=>qnM_l h) (bndM fun _ _=>by omega) (hM.ok 0 0 (by omega) (by omega)) (hM.ok 0 0 (by omega) (by omega)) (hd_ids hM) (by simp only[Ans.ok,okA,okC,ptrV,idsV];exact hlt)
 have e1:mapL (subV (numOf (look (sigL M.x lr lm N (N.kids.take 3) (exM M.x (fun _=>(0,[])) 0 (fun _=>s)))))) (M.pre (stp M.x 0 0))=M.pre (vn (s+0)):=pre_sub (s:=fun _=>s) hM (by omega) (by omega)
 rw[e1]at this
 exact this
end
end Go.AM
namespace Go.AM
noncomputable section
variable {P:Program} {W:World} {F:Fns} {S:TS}
def clsY (k:Nat) (n:NC) (kc:KC):Cls:=⟨some k,n,.any,none,kc⟩
def rowsLeaf:List Row:=[⟨clsY 25 .any .any,[],mkO 5 1⟩,⟨clsY 26 .any .any,[],mkO 8 1⟩,⟨clsY 28 .any .any,[],10⟩,⟨clsY 29 .any .any,[],mkO 7 10⟩,⟨clsY 30 .any .any,[],6⟩]
def rowTxt (b:Nat):Row:=⟨clsY 27 (.lit [b]) .any,[],mkO 11 6⟩
def rowSetY (kc:KC):Row:=⟨clsY 31 .any kc,[(5,2)],mkO 9 3⟩
def row1Y (k:Nat) (n:NC) (o a:Nat):Row:=⟨clsY k n (.few 1),[(0,o)],a⟩
def row2Y (w:List Nat) (a b ans:Nat):Row:=⟨clsY 35 (.lit w) (.few 2),[(1,b),(0,a)],ans⟩
def rowDY (w:List Nat) (ans:Nat):Row:=⟨clsY 35 (.lit w) (.few 2),[(6,1),(1,5),(0,5)],ans⟩
def rowCY (p o ans:Nat):Row:=⟨clsY 21 .any (.few 2),[(1,o),(3,p)],ans⟩
def rowXY (p x n o ans:Nat):Row:=⟨clsY 21 .any (.few 2),[(x,n),(1,o),(3,p)],ans⟩
def rowTY (p ans:Nat):Row:=⟨clsY 21 .any (.few 3),[(2,5),(1,5),(3,p)],ans⟩
def rowsKY:List Row:=rowsLeaf++[.z0,.few 1,.few 2,.few 3,.more].map rowSetY++[5,6,7,8,9,10,11].map (fun o=>row1Y 32 .any o (parenO o))++[row1Y 33 .any 6 (notO 6),row1Y 33 .any 7 (notO 7),row1Y 34 (.lit [43]) 5 (mkO 5 2),row1Y 34 (.lit [45]) 5 (mkO 5 3),
 row2Y [38] 6 6 (opO 0 6 6 true),row2Y [38] 6 7 (opO 0 6 7 true),row2Y [38] 7 6 (opO 0 7 6 true),row2Y [38] 7 7 (opO 0 7 7 true),row2Y [79,82] 6 6 (opO 1 6 6 true),row2Y [79,82] 6 7 (opO 1 6 7 true),row2Y [79,82] 7 6 (opO 1 7 6 true),row2Y [79,82] 7 7 (opO 1 7 7 true),
 row2Y [43] 5 5 (mkO 5 3),row2Y [45] 5 5 (mkO 5 3),row2Y [42] 5 5 (mkO 5 3),row2Y [43] 9 9 (mkO 9 3),row2Y [45] 9 9 (mkO 9 3),row2Y [42] 9 9 (mkO 9 3),row2Y [47] 9 9 (mkO 9 3),rowDY [68,73,86] (mkO 5 3),rowDY [77,79,68] (mkO 5 4),
 rowXY 1 7 1 5 (mkO 5 3),rowXY 1 7 0 5 (mkO 5 5),rowXY 2 8 1 5 (mkO 7 10),rowXY 2 8 0 5 6,rowCY 3 5 (mkO 5 5),rowCY 3 6 5,rowCY 3 7 (mkO 5 10),rowCY 3 8 (mkO 5 5),rowCY 3 9 (mkO 5 5),rowCY 3 11 (mkO 5 5),rowCY 4 5 (mkO 8 8),rowTY 5 (mkO 5 3),rowTY 6 (mkO 5 3)]
def rowKY (P:Program) (S:TS) (r:Row):Bool:=srcOk r&&rowRunY P S r
def rowPY (P:Program) (S:TS) (p:Nat):Bool:=match builtsN[p]? with
 |some w=>runG P S 89 ⟨⟨some 11,.lit w,.any,none,.any⟩,[],Nat.succ p⟩ (procA S (Nat.succ p))
 |none=>false
structure TabK (P:Program) (S:TS):Prop where
 ok:TSok S
 rows: ∀r∈rowsKY,rowKY P S r=true
 txt: ∀b,b<256→rowKY P S (rowTxt b)=true
 proc: ∀p,p<6→rowPY P S p=true
end
end Go.AM
namespace Go.AM
noncomputable section
variable {P:Program} {W:World} {F:Fns} {S:TS}
structure OA where
 a:Nat
 b:Nat
 c:Nat
 p:Nat
 s:Nat
 q6:Nat
 q7:Nat
def OA.A (O:OA) (D:Nat→Nat×List UInt8):Nat→Nat
 |0=>O.a
 |1=>O.b
 |2=>O.c
 |3=>O.p
 |5=>O.s
 |6=>O.q6
 |7=>O.q7
 |8=>(D 1).1 % 2
 |_=>0
def askedY (asg:List (Nat×Nat)) (i:Nat):Bool:=(asgOf asg i).isSome
def KtyOk (P:Program) (W:World) (S:TS) (N:Tr) (o v:Nat) (t:List UInt8):Prop:=Good o v t∧NodeY P W S 16 N.val (outR S o v t)
section
variable {N:Tr} {lr lm:Loc} {r:Row} {D:Nat→Nat×List UInt8} {O:OA} {R1 R2:Nat}
theorem asgOf_in {asg:List (Nat×Nat)} {e:Nat×Nat} (h:e∈asg):(asgOf asg e.1).isSome=true:=by
 induction asg with
 |nil=>cases h
 |cons x l ih=>
  obtain⟨j,a⟩:=x
  simp only[asgOf]
  cases hb:Nat.beq j e.1 with
  |true=>rfl
  |false=>
   rcases List.mem_cons.1 h with rfl|h
   ·simp at hb
   ·exact ih h
theorem good0:Good 0 0 []:=⟨by omega,by omega,fun h=>(by cases h),fun h=>(by cases h)⟩
theorem kty_row (hmix:P.follows .mixedOrders=true) (hF:ArithOk P W F) (hT:TabK P S) (h0:0<W.heap.size) (hw:Wf W N) (hf:r.c.Fits N) (hrow:rowKY P S r=true)
 (hD: ∀j,j≤2→Good (O.A D j) (D j).1 (D j).2) (hkid: ∀j k,j≤2→askedY r.asg j=true→N.kids[j]? =some k→NodeY P W S 16 k.val (outR S (O.A D j) (D j).1 (D j).2))
 (hproc:askedY r.asg 3=true→O.p<24∧ ∀k,N.kids[0]? =some k→NodeY P W S 89 k.val (procA S O.p)) (h4:askedY r.asg 4=false)
 (hset:askedY r.asg 5=true→NodeY P W S 26 N.sl (setA S O.s (u32 R1))) (h6:askedY r.asg 6=true→F.less 0 (D 1).1=Nat.beq O.q6 1) (h7:askedY r.asg 7=true→F.less (D 1).1 0=Nat.beq O.q7 1)
 (ha: ∀e∈r.asg,e.2=O.A D e.1) (hR:N.kind≠31→R1=res1 F N (O.A D) D∧R2=res2 F (O.A D) D) (h1:R1<4294967296) (h2:R2<4294967296) (hl:r.c.kind=some 35→ ∃w,r.c.name= .lit w):
 NodeY P W S 16 N.val (outR S (r.ans % 16) (srcR N D R1 R2 (r.ans / 16)) (srcTR N (r.ans / 16))):=by
 obtain⟨lr,lm,hr⟩:=rowAt hw h0
 simp only[rowKY,Bool.and_eq_true]at hrow
 have hO:Ora P W S N (O.A D) D R1 R2 (askedY r.asg):=by
  refine⟨fun j k hj ho hk=>⟨hD j hj,hkid j k hj ho hk⟩,fun j hj=>(hD j hj).v,hD,h1,h2,hproc,fun h=>(by rw[h4]at h;cases h),hset,fun h=>?_,fun h=>?_,rfl⟩
  ·rw[show(O.A D 6)=O.q6 from rfl,←h6 h];exact hF.less 0 (D 1).1 (by omega) (hD 1 (by omega)).v
  ·rw[show(O.A D 7)=O.q7 from rfl,←h7 h];exact hF.less (D 1).1 0 (hD 1 (by omega)).v (by omega)
 have haa: ∀e∈r.asg,e.2=O.A D e.1∧askedY r.asg e.1=true:=fun e he=>⟨ha e he,asgOf_in he⟩
 obtain⟨l1,l2⟩:=ansY_lit (S:=S) (lr:=lr) (lm:=lm) (D:=D) (R1:=R1) (R2:=R2) hT.ok hrow.1 hf hw (fun j hj=>(hD j hj).v) h1 h2
 have hreck: ∀t∈reck S.x r.c r.asg,PureCall P (.at W (sigY S.x lr lm N D R1 R2)) t.1 t.2.1 t.2.2:=by
  by_cases h31:N.kind=31
  ·intro t ht
   have hkd:=hf.kind
   unfold reck at ht
   split at ht
   ·rename_i h;rw[h]at hkd;have:N.kind=35:=hkd;omega
   ·rename_i h;rw[h]at hkd;have:N.kind=34:=hkd;omega
   ·rename_i h;rw[h]at hkd;have:N.kind=21:=hkd;omega
   ·cases ht
  ·obtain⟨e1,e2⟩:=hR h31
   exact reck_ok (S:=S) (r:=r) hF hw hr hf hO haa e1 e2 hl
 have hn:=row_node hmix hT.ok hw hr hf hO haa hreck l2 hrow.2
 rw[l1]at hn
 exact hn
theorem kty_proc (hmix:P.follows .mixedOrders=true) (hT:TabK P S) (h0:0<W.heap.size) {d:Tr} {p:Nat} {w:List Nat} (hp:p<6) (hw:Wf W d) (hk:d.kind=11) (hb:builtsN[p]? =some w) (hn:d.name=bytesOf w):NodeY P W S 89 d.val (procA S (p+1)):=by
 obtain⟨lr,lm,hr⟩:=rowAt hw h0
 have h:=hT.proc p hp
 simp only[rowPY,hb]at h
 have hf:(⟨some 11,.lit w,.any,none,.any⟩:Cls).Fits d:=⟨hk,hn,trivial,trivial,trivial⟩
 have hO:Ora P W S d (fun _=>0) (fun _=>(0,[])) 0 0 (fun _=>false):=
  ⟨fun j k hj h _=>(by cases h),fun _ _=>(by decide),fun _ _=>good0,by decide,by decide,fun h=>(by cases h),fun h=>(by cases h),fun h=>(by cases h),fun h=>(by cases h),fun h=>(by cases h),rfl⟩
 have:=row_gen (ans:=procA S (p+1)) (r:=⟨⟨some 11,.lit w,.any,none,.any⟩,[],Nat.succ p⟩) hmix hT.ok hw hr hf hO (fun e he=>by cases he) (fun t ht=>by cases ht) (hT.ok.proc p (by omega)) h
 exact this
theorem goodK {o v:Nat} (hv:v<4294967296) (ho:o<11):Good o v []:=⟨by omega,hv,fun h=>by omega,fun h=>by omega⟩
theorem kty_leaf (hmix:P.follows .mixedOrders=true) (hF:ArithOk P W F) (hT:TabK P S) (h0:0<W.heap.size) (hw:Wf W N) {k:Nat} {n:NC} {a:Nat} (hr:rowKY P S ⟨clsY k n .any,[],a⟩=true) (hk:N.kind=(k:Nat)) (hn:n.fits N.name) (hk35:k≠35):
 NodeY P W S 16 N.val (outR S (a % 16) (srcR N (fun _=>(0,[])) (res1 F N (OA.A ⟨0,0,0,0,0,0,0⟩ fun _=>(0,[])) fun _=>(0,[])) (res2 F (OA.A ⟨0,0,0,0,0,0,0⟩ fun _=>(0,[])) fun _=>(0,[])) (a / 16)) (srcTR N (a / 16))):=by
 have hD: ∀j,j≤2→Good (OA.A ⟨0,0,0,0,0,0,0⟩ (fun _=>(0,[])) j) (0:Nat) []:=by
  intro j hj
  have:j=0∨j=1∨j=2:=by omega
  rcases this with rfl|rfl|rfl<;>exact good0
 have hlt:=res_lt (N:=N) (A:=OA.A ⟨0,0,0,0,0,0,0⟩ fun _=>(0,[])) (D:=fun _=>(0,[])) hF (fun _ _=>by show(0:Nat)<_;omega)
 exact kty_row (r:=⟨clsY k n .any,[],a⟩) (O:=⟨0,0,0,0,0,0,0⟩) (D:=fun _=>(0,[])) hmix hF hT h0 hw ⟨hk,hn,trivial,trivial,trivial⟩ hr hD (fun j k _ h=>by cases h) (fun h=>by cases h) rfl (fun h=>by cases h) (fun h=>by cases h) (fun h=>by cases h) (fun e he=>by cases he) (fun _=>⟨rfl,rfl⟩) hlt.1 hlt.2
  (fun h=>by simp only[clsY,Option.some.injEq]at h;exact absurd h hk35)
theorem kty_one (hmix:P.follows .mixedOrders=true) (hF:ArithOk P W F) (hT:TabK P S) (h0:0<W.heap.size) (hw:Wf W N) {k:Nat} {n:NC} {a o v:Nat} {t:List UInt8} {K:Tr} (hr:rowKY P S (row1Y k n o a)=true) (hk:N.kind=(k:Nat)) (hn:n.fits N.name) (hk35:k≠35) (hK:N.kids=[K]) (hg:KtyOk P W S K o v t):
 NodeY P W S 16 N.val (outR S (a % 16) (srcR N (fun j=>if j=0 then(v,t)else(0,[])) (res1 F N (OA.A ⟨o,0,0,0,0,0,0⟩ fun j=>if j=0 then(v,t)else(0,[])) fun j=>if j=0 then(v,t)else(0,[])) (res2 F (OA.A ⟨o,0,0,0,0,0,0⟩ fun j=>if j=0 then(v,t)else(0,[])) fun j=>if j=0 then(v,t)else(0,[])) (a / 16)) (srcTR N (a / 16))):=by
 have hD: ∀j,j≤2→Good (OA.A ⟨o,0,0,0,0,0,0⟩ (fun j=>if j=0 then(v,t)else(0,[])) j) (if j=0 then(v,t)else(0,[])).1 (if j=0 then(v,t)else(0,[])).2:=by
  intro j hj
  have:j=0∨j=1∨j=2:=by omega
  rcases this with rfl|rfl|rfl
  ·exact hg.1
  ·exact good0
  ·exact good0
 have hlt:=res_lt (N:=N) (A:=OA.A ⟨o,0,0,0,0,0,0⟩ fun j=>if j=0 then(v,t)else(0,[])) (D:=fun j=>if j=0 then(v,t)else(0,[])) hF (fun j hj=>(hD j hj).v)
 refine kty_row (r:=row1Y k n o a) (O:=⟨o,0,0,0,0,0,0⟩) (D:=fun j=>if j=0 then(v,t)else(0,[])) hmix hF hT h0 hw ⟨hk,hn,trivial,trivial,?_⟩ hr hD ?_ (fun h=>by cases h) rfl (fun h=>by cases h) (fun h=>by cases h) (fun h=>by cases h) ?_ (fun _=>⟨rfl,rfl⟩) hlt.1 hlt.2
  (fun h=>by simp only[row1Y,clsY,Option.some.injEq]at h;exact absurd h hk35)
 ·rw[hK];exact⟨rfl,by omega,by omega⟩
 ·intro j k' hj ho hk'
  have:j=0:=by
   have h3:j=0∨j=1∨j=2:=by omega
   rcases h3 with rfl|rfl|rfl
   ·rfl
   ·cases ho
   ·cases ho
  subst this
  rw[hK]at hk';cases hk'
  exact hg.2
 ·intro e he
  simp only[row1Y,List.mem_singleton]at he
  subst he;rfl
theorem kty_two (hmix:P.follows .mixedOrders=true) (hF:ArithOk P W F) (hT:TabK P S) (h0:0<W.heap.size) (hw:Wf W N) {w:List Nat} {ans a v b v':Nat} {t t':List UInt8} {K K':Tr} {r:Row} (hrow:rowKY P S r=true) (hr:r=row2Y w a b ans∨(a=5∧b=5∧F.less 0 v'=true∧r=rowDY w ans)) (hk:N.kind=35) (hn:N.name=bytesOf w) (hK:N.kids=[K,K']) (hg:KtyOk P W S K a v t) (hg':KtyOk P W S K' b v' t'):
 NodeY P W S 16 N.val (outR S (ans % 16) (srcR N (fun j=>if j=0 then(v,t)else if j=1 then(v',t')else(0,[])) (res1 F N (OA.A ⟨a,b,0,0,0,1,0⟩ fun j=>if j=0 then(v,t)else if j=1 then(v',t')else(0,[])) fun j=>if j=0 then(v,t)else if j=1 then(v',t')else(0,[])) (res2 F (OA.A ⟨a,b,0,0,0,1,0⟩ fun j=>if j=0 then(v,t)else if j=1 then(v',t')else(0,[])) fun j=>if j=0 then(v,t)else if j=1 then(v',t')else(0,[])) (ans / 16)) (srcTR N (ans / 16))):=by
 generalize hDD:(fun j:Nat=>if j=0 then(v,t)else if j=1 then(v',t')else(0,[]))=D
 have d0:D 0=(v,t):=by rw[←hDD];rfl
 have d1:D 1=(v',t'):=by rw[←hDD];rfl
 have d2:D 2=(0,[]):=by rw[←hDD];rfl
 have hD: ∀j,j≤2→Good (OA.A ⟨a,b,0,0,0,1,0⟩ D j) (D j).1 (D j).2:=by
  intro j hj
  have:j=0∨j=1∨j=2:=by omega
  rcases this with rfl|rfl|rfl
  ·rw[d0];exact hg.1
  ·rw[d1];exact hg'.1
  ·rw[d2];exact good0
 have hlt:=res_lt (N:=N) (A:=OA.A ⟨a,b,0,0,0,1,0⟩ D) (D:=D) hF (fun j hj=>(hD j hj).v)
 have hkid: ∀j k,j≤2→j≠2→N.kids[j]? =some k→NodeY P W S 16 k.val (outR S (OA.A ⟨a,b,0,0,0,1,0⟩ D j) (D j).1 (D j).2):=by
  intro j k' hj h2 hk'
  have h3:j=0∨j=1:=by omega
  rw[hK]at hk'
  rcases h3 with rfl|rfl
  ·cases hk';rw[d0];exact hg.2
  ·cases hk';rw[d1];exact hg'.2
 rcases hr with rfl|⟨rfl,rfl,hl,rfl⟩
 ·refine kty_row (r:=row2Y w a b ans) (O:=⟨a,b,0,0,0,1,0⟩) (D:=D) hmix hF hT h0 hw ⟨hk,hn,trivial,trivial,by rw[hK];exact⟨rfl,by omega,by omega⟩⟩ hrow hD (fun j k hj ho hkk=>hkid j k hj (fun h=>by subst h;cases ho) hkk) (fun h=>by cases h) rfl (fun h=>by cases h) (fun h=>by cases h) (fun h=>by cases h) ?_ (fun _=>⟨rfl,rfl⟩) hlt.1 hlt.2 (fun _=>⟨w,rfl⟩)
  intro e he
  simp only[row2Y,List.mem_cons,List.mem_nil_iff,or_false]at he
  rcases he with rfl|rfl<;>rfl
 ·refine kty_row (r:=rowDY w ans) (O:=⟨5,5,0,0,0,1,0⟩) (D:=D) hmix hF hT h0 hw ⟨hk,hn,trivial,trivial,by rw[hK];exact⟨rfl,by omega,by omega⟩⟩ hrow hD (fun j k hj ho hkk=>hkid j k hj (fun h=>by subst h;cases ho) hkk) (fun h=>by cases h) rfl (fun h=>by cases h) (fun _=>by rw[d1];exact hl) (fun h=>by cases h) ?_ (fun _=>⟨rfl,rfl⟩) hlt.1 hlt.2 (fun _=>⟨w,rfl⟩)
  intro e he
  simp only[rowDY,List.mem_cons,List.mem_nil_iff,or_false]at he
  rcases he with rfl|rfl|rfl<;>rfl
theorem kty_call (hmix:P.follows .mixedOrders=true) (hF:ArithOk P W F) (hT:TabK P S) (h0:0<W.heap.size) (hw:Wf W N) {p q7 ans o v:Nat} {t:List UInt8} {d K:Tr} {w:List Nat} {r:Row} (hrow:rowKY P S r=true) (hr:r=rowCY (p+1) o ans∨(r=rowXY (p+1) 7 q7 o ans∧F.less v 0=Nat.beq q7 1)∨(∃n,n=v % 2∧r=rowXY (p+1) 8 n o ans)) (hk:N.kind=21) (hK:N.kids=[d,K]) (hp:p<6) (hd:d.kind=11) (hdn:d.name=bytesOf w) (hwd:builtsN[p]? =some w) (hg:KtyOk P W S K o v t):
 NodeY P W S 16 N.val (outR S (ans % 16) (srcR N (fun j=>if j=1 then(v,t)else(0,[])) (res1 F N (OA.A ⟨0,o,0,p+1,0,0,q7⟩ fun j=>if j=1 then(v,t)else(0,[])) fun j=>if j=1 then(v,t)else(0,[])) (res2 F (OA.A ⟨0,o,0,p+1,0,0,q7⟩ fun j=>if j=1 then(v,t)else(0,[])) fun j=>if j=1 then(v,t)else(0,[])) (ans / 16)) (srcTR N (ans / 16))):=by
 generalize hDD:(fun j:Nat=>if j=1 then(v,t)else(0,[]))=D
 have d0:D 0=(0,[]):=by rw[←hDD];rfl
 have d1:D 1=(v,t):=by rw[←hDD];rfl
 have d2:D 2=(0,[]):=by rw[←hDD];rfl
 have hD: ∀j,j≤2→Good (OA.A ⟨0,o,0,p+1,0,0,q7⟩ D j) (D j).1 (D j).2:=by
  intro j hj
  have:j=0∨j=1∨j=2:=by omega
  rcases this with rfl|rfl|rfl
  ·rw[d0];exact good0
  ·rw[d1];exact hg.1
  ·rw[d2];exact good0
 have hlt:=res_lt (N:=N) (A:=OA.A ⟨0,o,0,p+1,0,0,q7⟩ D) (D:=D) hF (fun j hj=>(hD j hj).v)
 have hkid: ∀j k,j≤2→j≠0→j≠2→N.kids[j]? =some k→NodeY P W S 16 k.val (outR S (OA.A ⟨0,o,0,p+1,0,0,q7⟩ D j) (D j).1 (D j).2):=by
  intro j k' hj h0' h2 hk'
  have h3:j=1:=by omega
  subst h3
  rw[hK]at hk';cases hk';rw[d1];exact hg.2
 have hpr:p+1<24∧ ∀k,N.kids[0]? =some k→NodeY P W S 89 k.val (procA S (p+1)):=⟨by omega,fun k hk'=>by
  rw[hK]at hk';cases hk'
  exact kty_proc hmix hT h0 hp (hw.kid (by rw[hK];simp)) hd hwd hdn⟩
 have hfit:(clsY 21 .any (.few 2)).Fits N:=⟨hk,trivial,trivial,trivial,by rw[hK];exact⟨rfl,by omega,by omega⟩⟩
 rcases hr with rfl|⟨rfl,hl⟩|⟨n,hn,rfl⟩
 ·refine kty_row (r:=rowCY (p+1) o ans) (O:=⟨0,o,0,p+1,0,0,q7⟩) (D:=D) hmix hF hT h0 hw hfit hrow hD (fun j k hj ho hkk=>hkid j k hj (fun h=>by subst h;cases ho) (fun h=>by subst h;cases ho) hkk) (fun _=>hpr) rfl (fun h=>by cases h) (fun h=>by cases h) (fun h=>by cases h) ?_ (fun _=>⟨rfl,rfl⟩) hlt.1 hlt.2 (fun h=>by cases h)
  intro e he
  simp only[rowCY,List.mem_cons,List.mem_nil_iff,or_false]at he
  rcases he with rfl|rfl<;>rfl
 ·refine kty_row (r:=rowXY (p+1) 7 q7 o ans) (O:=⟨0,o,0,p+1,0,0,q7⟩) (D:=D) hmix hF hT h0 hw hfit hrow hD (fun j k hj ho hkk=>hkid j k hj (fun h=>by subst h;cases ho) (fun h=>by subst h;cases ho) hkk) (fun _=>hpr) rfl (fun h=>by cases h) (fun h=>by cases h) (fun _=>by rw[d1];exact hl) ?_ (fun _=>⟨rfl,rfl⟩) hlt.1 hlt.2 (fun h=>by cases h)
  intro e he
  simp only[rowXY,List.mem_cons,List.mem_nil_iff,or_false]at he
  rcases he with rfl|rfl|rfl<;>rfl
 ·refine kty_row (r:=rowXY (p+1) 8 n o ans) (O:=⟨0,o,0,p+1,0,0,q7⟩) (D:=D) hmix hF hT h0 hw hfit hrow hD (fun j k hj ho hkk=>hkid j k hj (fun h=>by subst h;cases ho) (fun h=>by subst h;cases ho) hkk) (fun _=>hpr) rfl (fun h=>by cases h) (fun h=>by cases h) (fun h=>by cases h) ?_ (fun _=>⟨rfl,rfl⟩) hlt.1 hlt.2 (fun h=>by cases h)
  intro e he
  simp only[rowXY,List.mem_cons,List.mem_nil_iff,or_false]at he
  rcases he with rfl|rfl|rfl
  ·show n=(D 1).1 % 2;rw[d1];exact hn
  ·rfl
  ·rfl
theorem kty_callT (hmix:P.follows .mixedOrders=true) (hF:ArithOk P W F) (hT:TabK P S) (h0:0<W.heap.size) (hw:Wf W N) {p ans v v':Nat} {t t':List UInt8} {d K K':Tr} {w:List Nat} (hrow:rowKY P S (rowTY (p+1) ans)=true) (hk:N.kind=21) (hK:N.kids=[d,K,K']) (hp:p<6) (hd:d.kind=11) (hdn:d.name=bytesOf w) (hwd:builtsN[p]? =some w) (hg:KtyOk P W S K 5 v t) (hg':KtyOk P W S K' 5 v' t'):
 NodeY P W S 16 N.val (outR S (ans % 16) (srcR N (fun j=>if j=1 then(v,t)else if j=2 then(v',t')else(0,[])) (res1 F N (OA.A ⟨0,5,5,p+1,0,0,0⟩ fun j=>if j=1 then(v,t)else if j=2 then(v',t')else(0,[])) fun j=>if j=1 then(v,t)else if j=2 then(v',t')else(0,[])) (res2 F (OA.A ⟨0,5,5,p+1,0,0,0⟩ fun j=>if j=1 then(v,t)else if j=2 then(v',t')else(0,[])) fun j=>if j=1 then(v,t)else if j=2 then(v',t')else(0,[])) (ans / 16)) (srcTR N (ans / 16))):=by
 generalize hDD:(fun j:Nat=>if j=1 then(v,t)else if j=2 then(v',t')else(0,[]))=D
 have d0:D 0=(0,[]):=by rw[←hDD];rfl
 have d1:D 1=(v,t):=by rw[←hDD];rfl
 have d2:D 2=(v',t'):=by rw[←hDD];rfl
 have hD: ∀j,j≤2→Good (OA.A ⟨0,5,5,p+1,0,0,0⟩ D j) (D j).1 (D j).2:=by
  intro j hj
  have:j=0∨j=1∨j=2:=by omega
  rcases this with rfl|rfl|rfl
  ·rw[d0];exact good0
  ·rw[d1];exact hg.1
  ·rw[d2];exact hg'.1
 have hlt:=res_lt (N:=N) (A:=OA.A ⟨0,5,5,p+1,0,0,0⟩ D) (D:=D) hF (fun j hj=>(hD j hj).v)
 refine kty_row (r:=rowTY (p+1) ans) (O:=⟨0,5,5,p+1,0,0,0⟩) (D:=D) hmix hF hT h0 hw ⟨hk,trivial,trivial,trivial,by rw[hK];exact⟨rfl,by omega,by omega⟩⟩ hrow hD ?_ (fun _=>⟨by show p+1<24;omega,fun k hk'=>by
  rw[hK]at hk';cases hk'
  exact kty_proc hmix hT h0 hp (hw.kid (by rw[hK];simp)) hd hwd hdn⟩) rfl (fun h=>by cases h) (fun h=>by cases h) (fun h=>by cases h) ?_ (fun _=>⟨rfl,rfl⟩) hlt.1 hlt.2 (fun h=>by cases h)
 ·intro j k' hj ho hk'
  have h3:j=0∨j=1∨j=2:=by omega
  rw[hK]at hk'
  rcases h3 with rfl|rfl|rfl
  ·cases ho
  ·cases hk';rw[d1];exact hg.2
  ·cases hk';rw[d2];exact hg'.2
 ·intro e he
  simp only[rowTY,List.mem_cons,List.mem_nil_iff,or_false]at he
  rcases he with rfl|rfl|rfl<;>rfl
end
end
end Go.AM
namespace Go.AM
noncomputable section
variable {P:Program} {W:World} {F:Fns} {S:TS}
theorem memK (hT:TabK P S) {r:Row} (i:Nat) (h:rowsKY[i]? =some r):rowKY P S r=true:=hT.rows _ (List.mem_of_getElem? h)
section
variable {N:Tr} {A:Nat→Nat} {D:Nat→Nat×List UInt8}
theorem res1_reck (hk:N.kind=35) (h1:formO (A 0)≠5) (h2:N.name.length≠3):res1 F N A D=F.reck N.name (natV (A 0) (D 0).1) (natV (A 1) (D 1).1):=by unfold res1;simp only[];rw[if_pos hk,if_neg h1,if_neg h2]
theorem res1_sum (hk:N.kind=35) (h1:formO (A 0)=5):res1 F N A D=F.sum N.name (natV (A 0) (D 0).1) (natV (A 1) (D 1).1):=by unfold res1;simp only[];rw[if_pos hk,if_pos h1]
theorem res1_div (hk:N.kind=35) (h1:formO (A 0)≠5) (h2:N.name.length=3):res1 F N A D=F.div (natV (A 0) (D 0).1) (natV (A 1) (D 1).1):=by unfold res1;simp only[];rw[if_pos hk,if_neg h1,if_pos h2]
theorem res1_neg (hk:N.kind=34):res1 F N A D=F.neg (natV (A 0) (D 0).1):=by unfold res1;simp only[];rw[if_neg (by omega),if_pos hk]
theorem res1_abs (hk:N.kind=21) (h1:A 3≠5) (h2:A 3≠6):res1 F N A D=F.neg (natV (A 1) (D 1).1):=by unfold res1;simp only[];rw[if_neg (by omega),if_neg (by omega),if_neg h1,if_neg h2]
theorem res1_left (hk:N.kind=21) (h1:A 3=5):res1 F N A D=F.left (natV (A 1) (D 1).1) (natV (A 2) (D 2).1):=by unfold res1;simp only[];rw[if_neg (by omega),if_neg (by omega),if_pos h1]
theorem res1_right (hk:N.kind=21) (h1:A 3=6):res1 F N A D=F.right (natV (A 1) (D 1).1) (natV (A 2) (D 2).1):=by unfold res1;simp only[];rw[if_neg (by omega),if_neg (by omega),if_neg (by omega),if_pos h1]
end
def SetK (P:Program) (W:World) (S:TS) (F:Fns):Prop:= ∀N,Wf W N→ ∀vs:List Nat,vs.length=N.kids.length→(∀(i:Nat) (k:Tr) (v:Nat),N.kids[i]? =some k→vs[i]? =some v→KtyOk P W S k 5 v [])→NodeY P W S 26 N.sl (setA S 2 (u32 (vs.foldl (fun a v=>a|||F.left 1 v) 0)))
theorem kt_rngY {N:Tr} {o v:Nat} {t:List UInt8} (h:KT F N o v t):5≤o∧o≤11:=by
 induction h with
 |paren _ _ _ ih=>split<;>omega
 |not _ _ _ ho ih=>split<;>omega
 | @opB N k l w c a b v v' t t' hk hK hn hws hc h1 h2 ha hb ih1 ih2=>
  have hc':c=0∨c=1:=by omega
  rcases hc' with rfl|rfl<;>rcases ha with rfl|rfl<;>rcases hb with rfl|rfl<;>decide
 | @one N d k p o v o' v' t hk hK hd hkt hc ih=>
  unfold call1 at hc
  split at hc<;>first|(cases hc;done)|(simp only[Option.some.injEq,Prod.mk.injEq]at hc;omega)|skip
  split at hc<;>(simp only[Option.some.injEq,Prod.mk.injEq]at hc;omega)
 |_=>omega
theorem kty_ok (hmix:P.follows .mixedOrders=true) (hF:ArithOk P W F) (hT:TabK P S) (h0:0<W.heap.size) (hSet:SetK P W S F) {N:Tr} {o v:Nat} {t:List UInt8} (h:KT F N o v t):Wf W N→KtyOk P W S N o v t:=by
 induction h with
 | @num N hk=>intro hw;exact⟨goodK hw.value (by omega),kty_leaf hmix hF hT h0 hw (memK hT 0 rfl) hk trivial (by omega)⟩
 | @chr N hk hv=>intro hw;exact⟨goodK hw.value (by omega),kty_leaf hmix hF hT h0 hw (memK hT 1 rfl) hk trivial (by omega)⟩
 | @txt N b hk hn=>
  intro hw
  refine⟨⟨by omega,by have:=b.toNat_lt;omega,fun _=>rfl,fun h=>by cases h⟩,?_⟩
  have hb:N.name=bytesOf [b.toNat]:=by rw[hn];simp[bytesOf]
  have:=kty_leaf hmix hF hT h0 hw (hT.txt b.toNat b.toNat_lt) hk hb (by omega)
  have e: ∀R1 R2 D,outR S (mkO 11 6 % 16) (srcR N D R1 R2 (mkO 11 6 / 16)) (srcTR N (mkO 11 6 / 16))=outR S 11 b.toNat [b]:=by
   intro R1 R2 D
   show outR S 11 (match N.name with|[b]=>b.toNat|_=>0) N.name=_
   rw[hn]
  rw[e]at this
  exact this
 | @nil N hk=>intro hw;exact⟨goodK (by omega) (by omega),kty_leaf hmix hF hT h0 hw (memK hT 2 rfl) hk trivial (by omega)⟩
 | @tru N hk=>intro hw;exact⟨goodK (by omega) (by omega),kty_leaf hmix hF hT h0 hw (memK hT 3 rfl) hk trivial (by omega)⟩
 | @fls N hk=>intro hw;exact⟨goodK (by omega) (by omega),kty_leaf hmix hF hT h0 hw (memK hT 4 rfl) hk trivial (by omega)⟩
 | @set N vs hk hlen hkids ih=>
  intro hw
  have hkid: ∀(i:Nat) (k:Tr) (v:Nat),N.kids[i]? =some k→vs[i]? =some v→KtyOk P W S k 5 v []:=fun i k v h1 h2=>ih i k v h1 h2 (hw.kid (List.mem_of_getElem? h1))
  have hvl: ∀v∈vs,v<4294967296:=by
   intro v hv
   obtain⟨i,hi⟩:=List.mem_iff_getElem?.1 hv
   have hlt:i<N.kids.length:=by rw[←hlen];exact(List.getElem?_eq_some_iff.1 hi).1
   exact(hkid i _ v (List.getElem?_eq_getElem hlt) hi).1.v
  have hfold: ∀(l:List Nat) (a:Nat),a<4294967296→(∀v∈l,v<4294967296)→l.foldl (fun a v=>a|||F.left 1 v) a<4294967296:=by
   intro l
   induction l with
   |nil=>intro a ha _;exact ha
   |cons v l ihl=>
    intro a ha hl
    exact ihl _ (Nat.or_lt_two_pow (n:=32) ha (hF.lt 1 v (by omega) (hl v (by simp))).1) (fun v hv=>hl v (by simp[hv]))
  have hlt:=hfold vs 0 (by omega) hvl
  have hs:=hSet N hw vs hlen hkid
  refine⟨goodK hlt (by omega),?_⟩
  have key: ∀ {kc:KC} (i:Nat),rowsKY[i]? =some (rowSetY kc)→kc.fits N.kids.length→NodeY P W S 16 N.val (outR S 9 (vs.foldl (fun a v=>a|||F.left 1 v) 0) []):=by
   intro kc i hi hf
   have hD: ∀j,j≤2→Good (OA.A ⟨0,0,0,0,2,0,0⟩ (fun _=>(0,[])) j) (0:Nat) []:=by
    intro j hj
    have:j=0∨j=1∨j=2:=by omega
    rcases this with rfl|rfl|rfl<;>exact good0
   have:=kty_row (r:=rowSetY kc) (O:=⟨0,0,0,0,2,0,0⟩) (D:=fun _=>(0,[])) (R1:=vs.foldl (fun a v=>a|||F.left 1 v) 0) (R2:=0) hmix hF hT h0 hw ⟨hk,trivial,trivial,trivial,hf⟩ (memK hT i hi) hD (fun j k hj ho _=>by
    have h3:j=0∨j=1∨j=2:=by omega
    rcases h3 with rfl|rfl|rfl<;>cases ho) (fun h=>by cases h) rfl (fun _=>hs) (fun h=>by cases h) (fun h=>by cases h) (fun e he=>by
    simp only[rowSetY,List.mem_singleton]at he;subst he;rfl) (fun h=>absurd hk h) hlt (by omega) (fun h=>by cases h)
   rw[show(rowSetY kc).ans % 16=9 from(rfl:(57:Nat) % 16=9),show(rowSetY kc).ans / 16=3 from(rfl:(57:Nat) / 16=3)]at this
   exact this
  rcases Nat.lt_or_ge N.kids.length 4 with h4|h4
  ·have hc:N.kids.length=0∨N.kids.length=1∨N.kids.length=2∨N.kids.length=3:=by omega
   rcases hc with hc|hc|hc|hc
   ·exact key 5 rfl hc
   ·exact key 6 rfl ⟨hc,by omega,by omega⟩
   ·exact key 7 rfl ⟨hc,by omega,by omega⟩
   ·exact key 8 rfl ⟨hc,by omega,by omega⟩
  ·exact key 9 rfl h4
 | @paren N k o v t hk hK hkt ih=>
  intro hw
  have hg:=ih (hw.kid (by rw[hK];simp))
  have ho:=kt_rngY hkt
  have hm:o=5∨o=6∨o=7∨o=8∨o=9∨o=10∨o=11:=by omega
  have hlt:natV o v<4294967296:=natV_lt hg.1.v
  refine⟨goodK hlt (by split<;>omega),?_⟩
  rcases hm with rfl|rfl|rfl|rfl|rfl|rfl|rfl
  ·exact kty_one hmix hF hT h0 hw (memK hT 10 rfl) hk trivial (by omega) hK hg
  ·exact kty_one hmix hF hT h0 hw (memK hT 11 rfl) hk trivial (by omega) hK hg
  ·exact kty_one hmix hF hT h0 hw (memK hT 12 rfl) hk trivial (by omega) hK hg
  ·exact kty_one hmix hF hT h0 hw (memK hT 13 rfl) hk trivial (by omega) hK hg
  ·exact kty_one hmix hF hT h0 hw (memK hT 14 rfl) hk trivial (by omega) hK hg
  ·exact kty_one hmix hF hT h0 hw (memK hT 15 rfl) hk trivial (by omega) hK hg
  ·exact kty_one hmix hF hT h0 hw (memK hT 16 rfl) hk trivial (by omega) hK hg
 | @not N k o v t hk hK hkt ho ih=>
  intro hw
  have hg:=ih (hw.kid (by rw[hK];simp))
  rcases ho with rfl|rfl
  ·exact⟨goodK (by decide) (by decide),kty_one hmix hF hT h0 hw (memK hT 17 rfl) hk trivial (by omega) hK hg⟩
  ·exact⟨goodK (by decide) (by decide),kty_one hmix hF hT h0 hw (memK hT 18 rfl) hk trivial (by omega) hK hg⟩
 | @sign N k w v t hk hK hn hws hkt ih=>
  intro hw
  have hg:=ih (hw.kid (by rw[hK];simp))
  have hws2:w=[43]∨w=[45]:=by simpa[signs]using hws
  rcases hws2 with rfl|rfl
  ·rw[if_neg (by decide)]
   exact⟨goodK hg.1.v (by omega),kty_one hmix hF hT h0 hw (memK hT 19 rfl) hk hn (by omega) hK hg⟩
  ·rw[if_pos rfl]
   have hlt:F.neg v<4294967296:=(hF.lt v v hg.1.v hg.1.v).2.2.2.2.1
   refine⟨goodK hlt (by omega),?_⟩
   have:=kty_one hmix hF hT h0 hw (memK hT 20 rfl) hk hn (by omega) hK hg
   generalize res2 F _ _=R2 at this
   have e:res1 F N (OA.A ⟨5,0,0,0,0,0,0⟩ fun j=>if j=0 then(v,t)else(0,[])) (fun j=>if j=0 then(v,t)else(0,[]))=F.neg v:=by
    exact res1_neg hk
   rw[e]at this
   exact this
 | @opB N k l w c a b v v' t t' hk hK hn hws hc h1 h2 ha hb ih1 ih2=>
  intro hw
  have hg:=ih1 (hw.kid (by rw[hK];simp))
  have hg':=ih2 (hw.kid (by rw[hK];simp))
  have hwc:(w=[38]∧c=0)∨(w=[79,82]∧c=1):=by
   simp only[opsAll,List.mem_cons,Prod.mk.injEq,List.mem_nil_iff,or_false]at hws
   rcases hws with⟨rfl,h⟩|⟨rfl,h⟩|⟨rfl,h⟩|⟨rfl,h⟩|⟨rfl,h⟩|⟨rfl,h⟩|⟨rfl,h⟩|⟨rfl,h⟩|⟨rfl,h⟩|⟨rfl,h⟩|⟨rfl,h⟩|⟨rfl,h⟩|⟨rfl,h⟩|⟨rfl,h⟩|⟨rfl,h⟩<;>
    first|omega|exact .inl ⟨rfl,h⟩|exact .inr ⟨rfl,h⟩
  rcases hwc with⟨rfl,rfl⟩|⟨rfl,rfl⟩<;>rcases ha with rfl|rfl<;>rcases hb with rfl|rfl
  ·exact⟨goodK (by decide) (by decide),kty_two hmix hF hT h0 hw (memK hT 21 rfl) (.inl rfl) hk hn hK hg hg'⟩
  ·exact⟨goodK (by decide) (by decide),kty_two hmix hF hT h0 hw (memK hT 22 rfl) (.inl rfl) hk hn hK hg hg'⟩
  ·exact⟨goodK (by decide) (by decide),kty_two hmix hF hT h0 hw (memK hT 23 rfl) (.inl rfl) hk hn hK hg hg'⟩
  ·exact⟨goodK (by decide) (by decide),kty_two hmix hF hT h0 hw (memK hT 24 rfl) (.inl rfl) hk hn hK hg hg'⟩
  ·exact⟨goodK (by decide) (by decide),kty_two hmix hF hT h0 hw (memK hT 25 rfl) (.inl rfl) hk hn hK hg hg'⟩
  ·exact⟨goodK (by decide) (by decide),kty_two hmix hF hT h0 hw (memK hT 26 rfl) (.inl rfl) hk hn hK hg hg'⟩
  ·exact⟨goodK (by decide) (by decide),kty_two hmix hF hT h0 hw (memK hT 27 rfl) (.inl rfl) hk hn hK hg hg'⟩
  ·exact⟨goodK (by decide) (by decide),kty_two hmix hF hT h0 hw (memK hT 28 rfl) (.inl rfl) hk hn hK hg hg'⟩
 | @opI N k l w v v' t t' hk hK hn hws h1 h2 ih1 ih2=>
  intro hw
  have hg:=ih1 (hw.kid (by rw[hK];simp))
  have hg':=ih2 (hw.kid (by rw[hK];simp))
  have hwc:w=[43]∨w=[45]∨w=[42]:=by
   simp only[opsAll,List.mem_cons,Prod.mk.injEq,List.mem_nil_iff,or_false]at hws
   rcases hws with⟨rfl,h⟩|⟨rfl,h⟩|⟨rfl,h⟩|⟨rfl,h⟩|⟨rfl,h⟩|⟨rfl,h⟩|⟨rfl,h⟩|⟨rfl,h⟩|⟨rfl,h⟩|⟨rfl,h⟩|⟨rfl,h⟩|⟨rfl,h⟩|⟨rfl,h⟩|⟨rfl,h⟩|⟨rfl,h⟩<;>
    first|omega|exact .inl rfl|exact .inr (.inl rfl)|exact .inr (.inr rfl)
  have hlt:=(hF.lt v v' hg.1.v hg'.1.v).2.2.2.2.2.2 N.name
  refine⟨goodK hlt (by omega),?_⟩
  have hl3:N.name.length≠3:=by rw[hn];rcases hwc with rfl|rfl|rfl<;>decide
  have key: ∀(i:Nat),rowsKY[i]? =some (row2Y w 5 5 (mkO 5 3))→NodeY P W S 16 N.val (outR S 5 (F.reck N.name v v') []):=by
   intro i hi
   have:=kty_two hmix hF hT h0 hw (memK hT i hi) (.inl rfl) hk hn hK hg hg'
   generalize res2 F _ _=R2 at this
   have e:res1 F N (OA.A ⟨5,5,0,0,0,1,0⟩ fun j=>if j=0 then(v,t)else if j=1 then(v',t')else(0,[])) (fun j=>if j=0 then(v,t)else if j=1 then(v',t')else(0,[]))=F.reck N.name v v':=by
    exact res1_reck hk (show formO 5≠5 by decide) hl3
   rw[e]at this
   exact this
  rcases hwc with rfl|rfl|rfl
  ·exact key 29 rfl
  ·exact key 30 rfl
  ·exact key 31 rfl
 | @opS N k l w c v v' t t' hk hK hn hws hc h1 h2 ih1 ih2=>
  intro hw
  have hg:=ih1 (hw.kid (by rw[hK];simp))
  have hg':=ih2 (hw.kid (by rw[hK];simp))
  have hwc:w=[43]∨w=[45]∨w=[42]∨w=[47]:=by
   simp only[opsAll,List.mem_cons,Prod.mk.injEq,List.mem_nil_iff,or_false]at hws
   rcases hws with⟨rfl,h⟩|⟨rfl,h⟩|⟨rfl,h⟩|⟨rfl,h⟩|⟨rfl,h⟩|⟨rfl,h⟩|⟨rfl,h⟩|⟨rfl,h⟩|⟨rfl,h⟩|⟨rfl,h⟩|⟨rfl,h⟩|⟨rfl,h⟩|⟨rfl,h⟩|⟨rfl,h⟩|⟨rfl,h⟩<;>
    first|omega|exact .inl rfl|exact .inr (.inl rfl)|exact .inr (.inr (.inl rfl))|exact .inr (.inr (.inr rfl))
  have hlt:=(hF.lt v v' hg.1.v hg'.1.v).2.2.2.2.2.1 N.name
  refine⟨goodK hlt (by omega),?_⟩
  have key: ∀(i:Nat),rowsKY[i]? =some (row2Y w 9 9 (mkO 9 3))→NodeY P W S 16 N.val (outR S 9 (F.sum N.name v v') []):=by
   intro i hi
   have:=kty_two hmix hF hT h0 hw (memK hT i hi) (.inl rfl) hk hn hK hg hg'
   generalize res2 F _ _=R2 at this
   have e:res1 F N (OA.A ⟨9,9,0,0,0,1,0⟩ fun j=>if j=0 then(v,t)else if j=1 then(v',t')else(0,[])) (fun j=>if j=0 then(v,t)else if j=1 then(v',t')else(0,[]))=F.sum N.name v v':=by
    exact res1_sum hk (show formO 9=5 from rfl)
   rw[e]at this
   exact this
  rcases hwc with rfl|rfl|rfl|rfl
  ·exact key 32 rfl
  ·exact key 33 rfl
  ·exact key 34 rfl
  ·exact key 35 rfl
 | @opD N k l w c v v' t t' hk hK hn hws hc h1 h2 hl ih1 ih2=>
  intro hw
  have hg:=ih1 (hw.kid (by rw[hK];simp))
  have hg':=ih2 (hw.kid (by rw[hK];simp))
  have hlts:=hF.lt v v' hg.1.v hg'.1.v
  have hwc:(w=[68,73,86]∧c=5)∨(w=[77,79,68]∧c=6):=by
   simp only[opsAll,List.mem_cons,Prod.mk.injEq,List.mem_nil_iff,or_false]at hws
   rcases hws with⟨rfl,h⟩|⟨rfl,h⟩|⟨rfl,h⟩|⟨rfl,h⟩|⟨rfl,h⟩|⟨rfl,h⟩|⟨rfl,h⟩|⟨rfl,h⟩|⟨rfl,h⟩|⟨rfl,h⟩|⟨rfl,h⟩|⟨rfl,h⟩|⟨rfl,h⟩|⟨rfl,h⟩|⟨rfl,h⟩<;>
    first|omega|exact .inl ⟨rfl,h⟩|exact .inr ⟨rfl,h⟩
  have hl3:N.name.length=3:=by rw[hn];rcases hwc with⟨rfl,_⟩|⟨rfl,_⟩<;>rfl
  rcases hwc with⟨rfl,rfl⟩|⟨rfl,rfl⟩
  ·rw[if_pos rfl]
   refine⟨goodK hlts.2.2.1 (by omega),?_⟩
   have:=kty_two hmix hF hT h0 hw (memK hT 36 rfl) (.inr ⟨rfl,rfl,hl,rfl⟩) hk hn hK hg hg'
   generalize res2 F _ _=R2 at this
   have e:res1 F N (OA.A ⟨5,5,0,0,0,1,0⟩ fun j=>if j=0 then(v,t)else if j=1 then(v',t')else(0,[])) (fun j=>if j=0 then(v,t)else if j=1 then(v',t')else(0,[]))=F.div v v':=by
    exact res1_div hk (show formO 5≠5 by decide) hl3
   rw[e]at this
   exact this
  ·rw[if_neg (by decide)]
   refine⟨goodK hlts.2.2.2.1 (by omega),?_⟩
   have:=kty_two hmix hF hT h0 hw (memK hT 37 rfl) (.inr ⟨rfl,rfl,hl,rfl⟩) hk hn hK hg hg'
   generalize res1 F _ _ _=R1 at this
   exact this
 | @one N d k p o v o' v' t hk hK hd hkt hc ih=>
  intro hw
  have hg:=ih (hw.kid (by rw[hK];simp))
  have hdd: ∀ {p:Nat},ProcOf d (p+1)→d.kind=11∧ ∃w,builtsN[p]? =some w∧d.name=bytesOf w:=by
   intro p h
   rcases h with h|⟨a,w,b,c,_⟩
   ·omega
   ·exact⟨a,w,b,c⟩
  unfold call1 at hc
  split at hc
  ·obtain⟨hdk,w,hdw,hdn⟩:=hdd hd
   simp only[Option.some.injEq,Prod.mk.injEq]at hc
   obtain⟨rfl,rfl⟩:=hc
   have hneg:F.neg v<4294967296:=(hF.lt v v hg.1.v hg.1.v).2.2.2.2.1
   by_cases hl:F.less v 0=true
   ·rw[if_pos hl]
    refine⟨goodK hneg (by omega),?_⟩
    have:=kty_call (p:=0) (q7:=1) hmix hF hT h0 hw (memK hT 38 rfl) (.inr (.inl ⟨rfl,by rw[hl];rfl⟩)) hk hK (by omega) hdk hdn hdw hg
    generalize res2 F _ _=R2 at this
    have e:res1 F N (OA.A ⟨0,5,0,0+1,0,0,1⟩ fun j=>if j=1 then(v,t)else(0,[])) (fun j=>if j=1 then(v,t)else(0,[]))=F.neg v:=by
     exact res1_abs hk (show 1≠5 by decide) (show 1≠6 by decide)
    rw[e]at this
    exact this
   ·rw[if_neg hl]
    have hl':F.less v 0=false:=by cases h:F.less v 0 with|true=>exact absurd h hl|false=>rfl
    exact⟨goodK hg.1.v (by omega),kty_call (p:=0) (q7:=0) hmix hF hT h0 hw (memK hT 39 rfl) (.inr (.inl ⟨rfl,by rw[hl'];rfl⟩)) hk hK (by omega) hdk hdn hdw hg⟩
  ·obtain⟨hdk,w,hdw,hdn⟩:=hdd hd
   by_cases ho:v % 2=1
   ·rw[if_pos ho]at hc
    simp only[Option.some.injEq,Prod.mk.injEq]at hc
    obtain⟨rfl,rfl⟩:=hc
    exact⟨goodK (by omega) (by omega),kty_call (p:=1) (q7:=0) hmix hF hT h0 hw (memK hT 40 rfl) (.inr (.inr ⟨1,ho.symm,rfl⟩)) hk hK (by omega) hdk hdn hdw hg⟩
   ·rw[if_neg ho]at hc
    simp only[Option.some.injEq,Prod.mk.injEq]at hc
    obtain⟨rfl,rfl⟩:=hc
    exact⟨goodK (by omega) (by omega),kty_call (p:=1) (q7:=0) hmix hF hT h0 hw (memK hT 41 rfl) (.inr (.inr ⟨0,by omega,rfl⟩)) hk hK (by omega) hdk hdn hdw hg⟩
  ·obtain⟨hdk,w,hdw,hdn⟩:=hdd hd
   simp only[Option.some.injEq,Prod.mk.injEq]at hc
   obtain⟨rfl,rfl⟩:=hc
   exact⟨goodK hg.1.v (by omega),kty_call (p:=2) (q7:=0) hmix hF hT h0 hw (memK hT 42 rfl) (.inl rfl) hk hK (by omega) hdk hdn hdw hg⟩
  ·obtain⟨hdk,w,hdw,hdn⟩:=hdd hd
   simp only[Option.some.injEq,Prod.mk.injEq]at hc
   obtain⟨rfl,rfl⟩:=hc
   exact⟨goodK (by omega) (by omega),kty_call (p:=2) (q7:=0) hmix hF hT h0 hw (memK hT 43 rfl) (.inl rfl) hk hK (by omega) hdk hdn hdw hg⟩
  ·obtain⟨hdk,w,hdw,hdn⟩:=hdd hd
   simp only[Option.some.injEq,Prod.mk.injEq]at hc
   obtain⟨rfl,rfl⟩:=hc
   exact⟨goodK (by omega) (by omega),kty_call (p:=2) (q7:=0) hmix hF hT h0 hw (memK hT 44 rfl) (.inl rfl) hk hK (by omega) hdk hdn hdw hg⟩
  ·obtain⟨hdk,w,hdw,hdn⟩:=hdd hd
   simp only[Option.some.injEq,Prod.mk.injEq]at hc
   obtain⟨rfl,rfl⟩:=hc
   exact⟨goodK hg.1.v (by omega),kty_call (p:=2) (q7:=0) hmix hF hT h0 hw (memK hT 45 rfl) (.inl rfl) hk hK (by omega) hdk hdn hdw hg⟩
  ·obtain⟨hdk,w,hdw,hdn⟩:=hdd hd
   simp only[Option.some.injEq,Prod.mk.injEq]at hc
   obtain⟨rfl,rfl⟩:=hc
   exact⟨goodK hg.1.v (by omega),kty_call (p:=2) (q7:=0) hmix hF hT h0 hw (memK hT 46 rfl) (.inl rfl) hk hK (by omega) hdk hdn hdw hg⟩
  ·obtain⟨hdk,w,hdw,hdn⟩:=hdd hd
   simp only[Option.some.injEq,Prod.mk.injEq]at hc
   obtain⟨rfl,rfl⟩:=hc
   exact⟨goodK hg.1.v (by omega),kty_call (p:=2) (q7:=0) hmix hF hT h0 hw (memK hT 47 rfl) (.inl rfl) hk hK (by omega) hdk hdn hdw hg⟩
  ·obtain⟨hdk,w,hdw,hdn⟩:=hdd hd
   simp only[Option.some.injEq,Prod.mk.injEq]at hc
   obtain⟨rfl,rfl⟩:=hc
   exact⟨goodK (by omega) (by omega),kty_call (p:=3) (q7:=0) hmix hF hT h0 hw (memK hT 48 rfl) (.inl rfl) hk hK (by omega) hdk hdn hdw hg⟩
  ·cases hc
 | @two N d k l p v v' t t' hk hK hd hp h1 h2 ih1 ih2=>
  intro hw
  have hg:=ih1 (hw.kid (by rw[hK];simp))
  have hg':=ih2 (hw.kid (by rw[hK];simp))
  have hlts:=hF.lt v v' hg.1.v hg'.1.v
  rcases hd with hd|⟨hdk,w,hdw,hdn,_⟩
  ·omega
  rcases hp with rfl|rfl
  ·rw[if_pos rfl]
   refine⟨goodK hlts.1 (by omega),?_⟩
   have:=kty_callT (p:=4) hmix hF hT h0 hw (memK hT 49 rfl) hk hK (by omega) hdk hdn hdw hg hg'
   generalize res2 F _ _=R2 at this
   have e:res1 F N (OA.A ⟨0,5,5,4+1,0,0,0⟩ fun j=>if j=1 then(v,t)else if j=2 then(v',t')else(0,[])) (fun j=>if j=1 then(v,t)else if j=2 then(v',t')else(0,[]))=F.left v v':=by
    exact res1_left hk rfl
   rw[e]at this
   exact this
  ·rw[if_neg (by decide)]
   refine⟨goodK hlts.2.1 (by omega),?_⟩
   have:=kty_callT (p:=5) hmix hF hT h0 hw (memK hT 50 rfl) hk hK (by omega) hdk hdn hdw hg hg'
   generalize res2 F _ _=R2 at this
   have e:res1 F N (OA.A ⟨0,5,5,5+1,0,0,0⟩ fun j=>if j=1 then(v,t)else if j=2 then(v',t')else(0,[])) (fun j=>if j=1 then(v,t)else if j=2 then(v',t')else(0,[]))=F.right v v':=by
    exact res1_right hk rfl
   rw[e]at this
   exact this
end
end Go.AM
namespace Go.AM
noncomputable section
section
def vT:Value:= .bool true
def vF:Value:= .bool false
def vN:Value:= .pointer none
def vi (n:Int):Value:= .int .i64 n
def vu (n:Int):Value:= .int .u32 n
def vy (n:Int):Value:= .int .u8 n
def st (l:List Nat):Value:= .string ⟨(l.map UInt8.ofNat).toArray⟩
def vp (b o:Nat):Value:= .pointer (some ⟨b,o,none⟩)
def vq (b o z:Nat):Value:= .pointer (some ⟨b,o,some z⟩)
def vs (b o n c:Nat):Value:= .slice (some ⟨b,o,none⟩) n c
def vz (b o z n c:Nat):Value:= .slice (some ⟨b,o,some z⟩) n c
def vm (b:Nat):Value:= .map (some b)
def bl (e s:Nat) (par:Option Nat) (cs:List Value):AObj:= .blk ⟨T.ofList cs 0 .leaf,cs.length,e,par,s⟩
def bb (e s:Nat) (par:Option Nat) (cs:List Nat):AObj:= .blk ⟨T.ofList (cs.map fun n=> .int .u8 (Int.ofNat n)) 0 .leaf,cs.length,e,par,s⟩
def setAt:List (Nat×Value)→T Value→T Value
 |[],t=>t
 |(i,v)::l,t=>setAt l (t.set i v)
def bx (e s:Nat) (par:Option Nat) (n:Nat) (cs:List (Nat×Value)):AObj:= .blk ⟨setAt cs .leaf,n,e,par,s⟩
end
end
end Go.AM
namespace Go.AM
noncomputable section
def preT:List (Nat×AObj):=[(43,.map [] 0),
 (44,.map [] 0),
 (45,bl 74 0 none [(.slice none 0 0),vN,(vp 48 0),(vp 49 0),(vp 50 0),(vp 51 0),(vp 52 0),(vp 53 0),(vp 54 0),(vm 43),(vs 94 0 2 2),(vi 0),(.map none),vF,(st []),(.slice none 0 0),(vi 0),(vi 0),(vm 44),(.slice none 0 0)]),
 (48,bl 65 0 none [(vi 1),(vi 0),vN,(.slice none 0 0),(vi 4),(st []),(vu 0),(vi 0)]),
 (49,bl 65 0 none [(vi 2),(vi 0),vN,(.slice none 0 0),(vi 1),(st []),(vu 0),(vi 0)]),
 (50,bl 65 0 none [(vi 3),(vi 0),vN,(.slice none 0 0),(vi 1),(st []),(vu 0),(vi 0)]),
 (51,bl 65 0 none [(vi 4),(vi 0),vN,(.slice none 0 0),(vi 1),(st []),(vu 0),(vi 0)]),
 (52,bl 65 0 none [(vi 5),(vi 0),vN,(.slice none 0 0),(vi 4),(st []),(vu 0),(vi 0)]),
 (53,bl 65 0 none [(vi 6),(vi 0),vN,(.slice none 0 0),(vi 4),(st []),(vu 0),(vi 0)]),
 (54,bl 65 0 none [(vi 7),(vi 0),vN,(.slice none 0 0),(vi 0),(st []),(vu 0),(vi 0)]),
 (55,.map [((st [73,78,84,69,71,69,82]),(vp 59 0)),((st [66,79,79,76,69,65,78]),(vp 61 0)),((st [67,72,65,82]),(vp 63 0)),((st [66,89,84,69]),(vp 65 0)),((st [83,69,84]),(vp 67 0)),((st [65,66,83]),(vp 70 0)),((st [79,68,68]),(vp 71 0)),((st [79,82,68]),(vp 72 0)),((st [67,72,82]),(vp 73 0)),((st [76,83,76]),(vp 74 0)),((st [65,83,82]),(vp 75 0)),((st [76,69,78]),(vp 76 0)),((st [73,78,67]),(vp 77 0)),((st [68,69,67]),(vp 78 0)),((st [78,69,87]),(vp 79 0)),((st [65,83,83,69,82,84]),(vp 80 0)),((st [72,65,76,84]),(vp 81 0)),((st [79,76,68]),(vp 82 0)),((st [70,82,69,83,72]),(vp 83 0)),((st [69,79,70]),(vp 84 0)),((st [76,69,78,71,84,72]),(vp 85 0)),((st [82,69,65,68]),(vp 86 0)),((st [87,82,73,84,69]),(vp 87 0)),((st [82,69,65,68,87]),(vp 88 0)),((st [87,82,73,84,69,87]),(vp 89 0)),((st [83,69,69,75]),(vp 90 0)),((st [82,69,71,73,83,84,69,82]),(vp 91 0)),((st [68,69,76,69,84,69]),(vp 92 0))] 28),
 (59,bl 108 0 none [(vi 1),(vp 48 0),(vu 0),(vi 0),vF,(.slice none 0 0),vN,vN,.nilFunc]),
 (61,bl 108 0 none [(vi 1),(vp 49 0),(vu 0),(vi 0),vF,(.slice none 0 0),vN,vN,.nilFunc]),
 (63,bl 108 0 none [(vi 1),(vp 50 0),(vu 0),(vi 0),vF,(.slice none 0 0),vN,vN,.nilFunc]),
 (65,bl 108 0 none [(vi 1),(vp 51 0),(vu 0),(vi 0),vF,(.slice none 0 0),vN,vN,.nilFunc]),
 (67,bl 108 0 none [(vi 1),(vp 52 0),(vu 0),(vi 0),vF,(.slice none 0 0),vN,vN,.nilFunc]),
 (70,bl 108 0 none [(vi 5),vN,(vu 0),(vi 0),vF,(.slice none 0 0),vN,vN,(.func (.func 60) #[] #[])]),
 (71,bl 108 0 none [(vi 5),vN,(vu 0),(vi 0),vF,(.slice none 0 0),vN,vN,(.func (.func 61) #[] #[])]),
 (72,bl 108 0 none [(vi 5),vN,(vu 0),(vi 0),vF,(.slice none 0 0),vN,vN,(.func (.func 62) #[] #[])]),
 (73,bl 108 0 none [(vi 5),vN,(vu 0),(vi 0),vF,(.slice none 0 0),vN,vN,(.func (.func 63) #[] #[])]),
 (74,bl 108 0 none [(vi 5),vN,(vu 0),(vi 0),vF,(.slice none 0 0),vN,vN,(.func (.func 64) #[] #[])]),
 (75,bl 108 0 none [(vi 5),vN,(vu 0),(vi 0),vF,(.slice none 0 0),vN,vN,(.func (.func 65) #[] #[])]),
 (76,bl 108 0 none [(vi 5),vN,(vu 0),(vi 0),vF,(.slice none 0 0),vN,vN,(.func (.func 66) #[] #[])]),
 (77,bl 108 0 none [(vi 5),vN,(vu 0),(vi 0),vF,(.slice none 0 0),vN,vN,(.func (.func 67) #[] #[])]),
 (78,bl 108 0 none [(vi 5),vN,(vu 0),(vi 0),vF,(.slice none 0 0),vN,vN,(.func (.func 67) #[] #[])]),
 (79,bl 108 0 none [(vi 5),vN,(vu 0),(vi 0),vF,(.slice none 0 0),vN,vN,(.func (.func 68) #[] #[])]),
 (80,bl 108 0 none [(vi 5),vN,(vu 0),(vi 0),vF,(.slice none 0 0),vN,vN,(.func (.func 69) #[] #[])]),
 (81,bl 108 0 none [(vi 5),vN,(vu 0),(vi 0),vF,(.slice none 0 0),vN,vN,(.func (.func 70) #[] #[])]),
 (82,bl 108 0 none [(vi 5),vN,(vu 0),(vi 0),vF,(.slice none 0 0),vN,vN,(.func (.func 71) #[] #[])]),
 (83,bl 108 0 none [(vi 5),vN,(vu 0),(vi 0),vF,(.slice none 0 0),vN,vN,(.func (.func 71) #[] #[])]),
 (84,bl 108 0 none [(vi 5),vN,(vu 0),(vi 0),vF,(.slice none 0 0),vN,vN,(.func (.func 72) #[] #[])]),
 (85,bl 108 0 none [(vi 5),vN,(vu 0),(vi 0),vF,(.slice none 0 0),vN,vN,(.func (.func 73) #[] #[])]),
 (86,bl 108 0 none [(vi 5),vN,(vu 0),(vi 0),vF,(.slice none 0 0),vN,vN,(.func (.func 74) #[] #[])]),
 (87,bl 108 0 none [(vi 5),vN,(vu 0),(vi 0),vF,(.slice none 0 0),vN,vN,(.func (.func 75) #[] #[])]),
 (88,bl 108 0 none [(vi 5),vN,(vu 0),(vi 0),vF,(.slice none 0 0),vN,vN,(.func (.func 76) #[] #[])]),
 (89,bl 108 0 none [(vi 5),vN,(vu 0),(vi 0),vF,(.slice none 0 0),vN,vN,(.func (.func 77) #[] #[])]),
 (90,bl 108 0 none [(vi 5),vN,(vu 0),(vi 0),vF,(.slice none 0 0),vN,vN,(.func (.func 77) #[] #[])]),
 (91,bl 108 0 none [(vi 5),vN,(vu 0),(vi 0),vF,(.slice none 0 0),vN,vN,(.func (.func 70) #[] #[])]),
 (92,bl 108 0 none [(vi 5),vN,(vu 0),(vi 0),vF,(.slice none 0 0),vN,vN,(.func (.func 78) #[] #[])]),
 (93,.map [] 0),
 (94,bl 98 0 none [(vm 55),(vm 93)])]
def tsC:TS:=⟨98,preT,45,fun f=>47+f,fun p=>70+p⟩
end
end Go.AM
namespace Go.AM
noncomputable section
variable {P:Program} {W:World}
def kTop0:Known:=withK kBase 149 kClone
def kTop1 (P:Program):Known:=withK kTop0 310 (forkK P kTop0 5000 false 310)
def nodeT:Value:=nodeV 21
def topW:Nat→Value
 |5=>opq 6 3 0
 |9=>opq 6 3 0
 |8=>opq 6 6 0
 |11=>opq 6 6 0
 |7=>u32 1
 |_=>u32 0
def topT:Nat→Value
 |11=>opq 7 10 1
 |12=>opq 7 9 1
 |_=>emptyS
def meW (m:Nat):Value:=bif Nat.beq m 11 then u32 0 else topW m
def sy (i:Nat):Value:= .chan (some (symMk i 0 0))
def pureT (big:Value) (may:List Bool) (one:Bool):List (Nat×List Value×Ans):=
 [(4,[nodeT,.int .i64 200],.ret big),(5,[],.ret (.bool true))]++may.map (fun b=>(12,[nodeT],.ret (.bool b)))++(bif one then[(144,[datM 11 (u32 0) (opq 7 10 1)],.ret (datM 8 (opq 6 6 0) emptyS))]else[])
def esM:List (Nat×List Value×Ans):=[(12,[nodeT],.ret (.bool true))]
def tysK (o:Nat):List TS→List Value→S→Option KRes
 |[]=>fun _ _=>none
 |S::l=>orK (tblK S.pre S.x [([S.cV,nodeT],outA S o (topW o) (topT o))]) (tysK o l)
structure TopM where
 M:MS
 a:Nat
 i:Nat
 m:Nat
def mesK:List TopM→List Value→S→Option KRes
 |[]=>fun _ _=>none
 |t::l=>orK (miniK (t.M.pre (vi t.a)) (t.M.pre (sy t.i)) t.M.x (t.M.hd++[nodeT]) (.ret (datM t.m (meW t.m) (topT t.m)))) (mesK l)
def topK (P:Program) (es:List (Nat×List Value×Ans)) (o:Nat) (tys:List TS) (mes:List TopM):Known:=withK (withK (withE (kTop1 P) es) 16 (tysK o tys)) 143 (mesK mes)
def topRun (P:Program) (es:List (Nat×List Value×Ans)) (o:Nat) (tys:List TS) (mes:List TopM):Bool:=tplRun P (topK P es o tys mes) 100000 3 [nodeT] 40 [] (.ret (.bool true)) []
def lawRun (P:Program) (K:Known):Bool:=tplRun P K 100000 3 [nodeT] 40 [] (.ret (.bool true)) []
def TopWay (P:Program) (es:List (Nat×List Value×Ans)) (o:Nat) (tys:List TS) (mes:List TopM):Prop:=
 ∀w0:Start,KnownOk P (kTop1 P) w0→KnownOk P (topK P esM o tys []) w0→KnownOk P (topK P es o tys mes) w0→ ∃K,KnownOk P K w0∧lawRun P K=true
def topL (N:Tr) (v:Nat) (t:List UInt8) (r s1 s2:Nat):List (Nat×Loc):=toldL 21 N++[(6,locW v),(7,locS t),(10,locW r),(14,locW s1),(18,locW s2)]
def qnT (i:Nat):Bool:=Nat.beq i 14||Nat.beq i 18
structure TopMok (t:TopM):Prop where
 ms:MSok t.M
 i:t.i=14∨t.i=18
 mini:miniOk qnT (t.M.pre (vi t.a)) (t.M.pre (sy t.i)) t.M.x=true
 chg:chgOk (t.M.pre (vi t.a)) t.M.hd (t.M.pre (sy t.i))=true
section
variable {N:Tr} {v r s1 s2:Nat} {t:List UInt8}
theorem topL_told:Told (look (topL N v t r s1 s2)) 21 N:=by
 refine⟨?_,?_,?_,?_,?_⟩<;>simp[topL,toldL,look]
theorem top6:look (topL N v t r s1 s2) 6=some (locW v):=by simp[topL,toldL,look]
theorem top7:look (topL N v t r s1 s2) 7=some (locS t):=by simp[topL,toldL,look]
theorem top10:look (topL N v t r s1 s2) 10=some (locW r):=by simp[topL,toldL,look]
theorem top14:look (topL N v t r s1 s2) 14=some (locW s1):=by simp[topL,toldL,look]
theorem top18:look (topL N v t r s1 s2) 18=some (locW s2):=by simp[topL,toldL,look]
theorem top_rng: ∀i l,look (topL N v t r s1 s2) i=some l→i<40∧l.blk=0:=by
 intro i l h
 have hm:=look_mem h
 simp only[topL,List.mem_append,List.mem_cons,Prod.mk.injEq,List.mem_nil_iff,or_false]at hm
 rcases hm with h|⟨rfl,rfl⟩|⟨rfl,rfl⟩|⟨rfl,rfl⟩|⟨rfl,rfl⟩|⟨rfl,rfl⟩
 ·have:=toldL_mem h;exact⟨by omega,this.2.2⟩
 all_goals exact⟨by omega,rfl⟩
theorem sub_sy {i n:Nat} (hi:look (topL N v t r s1 s2) i=some (locW n)):subV (numOf (look (topL N v t r s1 s2))) (sy i)=vi (n:Nat):=by
 obtain⟨a,b,c⟩:=opqMk (id:=i) (code:=0) (off:=0) (by omega) (by omega)
 have hn:numOf (look (topL N v t r s1 s2)) i=some n:=by simp only[numOf,hi];rfl
 have:=subV_mk (σ:=numOf (look (topL N v t r s1 s2))) a b c hn
 exact this
end
end
end Go.AM
namespace Go.AM
noncomputable section
variable {P:Program} {W:World} {N:Tr} {v r s1 s2 o m:Nat} {t:List UInt8}
structure TopG (o v:Nat) (t:List UInt8):Prop where
 good:Good o v t
 chr:o=8∨o=11→v<256
theorem topW_cases (o v:Nat):((o=5∨o=9)∧topW o=opq 6 3 0∧realV o v=u32 v)∨((o=8∨o=11)∧topW o=opq 6 6 0∧realV o v=u32 v)∨(∃n,topW o=u32 n∧realV o v=u32 n):=by
 by_cases h:o=5∨o=8∨o=9∨o=11∨o=7
 ·rcases h with rfl|rfl|rfl|rfl|rfl
  ·exact .inl ⟨.inl rfl,rfl,rfl⟩
  ·exact .inr (.inl ⟨.inl rfl,rfl,rfl⟩)
  ·exact .inl ⟨.inr rfl,rfl,rfl⟩
  ·exact .inr (.inl ⟨.inr rfl,rfl,rfl⟩)
  ·exact .inr (.inr ⟨1,rfl,rfl⟩)
 ·refine .inr (.inr ⟨0,?_,?_⟩)
  ·unfold topW;split<;>first|rfl|omega
  ·unfold realV;split<;>first|rfl|omega
theorem d_low {v:Nat} (h:v<256):den 6 0 (locW v)=some (u32 v):=by
 rw[d_code6,Nat.mod_eq_of_lt h]
theorem topW_lit {σ:Nat→Option Loc} (hg:TopG o v t) (hi:σ 6=some (locW v)):litV σ (topW o)=realV o v:=by
 rcases topW_cases o v with⟨_,e1,e2⟩|⟨h,e1,e2⟩|⟨n,e1,e2⟩
 ·rw[e1,e2];exact lit_opq (by omega) (by omega) rfl hi (d_par hg.good.v (.inl rfl))
 ·rw[e1,e2];exact lit_opq (by omega) (by omega) rfl hi (d_low (hg.chr h))
 ·rw[e1,e2];rfl
theorem topW_fine {L:List (Nat×Loc)} {x:Nat} (hg:TopG o v t) (hi:look L 6=some (locW v)):Fine L x (topW o):=by
 rcases topW_cases o v with⟨_,e1,_⟩|⟨h,e1,_⟩|⟨n,e1,_⟩
 ·rw[e1];exact fine_opq (by omega) (by omega) rfl rfl hi (d_par hg.good.v (.inl rfl))
 ·rw[e1];exact fine_opq (by omega) (by omega) rfl rfl hi (d_low (hg.chr h))
 ·rw[e1];exact fine_int _ _
theorem topT_lit {σ:Nat→Option Loc} (hg:Good o v t) (hi:σ 7=some (locS t)):litV σ (topT o)=realT o t:=by
 by_cases h1:o=11
 ·subst h1;exact lit_opq (by omega) (by omega) rfl hi (d_len (hg.one rfl))
 by_cases h2:o=12
 ·subst h2;exact lit_opq (by omega) (by omega) rfl hi (d_not1 (hg.not1 rfl))
 ·have e1:topT o=emptyS:=by unfold topT;split<;>first|rfl|omega
  have e2:realT o t=emptyS:=by unfold realT;split<;>first|rfl|omega
  rw[e1,e2];rfl
theorem topT_fine {L:List (Nat×Loc)} {x:Nat} (hg:Good o v t) (hi:look L 7=some (locS t)):Fine L x (topT o):=by
 by_cases h1:o=11
 ·subst h1;exact fine_opq (by omega) (by omega) rfl rfl hi (d_len (hg.one rfl))
 by_cases h2:o=12
 ·subst h2;exact fine_opq (by omega) (by omega) rfl rfl hi (d_not1 (hg.not1 rfl))
 ·have e1:topT o=emptyS:=by unfold topT;split<;>first|rfl|omega
  rw[e1];exact fine_str _
theorem meW_ok {L:List (Nat×Loc)} {x:Nat} (hm:GoodM m v t) (h8:m=8→v<256) (hi:look L 6=some (locW v)):litV (look L) (meW m)=realW m v∧Fine L x (meW m):=by
 by_cases h:m=5∨m=9∨m=8∨m=7
 ·rcases h with rfl|rfl|rfl|rfl
  ·exact⟨lit_opq (by omega) (by omega) rfl hi (d_par hm.v (.inl rfl)),fine_opq (by omega) (by omega) rfl rfl hi (d_par hm.v (.inl rfl))⟩
  ·exact⟨lit_opq (by omega) (by omega) rfl hi (d_par hm.v (.inl rfl)),fine_opq (by omega) (by omega) rfl rfl hi (d_par hm.v (.inl rfl))⟩
  ·exact⟨lit_opq (by omega) (by omega) rfl hi (d_low (h8 rfl)),fine_opq (by omega) (by omega) rfl rfl hi (d_low (h8 rfl))⟩
  ·exact⟨rfl,fine_int _ _⟩
 ·have e1:meW m=u32 0:=by
   unfold meW
   cases hb:Nat.beq m 11 with
   |true=>rfl
   |false=>
    have:m≠11:=fun e=>by rw[e]at hb;cases hb
    show topW m=_
    unfold topW;split<;>first|rfl|omega
  have e2:realW m v=u32 0:=by unfold realW;split<;>first|rfl|omega
  rw[e1,e2];exact⟨rfl,fine_int _ _⟩
theorem meT_ok {L:List (Nat×Loc)} {x:Nat} (hm:GoodM m v t) (hlt:m<12) (hi:look L 7=some (locS t)):litV (look L) (topT m)=textR m t∧Fine L x (topT m):=by
 by_cases h1:m=11
 ·subst h1;exact⟨lit_opq (by omega) (by omega) rfl hi (d_len (hm.one rfl)),fine_opq (by omega) (by omega) rfl rfl hi (d_len (hm.one rfl))⟩
 ·have e1:topT m=emptyS:=by unfold topT;split<;>first|rfl|omega
  have e2:textR m t=emptyS:=by unfold textR;split<;>first|rfl|omega
  rw[e1,e2];exact⟨rfl,fine_str _⟩
theorem tysK_ok (hw:Wf W N) (hg:TopG o v t): ∀ {tys:List TS},(∀S∈tys,TSok S∧NodeY P W S 16 N.val (outR S o v t))→KOk P (.at W (look (topL N v t r s1 s2))) (tysK o tys) 16
 |[],_=>by intro cs args s q h;cases h
 |S::l,h=>by
  obtain⟨hS,hN⟩:=h S List.mem_cons_self
  refine orK_ok (tblK_ok fun e he=>?_) (tysK_ok hw hg fun S hS=>h S (List.mem_cons_of_mem _ hS))
  rw[List.mem_singleton]at he;subst he
  have hhead:[S.cV].all (idsV (fun i=>Nat.blt i S.x) 60)=true:=by
   have:idsV (fun i=>Nat.blt i S.x) 60 S.cV=true:=hS.c
   simp only[List.all_cons,List.all_nil,this,Bool.and_true]
  have hF:=fine_out hS hg.good.lt (topW_fine (L:=topL N v t r s1 s2) (x:=S.x) hg top6) (topT_fine hg.good top7)
  refine miniK_ok0 (head:=[S.cV]) (q:=someL (topL N v t r s1 s2)) (qn:=fun _=>false) (v:=N.val) ?_ (fun i hi=>someL_spec hi) (fun i hi=>by cases hi) (fun i l hi=>by cases hi) hS.mini hS.chg hhead hF.1 hF.2
   (fun ι hp x hx=>t_node_eq topL_told hw hp hx)
  rw[mapL_plain hS.pl,outA_lit (topW_lit hg top6) (topT_lit hg.good top7)]
  exact hN
structure TopN (P:Program) (W:World) (N:Tr) (v:Nat) (t:List UInt8) (s1 s2:Nat) (c:TopM):Prop where
 ok:TopMok c
 good:GoodM c.m v t
 lt:c.m<12
 low:c.m=8→v<256
 node: ∃k,c.a+k≤600∧(c.i=14→s1=c.a+k)∧(c.i=18→s2=c.a+k)∧NodeM P W c.M 143 N.val k (datR c.m v t)
theorem mesK_ok (hw:Wf W N) (h14:s1≤600) (h18:s2≤600): ∀ {mes:List TopM},(∀c∈mes,TopN P W N v t s1 s2 c)→KOk P (.at W (look (topL N v t r s1 s2))) (mesK mes) 143
 |[],_=>by intro cs args s q h;cases h
 |c::l,h=>by
  obtain⟨hM,hg,hlt,hlow,k,hk,h1,h2,hN⟩:=h c List.mem_cons_self
  refine orK_ok ?_ (mesK_ok hw h14 h18 fun c hc=>h c (List.mem_cons_of_mem _ hc))
  have hW:=meW_ok (L:=topL N v t r s1 s2) (x:=c.M.x) hg hlow top6
  have hT:=meT_ok (L:=topL N v t r s1 s2) (x:=c.M.x) hg hlt top7
  have hF:=dat_fine (m:=c.m) hW.2 hT.2
  have hsy:look (topL N v t r s1 s2) c.i=some (locW (c.a+k)):=by
   rcases hM.i with e|e
   ·rw[e,top14,h1 e]
   ·rw[e,top18,h2 e]
  refine miniK_ok0 (q:=someL (topL N v t r s1 s2)) (qn:=qnT) (v:=N.val) ?_ (fun i hi=>someL_spec hi) ?_ ?_ hM.mini hM.chg (hd_ids hM.ms) hF.1 hF.2
   (fun ι hp x hx=>t_node_eq topL_told hw hp hx)
  ·rw[hM.ms.sub,hM.ms.sub,sub_sy hsy,dat_lit hW.1 hT.1]
   exact hN c.a hk
  ·intro i hi
   simp only[qnT,Bool.or_eq_true,Nat.beq_eq]at hi
   unfold someL
   rcases hi with rfl|rfl
   ·rw[top14];rfl
   ·rw[top18];rfl
  ·intro i l hi hl
   simp only[qnT,Bool.or_eq_true,Nat.beq_eq]at hi
   rcases hi with rfl|rfl
   ·rw[top14]at hl;cases hl;show s1<700;omega
   ·rw[top18]at hl;cases hl;show s2<700;omega
theorem pureT_ok (hw:Wf W N) {big:Value} {may:List Bool} {one:Bool} {bg:Int} (hb:RealPure P W 4 [N.val,.int .i64 200] (.int .i64 bg)) (hbig: ∀ι:Inj,(∀i l,look (topL N v t r s1 s2) i=some l→ι i=some l)→VRel ι big (.int .i64 bg))
 (hk:RealPure P W 5 [] (.bool true)) (hm: ∀b∈may,RealPure P W 12 [N.val] (.bool b)) (h1:one=true→ ∃b:UInt8,t=[b]∧v=b.toNat∧RealPure P W 144 [datM 11 (u32 0) (strV [b])] (datM 8 (u32 b.toNat) emptyS)):
 ∀e∈pureT big may one,PureCall P (.at W (look (topL N v t r s1 s2))) e.1 e.2.1 e.2.2:=by
 have hnode: ∀ι:Inj,(∀i l,look (topL N v t r s1 s2) i=some l→ι i=some l)→Tells ι nodeT N.val:=fun ι hp=>⟨t_node topL_told hw hp,fun x hx=>t_node_eq topL_told hw hp hx⟩
 intro e he
 simp only[pureT,List.mem_append,List.mem_cons,List.mem_map,List.mem_nil_iff,or_false]at he
 rcases he with((rfl|rfl)|⟨b,hb',rfl⟩)|he
 ·exact hb.call' hbig fun ι hp=>(TellsL.cons (hnode ι hp) (.cons (tells_int _ _) .nil)).only
 ·exact hk.call' (fun ι hp=> .bool _) fun ι hp=>TellsL.nil.only
 ·exact(hm b hb').call' (fun ι hp=> .bool _) fun ι hp=>(TellsL.cons (hnode ι hp) .nil).only
 ·cases hone:one with
  |false=>rw[hone]at he;cases he
  |true=>
   rw[hone]at he
   simp only[cond_true,List.mem_singleton]at he
   subst he
   obtain⟨b,rfl,hv,hl⟩:=h1 hone
   have hb2:v<256:=by rw[hv];exact b.toNat_lt
   refine hl.call' (fun ι hp=>?_) fun ι hp=>(TellsL.cons (dat_tells (tells_int _ _) (tells_opq (by omega) (by omega) rfl (by omega) (hp _ _ top7) (d_len (n:=1) rfl))) .nil).only
   rw[←hv]
   exact(dat_tells (tells_opq (by omega) (by omega) rfl (by omega) (hp _ _ top6) (d_low hb2)) ⟨.string _,fun x hx=>hx.string_inv⟩).rel
theorem top_ok0 (hmix:P.follows .mixedOrders=true) (h0:0<W.heap.size) (hw:Wf W N) {K:Known} (hK:KnownOk P K (.at W (look (topL N v t r s1 s2)))) (hr:lawRun P K=true):RealPure P W 3 [N.val] (.bool true):=by
 have hr:tplRun P K 100000 3 ([]++[nodeT]) 40 ([]++extL 0 none) (.ret (.bool true)) ([]++extL 0 none)=true:=hr
 have hn:=tpl_ok (W:=W) (nx:=0) (qn:=fun _=>false) (v:=N.val) (L:=topL N v t r s1 s2) hK hmix hr
  (fun i h=>by cases h) (fun i l h=>⟨Nat.zero_le _,(top_rng i l h).1⟩) (fun i l h=>by rw[(top_rng i l h).2];exact h0) (fun i l h=>by cases h) (Nat.zero_le _) rfl rfl rfl rfl (fun c n h=>by cases h) (fun ι hp=>t_node topL_told hw hp)
 have hn':NodeOk P W 3 [] [] 0 [] N.val (.ret (.bool true)):=by
  simp only[mapL,Ans.lit,litA,litV]at hn
  exact hn
 have:=NodeOk.pure hn' rfl rfl
 exact this
theorem topK_ok (hB: ∀σ,KnownOk P (kTop1 P) (.at W σ)) (hw:Wf W N) {es:List (Nat×List Value×Ans)} {tys:List TS} {mes:List TopM}
 (hes: ∀e∈es,PureCall P (.at W (look (topL N v t r s1 s2))) e.1 e.2.1 e.2.2) (hg:TopG o v t) (htys: ∀S∈tys,TSok S∧NodeY P W S 16 N.val (outR S o v t)) (h14:s1≤600) (h18:s2≤600) (hmes: ∀c∈mes,TopN P W N v t s1 s2 c):
 KnownOk P (topK P es o tys mes) (.at W (look (topL N v t r s1 s2))):=((withE_ok (hB _) hes).withK (tysK_ok hw hg htys)).withK (mesK_ok hw h14 h18 hmes)
theorem top_ok (hmix:P.follows .mixedOrders=true) (hB: ∀σ,KnownOk P (kTop1 P) (.at W σ)) (h0:0<W.heap.size) (hw:Wf W N) {es:List (Nat×List Value×Ans)} {tys:List TS} {mes:List TopM}
 (hes: ∀e∈es,PureCall P (.at W (look (topL N v t r s1 s2))) e.1 e.2.1 e.2.2) (hg:TopG o v t) (htys: ∀S∈tys,TSok S∧NodeY P W S 16 N.val (outR S o v t)) (h14:s1≤600) (h18:s2≤600) (hmes: ∀c∈mes,TopN P W N v t s1 s2 c)
 (hrun:topRun P es o tys mes=true):RealPure P W 3 [N.val] (.bool true):=top_ok0 hmix h0 hw (topK_ok hB hw hes hg htys h14 h18 hmes) hrun
theorem top_way (hmix:P.follows .mixedOrders=true) (hB: ∀σ,KnownOk P (kTop1 P) (.at W σ)) (h0:0<W.heap.size) (hw:Wf W N) {es:List (Nat×List Value×Ans)} {tys:List TS} {mes:List TopM}
 (hes: ∀e∈es,PureCall P (.at W (look (topL N v t r s1 s2))) e.1 e.2.1 e.2.2) (hm:RealPure P W 12 [N.val] (.bool true)) (hg:TopG o v t) (htys: ∀S∈tys,TSok S∧NodeY P W S 16 N.val (outR S o v t)) (h14:s1≤600) (h18:s2≤600) (hmes: ∀c∈mes,TopN P W N v t s1 s2 c)
 (hrun:TopWay P es o tys mes):RealPure P W 3 [N.val] (.bool true):=by
 have hes1: ∀e∈esM,PureCall P (.at W (look (topL N v t r s1 s2))) e.1 e.2.1 e.2.2:=by
  intro e he
  simp only[esM,List.mem_singleton]at he
  subst he
  exact hm.call' (fun ι hp=> .bool _) fun ι hp=>(TellsL.cons ⟨t_node topL_told hw hp,fun x hx=>t_node_eq topL_told hw hp hx⟩ .nil).only
 obtain⟨K,hK,hr⟩:=hrun _ (hB _) (topK_ok hB hw hes1 hg htys h14 h18 (fun c h=>by cases h)) (topK_ok hB hw hes hg htys h14 h18 hmes)
 exact top_ok0 hmix h0 hw hK hr
theorem ShotOk.pure {f:FuncId} {nx nx':Nat} {u:Value} (h:ShotOk P (.of W) f ⟨[],nx,[],.ret u,nx',[]⟩) (hu:plain0 u=true):RealPure P W f [] u:=by
 intro w hw cs
 have hno: ∀b,¬Owned (fun _=>none) (stP [] nx) b:=by rintro b ⟨id,l,o,h1,_⟩;cases h1
 have hS:SRel P (fun _=>none) (stP [] nx) w:=
  ⟨fun _ _ _ h _=>(by cases h),fun _ _=>rfl,fun _ _ h=>(by cases h),fun _ _ _ _ _ _ _ h=>(by cases h),fun _ _ _ _ h=>absurd rfl h⟩
 have hi:Ini (.of W) (fun _=>none) (stP [] nx) w:=⟨hw.size,hw.same,fun b _=>hno b,hw.out,hw.os,hw.tape,fun i v h=>(by cases h),fun i l h=>(by cases h)⟩
 obtain⟨ι2,w2,v',e1,e2,e3,e,w',fr,⟨h1,h2⟩,h3⟩:=h cs _ w #[] hi hS .nil
 have hv:=VRel.plain_eq hu e1
 subst hv
 refine⟨e,w',fr,⟨h1,?_⟩,h3⟩
 rw[h2]
 exact⟨e3.size,fun b hb=>e3.heap b hb (hno b),e3.out,e3.os,e3.tape⟩
end
end Go.AM
namespace Go.AM
noncomputable section
def preT746:List (Nat×AObj):=[(579,.map [] 0),
 (580,.map [((st [120]),(vu 0))] 1),
 (581,bl 74 0 none [(.slice none 0 0),vN,(vp 584 0),(vp 585 0),(vp 586 0),(vp 587 0),(vp 588 0),(vp 589 0),(vp 590 0),(vm 579),(vs 630 0 2 2),(vi 0),(.map none),vF,(st [77]),(.slice none 0 0),(vi 4),(vi 0),(vm 580),(.slice none 0 0)]),
 (584,bl 65 0 none [(vi 1),(vi 0),vN,(.slice none 0 0),(vi 4),(st []),(vu 0),(vi 0)]),
 (585,bl 65 0 none [(vi 2),(vi 0),vN,(.slice none 0 0),(vi 1),(st []),(vu 0),(vi 0)]),
 (586,bl 65 0 none [(vi 3),(vi 0),vN,(.slice none 0 0),(vi 1),(st []),(vu 0),(vi 0)]),
 (587,bl 65 0 none [(vi 4),(vi 0),vN,(.slice none 0 0),(vi 1),(st []),(vu 0),(vi 0)]),
 (588,bl 65 0 none [(vi 5),(vi 0),vN,(.slice none 0 0),(vi 4),(st []),(vu 0),(vi 0)]),
 (589,bl 65 0 none [(vi 6),(vi 0),vN,(.slice none 0 0),(vi 4),(st []),(vu 0),(vi 0)]),
 (590,bl 65 0 none [(vi 7),(vi 0),vN,(.slice none 0 0),(vi 0),(st []),(vu 0),(vi 0)]),
 (591,.map [((st [73,78,84,69,71,69,82]),(vp 595 0)),((st [66,79,79,76,69,65,78]),(vp 597 0)),((st [67,72,65,82]),(vp 599 0)),((st [66,89,84,69]),(vp 601 0)),((st [83,69,84]),(vp 603 0)),((st [65,66,83]),(vp 606 0)),((st [79,68,68]),(vp 607 0)),((st [79,82,68]),(vp 608 0)),((st [67,72,82]),(vp 609 0)),((st [76,83,76]),(vp 610 0)),((st [65,83,82]),(vp 611 0)),((st [76,69,78]),(vp 612 0)),((st [73,78,67]),(vp 613 0)),((st [68,69,67]),(vp 614 0)),((st [78,69,87]),(vp 615 0)),((st [65,83,83,69,82,84]),(vp 616 0)),((st [72,65,76,84]),(vp 617 0)),((st [79,76,68]),(vp 618 0)),((st [70,82,69,83,72]),(vp 619 0)),((st [69,79,70]),(vp 620 0)),((st [76,69,78,71,84,72]),(vp 621 0)),((st [82,69,65,68]),(vp 622 0)),((st [87,82,73,84,69]),(vp 623 0)),((st [82,69,65,68,87]),(vp 624 0)),((st [87,82,73,84,69,87]),(vp 625 0)),((st [83,69,69,75]),(vp 626 0)),((st [82,69,71,73,83,84,69,82]),(vp 627 0)),((st [68,69,76,69,84,69]),(vp 628 0))] 28),
 (595,bl 108 0 none [(vi 1),(vp 584 0),(vu 0),(vi 0),vF,(.slice none 0 0),vN,vN,.nilFunc]),
 (597,bl 108 0 none [(vi 1),(vp 585 0),(vu 0),(vi 0),vF,(.slice none 0 0),vN,vN,.nilFunc]),
 (599,bl 108 0 none [(vi 1),(vp 586 0),(vu 0),(vi 0),vF,(.slice none 0 0),vN,vN,.nilFunc]),
 (601,bl 108 0 none [(vi 1),(vp 587 0),(vu 0),(vi 0),vF,(.slice none 0 0),vN,vN,.nilFunc]),
 (603,bl 108 0 none [(vi 1),(vp 588 0),(vu 0),(vi 0),vF,(.slice none 0 0),vN,vN,.nilFunc]),
 (606,bl 108 0 none [(vi 5),vN,(vu 0),(vi 0),vF,(.slice none 0 0),vN,vN,(.func (.func 60) #[] #[])]),
 (607,bl 108 0 none [(vi 5),vN,(vu 0),(vi 0),vF,(.slice none 0 0),vN,vN,(.func (.func 61) #[] #[])]),
 (608,bl 108 0 none [(vi 5),vN,(vu 0),(vi 0),vF,(.slice none 0 0),vN,vN,(.func (.func 62) #[] #[])]),
 (609,bl 108 0 none [(vi 5),vN,(vu 0),(vi 0),vF,(.slice none 0 0),vN,vN,(.func (.func 63) #[] #[])]),
 (610,bl 108 0 none [(vi 5),vN,(vu 0),(vi 0),vF,(.slice none 0 0),vN,vN,(.func (.func 64) #[] #[])]),
 (611,bl 108 0 none [(vi 5),vN,(vu 0),(vi 0),vF,(.slice none 0 0),vN,vN,(.func (.func 65) #[] #[])]),
 (612,bl 108 0 none [(vi 5),vN,(vu 0),(vi 0),vF,(.slice none 0 0),vN,vN,(.func (.func 66) #[] #[])]),
 (613,bl 108 0 none [(vi 5),vN,(vu 0),(vi 0),vF,(.slice none 0 0),vN,vN,(.func (.func 67) #[] #[])]),
 (614,bl 108 0 none [(vi 5),vN,(vu 0),(vi 0),vF,(.slice none 0 0),vN,vN,(.func (.func 67) #[] #[])]),
 (615,bl 108 0 none [(vi 5),vN,(vu 0),(vi 0),vF,(.slice none 0 0),vN,vN,(.func (.func 68) #[] #[])]),
 (616,bl 108 0 none [(vi 5),vN,(vu 0),(vi 0),vF,(.slice none 0 0),vN,vN,(.func (.func 69) #[] #[])]),
 (617,bl 108 0 none [(vi 5),vN,(vu 0),(vi 0),vF,(.slice none 0 0),vN,vN,(.func (.func 70) #[] #[])]),
 (618,bl 108 0 none [(vi 5),vN,(vu 0),(vi 0),vF,(.slice none 0 0),vN,vN,(.func (.func 71) #[] #[])]),
 (619,bl 108 0 none [(vi 5),vN,(vu 0),(vi 0),vF,(.slice none 0 0),vN,vN,(.func (.func 71) #[] #[])]),
 (620,bl 108 0 none [(vi 5),vN,(vu 0),(vi 0),vF,(.slice none 0 0),vN,vN,(.func (.func 72) #[] #[])]),
 (621,bl 108 0 none [(vi 5),vN,(vu 0),(vi 0),vF,(.slice none 0 0),vN,vN,(.func (.func 73) #[] #[])]),
 (622,bl 108 0 none [(vi 5),vN,(vu 0),(vi 0),vF,(.slice none 0 0),vN,vN,(.func (.func 74) #[] #[])]),
 (623,bl 108 0 none [(vi 5),vN,(vu 0),(vi 0),vF,(.slice none 0 0),vN,vN,(.func (.func 75) #[] #[])]),
 (624,bl 108 0 none [(vi 5),vN,(vu 0),(vi 0),vF,(.slice none 0 0),vN,vN,(.func (.func 76) #[] #[])]),
 (625,bl 108 0 none [(vi 5),vN,(vu 0),(vi 0),vF,(.slice none 0 0),vN,vN,(.func (.func 77) #[] #[])]),
 (626,bl 108 0 none [(vi 5),vN,(vu 0),(vi 0),vF,(.slice none 0 0),vN,vN,(.func (.func 77) #[] #[])]),
 (627,bl 108 0 none [(vi 5),vN,(vu 0),(vi 0),vF,(.slice none 0 0),vN,vN,(.func (.func 70) #[] #[])]),
 (628,bl 108 0 none [(vi 5),vN,(vu 0),(vi 0),vF,(.slice none 0 0),vN,vN,(.func (.func 78) #[] #[])]),
 (629,.map [((st [120]),(vp 716 0))] 1),
 (630,bl 98 0 none [(vm 591),(vm 629)])]
def S746:TS:=⟨746,preT746,581,fun f=>Nat.add 583 f,fun p=>Nat.add 606 p⟩
def preT1266:List (Nat×AObj):=[(1087,.map [] 0),
 (1088,.map [((st [120]),(vu 0))] 1),
 (1089,bl 74 0 none [(.slice none 0 0),vN,(vp 1092 0),(vp 1093 0),(vp 1094 0),(vp 1095 0),(vp 1096 0),(vp 1097 0),(vp 1098 0),(vm 1087),(vs 1138 0 2 2),(vi 0),(.map none),vF,(st [77]),(.slice none 0 0),(vi 4),(vi 0),(vm 1088),(.slice none 0 0)]),
 (1092,bl 65 0 none [(vi 1),(vi 0),vN,(.slice none 0 0),(vi 4),(st []),(vu 0),(vi 0)]),
 (1093,bl 65 0 none [(vi 2),(vi 0),vN,(.slice none 0 0),(vi 1),(st []),(vu 0),(vi 0)]),
 (1094,bl 65 0 none [(vi 3),(vi 0),vN,(.slice none 0 0),(vi 1),(st []),(vu 0),(vi 0)]),
 (1095,bl 65 0 none [(vi 4),(vi 0),vN,(.slice none 0 0),(vi 1),(st []),(vu 0),(vi 0)]),
 (1096,bl 65 0 none [(vi 5),(vi 0),vN,(.slice none 0 0),(vi 4),(st []),(vu 0),(vi 0)]),
 (1097,bl 65 0 none [(vi 6),(vi 0),vN,(.slice none 0 0),(vi 4),(st []),(vu 0),(vi 0)]),
 (1098,bl 65 0 none [(vi 7),(vi 0),vN,(.slice none 0 0),(vi 0),(st []),(vu 0),(vi 0)]),
 (1099,.map [((st [73,78,84,69,71,69,82]),(vp 1103 0)),((st [66,79,79,76,69,65,78]),(vp 1105 0)),((st [67,72,65,82]),(vp 1107 0)),((st [66,89,84,69]),(vp 1109 0)),((st [83,69,84]),(vp 1111 0)),((st [65,66,83]),(vp 1114 0)),((st [79,68,68]),(vp 1115 0)),((st [79,82,68]),(vp 1116 0)),((st [67,72,82]),(vp 1117 0)),((st [76,83,76]),(vp 1118 0)),((st [65,83,82]),(vp 1119 0)),((st [76,69,78]),(vp 1120 0)),((st [73,78,67]),(vp 1121 0)),((st [68,69,67]),(vp 1122 0)),((st [78,69,87]),(vp 1123 0)),((st [65,83,83,69,82,84]),(vp 1124 0)),((st [72,65,76,84]),(vp 1125 0)),((st [79,76,68]),(vp 1126 0)),((st [70,82,69,83,72]),(vp 1127 0)),((st [69,79,70]),(vp 1128 0)),((st [76,69,78,71,84,72]),(vp 1129 0)),((st [82,69,65,68]),(vp 1130 0)),((st [87,82,73,84,69]),(vp 1131 0)),((st [82,69,65,68,87]),(vp 1132 0)),((st [87,82,73,84,69,87]),(vp 1133 0)),((st [83,69,69,75]),(vp 1134 0)),((st [82,69,71,73,83,84,69,82]),(vp 1135 0)),((st [68,69,76,69,84,69]),(vp 1136 0))] 28),
 (1103,bl 108 0 none [(vi 1),(vp 1092 0),(vu 0),(vi 0),vF,(.slice none 0 0),vN,vN,.nilFunc]),
 (1105,bl 108 0 none [(vi 1),(vp 1093 0),(vu 0),(vi 0),vF,(.slice none 0 0),vN,vN,.nilFunc]),
 (1107,bl 108 0 none [(vi 1),(vp 1094 0),(vu 0),(vi 0),vF,(.slice none 0 0),vN,vN,.nilFunc]),
 (1109,bl 108 0 none [(vi 1),(vp 1095 0),(vu 0),(vi 0),vF,(.slice none 0 0),vN,vN,.nilFunc]),
 (1111,bl 108 0 none [(vi 1),(vp 1096 0),(vu 0),(vi 0),vF,(.slice none 0 0),vN,vN,.nilFunc]),
 (1114,bl 108 0 none [(vi 5),vN,(vu 0),(vi 0),vF,(.slice none 0 0),vN,vN,(.func (.func 60) #[] #[])]),
 (1115,bl 108 0 none [(vi 5),vN,(vu 0),(vi 0),vF,(.slice none 0 0),vN,vN,(.func (.func 61) #[] #[])]),
 (1116,bl 108 0 none [(vi 5),vN,(vu 0),(vi 0),vF,(.slice none 0 0),vN,vN,(.func (.func 62) #[] #[])]),
 (1117,bl 108 0 none [(vi 5),vN,(vu 0),(vi 0),vF,(.slice none 0 0),vN,vN,(.func (.func 63) #[] #[])]),
 (1118,bl 108 0 none [(vi 5),vN,(vu 0),(vi 0),vF,(.slice none 0 0),vN,vN,(.func (.func 64) #[] #[])]),
 (1119,bl 108 0 none [(vi 5),vN,(vu 0),(vi 0),vF,(.slice none 0 0),vN,vN,(.func (.func 65) #[] #[])]),
 (1120,bl 108 0 none [(vi 5),vN,(vu 0),(vi 0),vF,(.slice none 0 0),vN,vN,(.func (.func 66) #[] #[])]),
 (1121,bl 108 0 none [(vi 5),vN,(vu 0),(vi 0),vF,(.slice none 0 0),vN,vN,(.func (.func 67) #[] #[])]),
 (1122,bl 108 0 none [(vi 5),vN,(vu 0),(vi 0),vF,(.slice none 0 0),vN,vN,(.func (.func 67) #[] #[])]),
 (1123,bl 108 0 none [(vi 5),vN,(vu 0),(vi 0),vF,(.slice none 0 0),vN,vN,(.func (.func 68) #[] #[])]),
 (1124,bl 108 0 none [(vi 5),vN,(vu 0),(vi 0),vF,(.slice none 0 0),vN,vN,(.func (.func 69) #[] #[])]),
 (1125,bl 108 0 none [(vi 5),vN,(vu 0),(vi 0),vF,(.slice none 0 0),vN,vN,(.func (.func 70) #[] #[])]),
 (1126,bl 108 0 none [(vi 5),vN,(vu 0),(vi 0),vF,(.slice none 0 0),vN,vN,(.func (.func 71) #[] #[])]),
 (1127,bl 108 0 none [(vi 5),vN,(vu 0),(vi 0),vF,(.slice none 0 0),vN,vN,(.func (.func 71) #[] #[])]),
 (1128,bl 108 0 none [(vi 5),vN,(vu 0),(vi 0),vF,(.slice none 0 0),vN,vN,(.func (.func 72) #[] #[])]),
 (1129,bl 108 0 none [(vi 5),vN,(vu 0),(vi 0),vF,(.slice none 0 0),vN,vN,(.func (.func 73) #[] #[])]),
 (1130,bl 108 0 none [(vi 5),vN,(vu 0),(vi 0),vF,(.slice none 0 0),vN,vN,(.func (.func 74) #[] #[])]),
 (1131,bl 108 0 none [(vi 5),vN,(vu 0),(vi 0),vF,(.slice none 0 0),vN,vN,(.func (.func 75) #[] #[])]),
 (1132,bl 108 0 none [(vi 5),vN,(vu 0),(vi 0),vF,(.slice none 0 0),vN,vN,(.func (.func 76) #[] #[])]),
 (1133,bl 108 0 none [(vi 5),vN,(vu 0),(vi 0),vF,(.slice none 0 0),vN,vN,(.func (.func 77) #[] #[])]),
 (1134,bl 108 0 none [(vi 5),vN,(vu 0),(vi 0),vF,(.slice none 0 0),vN,vN,(.func (.func 77) #[] #[])]),
 (1135,bl 108 0 none [(vi 5),vN,(vu 0),(vi 0),vF,(.slice none 0 0),vN,vN,(.func (.func 70) #[] #[])]),
 (1136,bl 108 0 none [(vi 5),vN,(vu 0),(vi 0),vF,(.slice none 0 0),vN,vN,(.func (.func 78) #[] #[])]),
 (1137,.map [((st [120]),(vp 1244 0))] 1),
 (1138,bl 98 0 none [(vm 1099),(vm 1137)])]
def S1266:TS:=⟨1266,preT1266,1089,fun f=>Nat.add 1091 f,fun p=>Nat.add 1114 p⟩
def preT1268:List (Nat×AObj):=[(1089,.map [] 0),
 (1090,.map [((st [120]),(vu 0))] 1),
 (1091,bl 74 0 none [(.slice none 0 0),vN,(vp 1094 0),(vp 1095 0),(vp 1096 0),(vp 1097 0),(vp 1098 0),(vp 1099 0),(vp 1100 0),(vm 1089),(vs 1140 0 2 2),(vi 0),(.map none),vF,(st [77]),(.slice none 0 0),(vi 4),(vi 0),(vm 1090),(.slice none 0 0)]),
 (1094,bl 65 0 none [(vi 1),(vi 0),vN,(.slice none 0 0),(vi 4),(st []),(vu 0),(vi 0)]),
 (1095,bl 65 0 none [(vi 2),(vi 0),vN,(.slice none 0 0),(vi 1),(st []),(vu 0),(vi 0)]),
 (1096,bl 65 0 none [(vi 3),(vi 0),vN,(.slice none 0 0),(vi 1),(st []),(vu 0),(vi 0)]),
 (1097,bl 65 0 none [(vi 4),(vi 0),vN,(.slice none 0 0),(vi 1),(st []),(vu 0),(vi 0)]),
 (1098,bl 65 0 none [(vi 5),(vi 0),vN,(.slice none 0 0),(vi 4),(st []),(vu 0),(vi 0)]),
 (1099,bl 65 0 none [(vi 6),(vi 0),vN,(.slice none 0 0),(vi 4),(st []),(vu 0),(vi 0)]),
 (1100,bl 65 0 none [(vi 7),(vi 0),vN,(.slice none 0 0),(vi 0),(st []),(vu 0),(vi 0)]),
 (1101,.map [((st [73,78,84,69,71,69,82]),(vp 1105 0)),((st [66,79,79,76,69,65,78]),(vp 1107 0)),((st [67,72,65,82]),(vp 1109 0)),((st [66,89,84,69]),(vp 1111 0)),((st [83,69,84]),(vp 1113 0)),((st [65,66,83]),(vp 1116 0)),((st [79,68,68]),(vp 1117 0)),((st [79,82,68]),(vp 1118 0)),((st [67,72,82]),(vp 1119 0)),((st [76,83,76]),(vp 1120 0)),((st [65,83,82]),(vp 1121 0)),((st [76,69,78]),(vp 1122 0)),((st [73,78,67]),(vp 1123 0)),((st [68,69,67]),(vp 1124 0)),((st [78,69,87]),(vp 1125 0)),((st [65,83,83,69,82,84]),(vp 1126 0)),((st [72,65,76,84]),(vp 1127 0)),((st [79,76,68]),(vp 1128 0)),((st [70,82,69,83,72]),(vp 1129 0)),((st [69,79,70]),(vp 1130 0)),((st [76,69,78,71,84,72]),(vp 1131 0)),((st [82,69,65,68]),(vp 1132 0)),((st [87,82,73,84,69]),(vp 1133 0)),((st [82,69,65,68,87]),(vp 1134 0)),((st [87,82,73,84,69,87]),(vp 1135 0)),((st [83,69,69,75]),(vp 1136 0)),((st [82,69,71,73,83,84,69,82]),(vp 1137 0)),((st [68,69,76,69,84,69]),(vp 1138 0))] 28),
 (1105,bl 108 0 none [(vi 1),(vp 1094 0),(vu 0),(vi 0),vF,(.slice none 0 0),vN,vN,.nilFunc]),
 (1107,bl 108 0 none [(vi 1),(vp 1095 0),(vu 0),(vi 0),vF,(.slice none 0 0),vN,vN,.nilFunc]),
 (1109,bl 108 0 none [(vi 1),(vp 1096 0),(vu 0),(vi 0),vF,(.slice none 0 0),vN,vN,.nilFunc]),
 (1111,bl 108 0 none [(vi 1),(vp 1097 0),(vu 0),(vi 0),vF,(.slice none 0 0),vN,vN,.nilFunc]),
 (1113,bl 108 0 none [(vi 1),(vp 1098 0),(vu 0),(vi 0),vF,(.slice none 0 0),vN,vN,.nilFunc]),
 (1116,bl 108 0 none [(vi 5),vN,(vu 0),(vi 0),vF,(.slice none 0 0),vN,vN,(.func (.func 60) #[] #[])]),
 (1117,bl 108 0 none [(vi 5),vN,(vu 0),(vi 0),vF,(.slice none 0 0),vN,vN,(.func (.func 61) #[] #[])]),
 (1118,bl 108 0 none [(vi 5),vN,(vu 0),(vi 0),vF,(.slice none 0 0),vN,vN,(.func (.func 62) #[] #[])]),
 (1119,bl 108 0 none [(vi 5),vN,(vu 0),(vi 0),vF,(.slice none 0 0),vN,vN,(.func (.func 63) #[] #[])]),
 (1120,bl 108 0 none [(vi 5),vN,(vu 0),(vi 0),vF,(.slice none 0 0),vN,vN,(.func (.func 64) #[] #[])]),
 (1121,bl 108 0 none [(vi 5),vN,(vu 0),(vi 0),vF,(.slice none 0 0),vN,vN,(.func (.func 65) #[] #[])]),
 (1122,bl 108 0 none [(vi 5),vN,(vu 0),(vi 0),vF,(.slice none 0 0),vN,vN,(.func (.func 66) #[] #[])]),
 (1123,bl 108 0 none [(vi 5),vN,(vu 0),(vi 0),vF,(.slice none 0 0),vN,vN,(.func (.func 67) #[] #[])]),
 (1124,bl 108 0 none [(vi 5),vN,(vu 0),(vi 0),vF,(.slice none 0 0),vN,vN,(.func (.func 67) #[] #[])]),
 (1125,bl 108 0 none [(vi 5),vN,(vu 0),(vi 0),vF,(.slice none 0 0),vN,vN,(.func (.func 68) #[] #[])]),
 (1126,bl 108 0 none [(vi 5),vN,(vu 0),(vi 0),vF,(.slice none 0 0),vN,vN,(.func (.func 69) #[] #[])]),
 (1127,bl 108 0 none [(vi 5),vN,(vu 0),(vi 0),vF,(.slice none 0 0),vN,vN,(.func (.func 70) #[] #[])]),
 (1128,bl 108 0 none [(vi 5),vN,(vu 0),(vi 0),vF,(.slice none 0 0),vN,vN,(.func (.func 71) #[] #[])]),
 (1129,bl 108 0 none [(vi 5),vN,(vu 0),(vi 0),vF,(.slice none 0 0),vN,vN,(.func (.func 71) #[] #[])]),
 (1130,bl 108 0 none [(vi 5),vN,(vu 0),(vi 0),vF,(.slice none 0 0),vN,vN,(.func (.func 72) #[] #[])]),
 (1131,bl 108 0 none [(vi 5),vN,(vu 0),(vi 0),vF,(.slice none 0 0),vN,vN,(.func (.func 73) #[] #[])]),
 (1132,bl 108 0 none [(vi 5),vN,(vu 0),(vi 0),vF,(.slice none 0 0),vN,vN,(.func (.func 74) #[] #[])]),
 (1133,bl 108 0 none [(vi 5),vN,(vu 0),(vi 0),vF,(.slice none 0 0),vN,vN,(.func (.func 75) #[] #[])]),
 (1134,bl 108 0 none [(vi 5),vN,(vu 0),(vi 0),vF,(.slice none 0 0),vN,vN,(.func (.func 76) #[] #[])]),
 (1135,bl 108 0 none [(vi 5),vN,(vu 0),(vi 0),vF,(.slice none 0 0),vN,vN,(.func (.func 77) #[] #[])]),
 (1136,bl 108 0 none [(vi 5),vN,(vu 0),(vi 0),vF,(.slice none 0 0),vN,vN,(.func (.func 77) #[] #[])]),
 (1137,bl 108 0 none [(vi 5),vN,(vu 0),(vi 0),vF,(.slice none 0 0),vN,vN,(.func (.func 70) #[] #[])]),
 (1138,bl 108 0 none [(vi 5),vN,(vu 0),(vi 0),vF,(.slice none 0 0),vN,vN,(.func (.func 78) #[] #[])]),
 (1139,.map [((st [120]),(vp 1246 0))] 1),
 (1140,bl 98 0 none [(vm 1101),(vm 1139)])]
def S1268:TS:=⟨1268,preT1268,1091,fun f=>Nat.add 1093 f,fun p=>Nat.add 1116 p⟩
def preT1270:List (Nat×AObj):=[(1091,.map [] 0),
 (1092,.map [((st [120]),(vu 0))] 1),
 (1093,bl 74 0 none [(.slice none 0 0),vN,(vp 1096 0),(vp 1097 0),(vp 1098 0),(vp 1099 0),(vp 1100 0),(vp 1101 0),(vp 1102 0),(vm 1091),(vs 1142 0 2 2),(vi 0),(.map none),vF,(st [77]),(.slice none 0 0),(vi 4),(vi 0),(vm 1092),(.slice none 0 0)]),
 (1096,bl 65 0 none [(vi 1),(vi 0),vN,(.slice none 0 0),(vi 4),(st []),(vu 0),(vi 0)]),
 (1097,bl 65 0 none [(vi 2),(vi 0),vN,(.slice none 0 0),(vi 1),(st []),(vu 0),(vi 0)]),
 (1098,bl 65 0 none [(vi 3),(vi 0),vN,(.slice none 0 0),(vi 1),(st []),(vu 0),(vi 0)]),
 (1099,bl 65 0 none [(vi 4),(vi 0),vN,(.slice none 0 0),(vi 1),(st []),(vu 0),(vi 0)]),
 (1100,bl 65 0 none [(vi 5),(vi 0),vN,(.slice none 0 0),(vi 4),(st []),(vu 0),(vi 0)]),
 (1101,bl 65 0 none [(vi 6),(vi 0),vN,(.slice none 0 0),(vi 4),(st []),(vu 0),(vi 0)]),
 (1102,bl 65 0 none [(vi 7),(vi 0),vN,(.slice none 0 0),(vi 0),(st []),(vu 0),(vi 0)]),
 (1103,.map [((st [73,78,84,69,71,69,82]),(vp 1107 0)),((st [66,79,79,76,69,65,78]),(vp 1109 0)),((st [67,72,65,82]),(vp 1111 0)),((st [66,89,84,69]),(vp 1113 0)),((st [83,69,84]),(vp 1115 0)),((st [65,66,83]),(vp 1118 0)),((st [79,68,68]),(vp 1119 0)),((st [79,82,68]),(vp 1120 0)),((st [67,72,82]),(vp 1121 0)),((st [76,83,76]),(vp 1122 0)),((st [65,83,82]),(vp 1123 0)),((st [76,69,78]),(vp 1124 0)),((st [73,78,67]),(vp 1125 0)),((st [68,69,67]),(vp 1126 0)),((st [78,69,87]),(vp 1127 0)),((st [65,83,83,69,82,84]),(vp 1128 0)),((st [72,65,76,84]),(vp 1129 0)),((st [79,76,68]),(vp 1130 0)),((st [70,82,69,83,72]),(vp 1131 0)),((st [69,79,70]),(vp 1132 0)),((st [76,69,78,71,84,72]),(vp 1133 0)),((st [82,69,65,68]),(vp 1134 0)),((st [87,82,73,84,69]),(vp 1135 0)),((st [82,69,65,68,87]),(vp 1136 0)),((st [87,82,73,84,69,87]),(vp 1137 0)),((st [83,69,69,75]),(vp 1138 0)),((st [82,69,71,73,83,84,69,82]),(vp 1139 0)),((st [68,69,76,69,84,69]),(vp 1140 0))] 28),
 (1107,bl 108 0 none [(vi 1),(vp 1096 0),(vu 0),(vi 0),vF,(.slice none 0 0),vN,vN,.nilFunc]),
 (1109,bl 108 0 none [(vi 1),(vp 1097 0),(vu 0),(vi 0),vF,(.slice none 0 0),vN,vN,.nilFunc]),
 (1111,bl 108 0 none [(vi 1),(vp 1098 0),(vu 0),(vi 0),vF,(.slice none 0 0),vN,vN,.nilFunc]),
 (1113,bl 108 0 none [(vi 1),(vp 1099 0),(vu 0),(vi 0),vF,(.slice none 0 0),vN,vN,.nilFunc]),
 (1115,bl 108 0 none [(vi 1),(vp 1100 0),(vu 0),(vi 0),vF,(.slice none 0 0),vN,vN,.nilFunc]),
 (1118,bl 108 0 none [(vi 5),vN,(vu 0),(vi 0),vF,(.slice none 0 0),vN,vN,(.func (.func 60) #[] #[])]),
 (1119,bl 108 0 none [(vi 5),vN,(vu 0),(vi 0),vF,(.slice none 0 0),vN,vN,(.func (.func 61) #[] #[])]),
 (1120,bl 108 0 none [(vi 5),vN,(vu 0),(vi 0),vF,(.slice none 0 0),vN,vN,(.func (.func 62) #[] #[])]),
 (1121,bl 108 0 none [(vi 5),vN,(vu 0),(vi 0),vF,(.slice none 0 0),vN,vN,(.func (.func 63) #[] #[])]),
 (1122,bl 108 0 none [(vi 5),vN,(vu 0),(vi 0),vF,(.slice none 0 0),vN,vN,(.func (.func 64) #[] #[])]),
 (1123,bl 108 0 none [(vi 5),vN,(vu 0),(vi 0),vF,(.slice none 0 0),vN,vN,(.func (.func 65) #[] #[])]),
 (1124,bl 108 0 none [(vi 5),vN,(vu 0),(vi 0),vF,(.slice none 0 0),vN,vN,(.func (.func 66) #[] #[])]),
 (1125,bl 108 0 none [(vi 5),vN,(vu 0),(vi 0),vF,(.slice none 0 0),vN,vN,(.func (.func 67) #[] #[])]),
 (1126,bl 108 0 none [(vi 5),vN,(vu 0),(vi 0),vF,(.slice none 0 0),vN,vN,(.func (.func 67) #[] #[])]),
 (1127,bl 108 0 none [(vi 5),vN,(vu 0),(vi 0),vF,(.slice none 0 0),vN,vN,(.func (.func 68) #[] #[])]),
 (1128,bl 108 0 none [(vi 5),vN,(vu 0),(vi 0),vF,(.slice none 0 0),vN,vN,(.func (.func 69) #[] #[])]),
 (1129,bl 108 0 none [(vi 5),vN,(vu 0),(vi 0),vF,(.slice none 0 0),vN,vN,(.func (.func 70) #[] #[])]),
 (1130,bl 108 0 none [(vi 5),vN,(vu 0),(vi 0),vF,(.slice none 0 0),vN,vN,(.func (.func 71) #[] #[])]),
 (1131,bl 108 0 none [(vi 5),vN,(vu 0),(vi 0),vF,(.slice none 0 0),vN,vN,(.func (.func 71) #[] #[])]),
 (1132,bl 108 0 none [(vi 5),vN,(vu 0),(vi 0),vF,(.slice none 0 0),vN,vN,(.func (.func 72) #[] #[])]),
 (1133,bl 108 0 none [(vi 5),vN,(vu 0),(vi 0),vF,(.slice none 0 0),vN,vN,(.func (.func 73) #[] #[])]),
 (1134,bl 108 0 none [(vi 5),vN,(vu 0),(vi 0),vF,(.slice none 0 0),vN,vN,(.func (.func 74) #[] #[])]),
 (1135,bl 108 0 none [(vi 5),vN,(vu 0),(vi 0),vF,(.slice none 0 0),vN,vN,(.func (.func 75) #[] #[])]),
 (1136,bl 108 0 none [(vi 5),vN,(vu 0),(vi 0),vF,(.slice none 0 0),vN,vN,(.func (.func 76) #[] #[])]),
 (1137,bl 108 0 none [(vi 5),vN,(vu 0),(vi 0),vF,(.slice none 0 0),vN,vN,(.func (.func 77) #[] #[])]),
 (1138,bl 108 0 none [(vi 5),vN,(vu 0),(vi 0),vF,(.slice none 0 0),vN,vN,(.func (.func 77) #[] #[])]),
 (1139,bl 108 0 none [(vi 5),vN,(vu 0),(vi 0),vF,(.slice none 0 0),vN,vN,(.func (.func 70) #[] #[])]),
 (1140,bl 108 0 none [(vi 5),vN,(vu 0),(vi 0),vF,(.slice none 0 0),vN,vN,(.func (.func 78) #[] #[])]),
 (1141,.map [((st [120]),(vp 1248 0))] 1),
 (1142,bl 98 0 none [(vm 1103),(vm 1141)])]
def S1270:TS:=⟨1270,preT1270,1093,fun f=>Nat.add 1095 f,fun p=>Nat.add 1118 p⟩
def preT1271:List (Nat×AObj):=[(1092,.map [] 0),
 (1093,.map [((st [120]),(vu 0))] 1),
 (1094,bl 74 0 none [(.slice none 0 0),vN,(vp 1097 0),(vp 1098 0),(vp 1099 0),(vp 1100 0),(vp 1101 0),(vp 1102 0),(vp 1103 0),(vm 1092),(vs 1143 0 2 2),(vi 0),(.map none),vF,(st [77]),(.slice none 0 0),(vi 4),(vi 0),(vm 1093),(.slice none 0 0)]),
 (1097,bl 65 0 none [(vi 1),(vi 0),vN,(.slice none 0 0),(vi 4),(st []),(vu 0),(vi 0)]),
 (1098,bl 65 0 none [(vi 2),(vi 0),vN,(.slice none 0 0),(vi 1),(st []),(vu 0),(vi 0)]),
 (1099,bl 65 0 none [(vi 3),(vi 0),vN,(.slice none 0 0),(vi 1),(st []),(vu 0),(vi 0)]),
 (1100,bl 65 0 none [(vi 4),(vi 0),vN,(.slice none 0 0),(vi 1),(st []),(vu 0),(vi 0)]),
 (1101,bl 65 0 none [(vi 5),(vi 0),vN,(.slice none 0 0),(vi 4),(st []),(vu 0),(vi 0)]),
 (1102,bl 65 0 none [(vi 6),(vi 0),vN,(.slice none 0 0),(vi 4),(st []),(vu 0),(vi 0)]),
 (1103,bl 65 0 none [(vi 7),(vi 0),vN,(.slice none 0 0),(vi 0),(st []),(vu 0),(vi 0)]),
 (1104,.map [((st [73,78,84,69,71,69,82]),(vp 1108 0)),((st [66,79,79,76,69,65,78]),(vp 1110 0)),((st [67,72,65,82]),(vp 1112 0)),((st [66,89,84,69]),(vp 1114 0)),((st [83,69,84]),(vp 1116 0)),((st [65,66,83]),(vp 1119 0)),((st [79,68,68]),(vp 1120 0)),((st [79,82,68]),(vp 1121 0)),((st [67,72,82]),(vp 1122 0)),((st [76,83,76]),(vp 1123 0)),((st [65,83,82]),(vp 1124 0)),((st [76,69,78]),(vp 1125 0)),((st [73,78,67]),(vp 1126 0)),((st [68,69,67]),(vp 1127 0)),((st [78,69,87]),(vp 1128 0)),((st [65,83,83,69,82,84]),(vp 1129 0)),((st [72,65,76,84]),(vp 1130 0)),((st [79,76,68]),(vp 1131 0)),((st [70,82,69,83,72]),(vp 1132 0)),((st [69,79,70]),(vp 1133 0)),((st [76,69,78,71,84,72]),(vp 1134 0)),((st [82,69,65,68]),(vp 1135 0)),((st [87,82,73,84,69]),(vp 1136 0)),((st [82,69,65,68,87]),(vp 1137 0)),((st [87,82,73,84,69,87]),(vp 1138 0)),((st [83,69,69,75]),(vp 1139 0)),((st [82,69,71,73,83,84,69,82]),(vp 1140 0)),((st [68,69,76,69,84,69]),(vp 1141 0))] 28),
 (1108,bl 108 0 none [(vi 1),(vp 1097 0),(vu 0),(vi 0),vF,(.slice none 0 0),vN,vN,.nilFunc]),
 (1110,bl 108 0 none [(vi 1),(vp 1098 0),(vu 0),(vi 0),vF,(.slice none 0 0),vN,vN,.nilFunc]),
 (1112,bl 108 0 none [(vi 1),(vp 1099 0),(vu 0),(vi 0),vF,(.slice none 0 0),vN,vN,.nilFunc]),
 (1114,bl 108 0 none [(vi 1),(vp 1100 0),(vu 0),(vi 0),vF,(.slice none 0 0),vN,vN,.nilFunc]),
 (1116,bl 108 0 none [(vi 1),(vp 1101 0),(vu 0),(vi 0),vF,(.slice none 0 0),vN,vN,.nilFunc]),
 (1119,bl 108 0 none [(vi 5),vN,(vu 0),(vi 0),vF,(.slice none 0 0),vN,vN,(.func (.func 60) #[] #[])]),
 (1120,bl 108 0 none [(vi 5),vN,(vu 0),(vi 0),vF,(.slice none 0 0),vN,vN,(.func (.func 61) #[] #[])]),
 (1121,bl 108 0 none [(vi 5),vN,(vu 0),(vi 0),vF,(.slice none 0 0),vN,vN,(.func (.func 62) #[] #[])]),
 (1122,bl 108 0 none [(vi 5),vN,(vu 0),(vi 0),vF,(.slice none 0 0),vN,vN,(.func (.func 63) #[] #[])]),
 (1123,bl 108 0 none [(vi 5),vN,(vu 0),(vi 0),vF,(.slice none 0 0),vN,vN,(.func (.func 64) #[] #[])]),
 (1124,bl 108 0 none [(vi 5),vN,(vu 0),(vi 0),vF,(.slice none 0 0),vN,vN,(.func (.func 65) #[] #[])]),
 (1125,bl 108 0 none [(vi 5),vN,(vu 0),(vi 0),vF,(.slice none 0 0),vN,vN,(.func (.func 66) #[] #[])]),
 (1126,bl 108 0 none [(vi 5),vN,(vu 0),(vi 0),vF,(.slice none 0 0),vN,vN,(.func (.func 67) #[] #[])]),
 (1127,bl 108 0 none [(vi 5),vN,(vu 0),(vi 0),vF,(.slice none 0 0),vN,vN,(.func (.func 67) #[] #[])]),
 (1128,bl 108 0 none [(vi 5),vN,(vu 0),(vi 0),vF,(.slice none 0 0),vN,vN,(.func (.func 68) #[] #[])]),
 (1129,bl 108 0 none [(vi 5),vN,(vu 0),(vi 0),vF,(.slice none 0 0),vN,vN,(.func (.func 69) #[] #[])]),
 (1130,bl 108 0 none [(vi 5),vN,(vu 0),(vi 0),vF,(.slice none 0 0),vN,vN,(.func (.func 70) #[] #[])]),
 (1131,bl 108 0 none [(vi 5),vN,(vu 0),(vi 0),vF,(.slice none 0 0),vN,vN,(.func (.func 71) #[] #[])]),
 (1132,bl 108 0 none [(vi 5),vN,(vu 0),(vi 0),vF,(.slice none 0 0),vN,vN,(.func (.func 71) #[] #[])]),
 (1133,bl 108 0 none [(vi 5),vN,(vu 0),(vi 0),vF,(.slice none 0 0),vN,vN,(.func (.func 72) #[] #[])]),
 (1134,bl 108 0 none [(vi 5),vN,(vu 0),(vi 0),vF,(.slice none 0 0),vN,vN,(.func (.func 73) #[] #[])]),
 (1135,bl 108 0 none [(vi 5),vN,(vu 0),(vi 0),vF,(.slice none 0 0),vN,vN,(.func (.func 74) #[] #[])]),
 (1136,bl 108 0 none [(vi 5),vN,(vu 0),(vi 0),vF,(.slice none 0 0),vN,vN,(.func (.func 75) #[] #[])]),
 (1137,bl 108 0 none [(vi 5),vN,(vu 0),(vi 0),vF,(.slice none 0 0),vN,vN,(.func (.func 76) #[] #[])]),
 (1138,bl 108 0 none [(vi 5),vN,(vu 0),(vi 0),vF,(.slice none 0 0),vN,vN,(.func (.func 77) #[] #[])]),
 (1139,bl 108 0 none [(vi 5),vN,(vu 0),(vi 0),vF,(.slice none 0 0),vN,vN,(.func (.func 77) #[] #[])]),
 (1140,bl 108 0 none [(vi 5),vN,(vu 0),(vi 0),vF,(.slice none 0 0),vN,vN,(.func (.func 70) #[] #[])]),
 (1141,bl 108 0 none [(vi 5),vN,(vu 0),(vi 0),vF,(.slice none 0 0),vN,vN,(.func (.func 78) #[] #[])]),
 (1142,.map [((st [120]),(vp 1249 0))] 1),
 (1143,bl 98 0 none [(vm 1104),(vm 1142)])]
def S1271:TS:=⟨1271,preT1271,1094,fun f=>Nat.add 1096 f,fun p=>Nat.add 1119 p⟩
end
end Go.AM

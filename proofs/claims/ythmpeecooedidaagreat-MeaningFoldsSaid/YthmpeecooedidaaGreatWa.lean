/- The walks, part 1. No conditions of its own: each theorem bears its own. -/
import Derived.Test.YthmpeecooedidaaGreatMe
import Derived.Test.YthmpeecooedidaaGreatProg
import Derived.WalkKit
import Derived.Deep.MidRow
import Derived.WalkLawsBesides
import Derived.ChangeArms
import Derived.Test.YthmpeecooedidaaGreatShelf
import Derived.OwnWalk
import Derived.Laws.Externs
import Derived.MapKept
set_option linter.unusedSimpArgs false
set_option linter.unusedVariables false
namespace Go.Proofs
open Go.RowKit
def RetV (b:Bool) (e:Ending):Prop:=e= .returned (.bool b)
def fLetter (y:Nat):Bool:=decide ((97≤y∧y≤122)∨(65≤y∧y≤90))
def byteN (s:ByteArray) (k:Nat):Nat:=(s.data.toList[k]?.getD 0).toNat
def okT (y:Nat):Bool:=decide (¬(y<32∨126<y∨y=34))
def fText (s:ByteArray):Bool:=decide (∀k,k<s.size→okT (byteN s k)=true)&&decide (s.size≤63)
theorem fText_no {s:ByteArray} {k:Nat} (hk:k<s.size) (h:okT (byteN s k)=false):fText s=false:=by
 have: ¬ ∀k,k<s.size→okT (byteN s k)=true:=fun hh=>by rw[hh k hk]at h;cases h
 simp[fText,this]
theorem fText_yes {s:ByteArray} (h: ∀k,k<s.size→okT (byteN s k)=true):fText s=decide (s.size≤63):=by
 simp only[fText,decide_eq_true h,Bool.true_and]
theorem bytes_cell (w:World) (e:TypeId) (s:ByteArray) (i:Nat) (h:i<s.size):(Lib.bytesWorld w e s).cell? ⟨w.heap.size,i,none⟩=some (.int .u8 ((s.data.toList[i]?.getD 0).toNat:Nat)):=by
 have h1:=Lib.bytesWorld_at_new w e s
 have hl:i<s.data.size:=h
 simp only[World.cell?,h1]
 simp[Lib.bytesCells,hl,h,Array.getElem?_append]
set_option maxHeartbeats 2000000 in
set_option maxRecDepth 1000000 in
theorem Tryz.mayText (s:ByteArray) (w:World) (hsz:s.size≤9223372036854775807):Calls Tryz.prog 156 #[.string s] w fun e w'=>RetV (fText s) e∧w'=Lib.bytesWorld w 5 s:=by
 go_enter Tryz.func156,Tryz.ntmps156
 go_wp2
 rw[Lib.run_convert_string_bytes w 9 77 5 s Tryz.underlying9 Tryz.underlying77 Tryz.underlying5]
 simp only[Result.andThen]
 rw[Oper.upon_value]
 have hcl:=bytes_cell w 5 s
 generalize hwb:Lib.bytesWorld w 5 s=wb at*
 generalize w.heap.size=b at*
 generalize grownCap w s.size 0 5=c at*
 go_wp2
 go_loop [8] (fun i=> ∃k:Nat,k≤s.size∧i= .int .i64 k∧ ∀j,j<k→okT (byteN s j)=true) (fun i=>s.size - (intOf i).toNat)
 case atStart=>exact⟨0,Nat.zero_le _,rfl,fun j hj=>absurd hj (Nat.not_lt_zero _)⟩
 case round=>
  obtain⟨k,hk,rfl,hall⟩:=hrel
  have hcell:k<s.size→wb.cell? ⟨b,k,none⟩=some (.int .u8 ((s.data.toList[k]?.getD 0).toNat:Nat)):=fun h=>hcl k h
  have hy:byteN s k=(s.data.toList[k]?.getD 0).toNat:=rfl
  clear hcl
  generalize(s.data.toList[k]?.getD 0).toNat=y at*
  go_wp2
  ·have hlt:k<s.size:=by assumption
   rename_i p q r
   have e34:(y:Int)=34:=by
    rcases q with(q|q)|q
    ·omega
    ·omega
    ·simpa using q
   go_ret
   refine⟨?_,rfl⟩
   rw[fText_no hlt (by rw[hy];simp only[okT];exact decide_eq_false (fun h=>h (by omega)))];rfl
  ·have hlt:k<s.size:=by assumption
   have hb:(32≤(y:Int)∧(y:Int)≤126)∧((y:Int)==34)=false:=by assumption
   obtain⟨hb1,hb2⟩:=hb
   have hb2:(y:Int)≠34:=by simpa using hb2
   go_round
   case rel=>
    refine⟨k+1,by omega,by go_num,fun j hj=>?_⟩
    rcases Nat.lt_or_ge j k with h|h
    ·exact hall j h
    ·have:j=k:=by omega
     subst this
     rw[hy];simp only[okT];exact decide_eq_true (by omega)
   case measure=>simp[intOf];omega
  ·have hlt:k<s.size:=by assumption
   have hb:126<(y:Int):=by assumption
   go_ret
   refine⟨?_,rfl⟩
   rw[fText_no hlt (by rw[hy];simp only[okT];exact decide_eq_false (fun h=>h (by omega)))];rfl
  ·have hlt:k<s.size:=by assumption
   have hb:(y:Int)<32:=by assumption
   go_ret
   refine⟨?_,rfl⟩
   rw[fText_no hlt (by rw[hy];simp only[okT];exact decide_eq_false (fun h=>h (by omega)))];rfl
  ·have hge: ¬k<s.size:=by assumption
   go_ret
   refine⟨?_,rfl⟩
   rw[fText_yes (fun j hj=>hall j (by omega))]
   refine congrArg (fun b=>Ending.returned (Value.bool b)) ?_
   rw[Bool.eq_iff_iff];simp;try omega
set_option maxHeartbeats 2000000 in
set_option maxRecDepth 1000000 in
theorem Tryz.letter (y:Nat) (w:World):Calls Tryz.prog 291 #[.int .u8 y] w fun e w'=>RetV (fLetter y) e∧w'=w:=by
 go_enter Tryz.func291,Tryz.ntmps291
 go_wp2
 all_goals (go_ret;refine⟨?_,rfl⟩;refine congrArg (fun b=>Ending.returned (Value.bool b)) ?_;rw[Bool.eq_iff_iff];simp[fLetter];omega)
end Go.Proofs
namespace Go.Proofs
open Go.RowKit
open Go.AM (KeepW)
def ContainsOk (W:World):Prop:= ∀(s sub:ByteArray) w,KeepW W w→s.size<4294967281→Calls Tryz.prog 152 #[.string s,.string sub] w fun e w'=>RetV (Go.Lib.contains s.data.toList sub.data.toList) e∧w'=w
theorem keep_bytes (w:World) (e:TypeId) (s:ByteArray):KeepW w (Lib.bytesWorld w e s):=by
 refine⟨?_,fun b hb=>Lib.bytesWorld_at_old w e s b (by omega),?_,?_,?_⟩
 ·rw[Lib.bytesWorld_size];omega
 all_goals simp[Lib.bytesWorld,World.freeze,World.alloc,World.drew,-World.alloc_eq,-World.drew_eq]
def kwl:List UInt8:=[32,65,82,82,65,89,32,66,69,71,73,78,32,67,79,78,83,84,32,68,73,86,32,68,79,32,69,76,83,69,32,69,76,83,73,70,32,69,78,68,32,70,65,76,83,69,32,73,70,32,73,77,80,79,82,84,32,73,78,32,77,79,68,32,77,79,68,85,76,69,32,78,73,76,32,79,70,32,79,82,32,80,79,73,78,84,69,82,32,80,82,79,67,69,68,85,82,69,32,82,69,67,79,82,68,32,82,69,80,69,65,84,32,82,69,84,85,82,78,32,84,72,69,78,32,84,79,32,84,82,85,69,32,84,89,80,69,32,85,78,84,73,76,32,86,65,82,32,87,72,73,76,69,32]
set_option maxHeartbeats 2000000 in
set_option maxRecDepth 1000000 in
theorem Tryz.keyword_ex {W:World} (hC:ContainsOk W) (s:ByteArray) (hsz:s.size<4294967281): ∃b,∀w,KeepW W w→Calls Tryz.prog 292 #[.string s] w fun e w'=>RetV b e∧w'=w:=by
 by_cases h1:s.toList=[]
 ·refine⟨false,fun w hw=>?_⟩
  go_enter Tryz.func292,Tryz.ntmps292
  go_wp2_with (first
   |(go_at_call 152;refine(hC _ _ _ hw (by first|assumption|decide)).mono ?_;rintro e w1 ⟨rfl,rfl⟩))
  go_ret
  exact⟨rfl,rfl⟩
 by_cases h2:Lib.contains s.data.toList [32]=true
 ·refine⟨false,fun w hw=>?_⟩
  go_enter Tryz.func292,Tryz.ntmps292
  go_wp2_with (first
   |(go_at_call 152;refine(hC _ _ _ hw (by first|assumption|decide)).mono ?_;rintro e w1 ⟨rfl,rfl⟩))
  go_ret
  exact⟨rfl,rfl⟩
 ·refine⟨!s.toList.isEmpty&&Lib.contains kwl (32::(s.data.toList++[32])),fun w hw=>?_⟩
  go_enter Tryz.func292,Tryz.ntmps292
  go_wp2_with (first
   |(go_at_call 152;refine(hC _ _ _ hw (by first|assumption|decide)).mono ?_;rintro e w1 ⟨rfl,rfl⟩))
  go_ret
  exact⟨rfl,rfl⟩
theorem keyword_fn {W:World} (hC:ContainsOk W): ∃g:ByteArray→Bool,∀s:ByteArray,s.size<4294967281→ ∀w,KeepW W w→Calls Tryz.prog 292 #[.string s] w fun e w'=>RetV (g s) e∧w'=w:=by
 have h: ∀s:ByteArray,∃b,s.size<4294967281→ ∀w,KeepW W w→Calls Tryz.prog 292 #[.string s] w fun e w'=>RetV b e∧w'=w:=by
  intro s
  by_cases hs:s.size<4294967281
  ·obtain⟨b,hb⟩:=Tryz.keyword_ex hC s hs
   exact⟨b,fun _=>hb⟩
  ·exact⟨false,fun h=>absurd h hs⟩
 exact⟨fun s=>Classical.choose (h s),fun s hs=>Classical.choose_spec (h s) hs⟩
end Go.Proofs
namespace Go.Proofs
open Go.RowKit
open Go.AM (KeepW Tr)
theorem KeepW.range {W w:World} (h:KeepW W w) {b:Nat} (hb:b<W.heap.size) {o:Nat} {cs:List Value} (hr:W.rangeAt b o cs):w.rangeAt b o cs:=by
 intro j v hv
 have:=hr j v hv
 simp only[World.cell?,h.same b hb]at this⊢
 exact this
theorem keep_alloc (w:World) (o:Obj):KeepW w (w.alloc o):=by
 refine⟨?_,fun b hb=>?_,rfl,rfl,rfl⟩
 ·simp[World.alloc,-World.alloc_eq]
 ·simp[World.alloc,-World.alloc_eq,Array.getElem?_push,Nat.ne_of_lt hb]
theorem under_node: ∃fs,Tryz.prog.underlying 14=some (.struct fs):=⟨_,Tryz.underlying14⟩
set_option maxHeartbeats 2000000 in
set_option maxRecDepth 1000000 in
theorem Tryz.all (W:World) (b off c:Nat) (l:List Tr) (A:Nat→Bool) (hb:b<W.heap.size) (hlen:l.length≤c) (hc:c<9223372036854775808)
 (hcells: ∀k N,l[k]? =some N→W.rangeAt b (off+k*5) N.cells)
 (hsl: ∀(k:Nat) (N:Tr),l[k]? =some N→ ∃(a:Option Addr) (n c:Nat),N.sl=Value.slice a n c)
 (hmay: ∀k N,l[k]? =some N→ ∀w,KeepW W w→Calls Tryz.prog 12 #[N.val] w fun e w'=>e= .returned (.bool (A k))∧KeepW w w')
 (w:World) (hw:KeepW W w):Calls Tryz.prog 155 #[.slice (some ⟨b,off,none⟩) l.length c,.func (.func 12) #[] #[]] w fun e w'=>e= .returned (.bool (decide (∀k,k<l.length→A k=true)))∧KeepW w w':=by
 go_enter Tryz.func155,Tryz.ntmps155
 go_wp2
 go_step3
 go_wp2
 go_step3
 go_wp2
 go_loopw [5,10] (fun g i wr=> ∃k:Nat,k≤l.length∧i= .int .i64 k∧g= .bool true∧KeepW W wr∧KeepW w wr∧ ∀j,j<k→A j=true) (fun _ i _=>l.length - (intOf i).toNat)
 case atStart=>exact⟨0,Nat.zero_le _,rfl,rfl,hw,KeepW.refl _,fun j hj=>absurd hj (Nat.not_lt_zero _)⟩
 case round=>
  obtain⟨k,hk,rfl,rfl,hW,hkw,hA⟩:=hrel
  obtain⟨N,hN,a',n',c',hsl'⟩: ∃N:Tr,(k<l.length→l[k]? =some N)∧ ∃(a:Option Addr) (n c:Nat),N.sl=Value.slice a n c:=by
   by_cases h:k<l.length
   ·exact⟨_,fun _=>List.getElem?_eq_getElem h,hsl k _ (List.getElem?_eq_getElem h)⟩
   ·exact⟨.mk 0 [] 0 false (.slice none 0 0) [],fun h'=>absurd h' h,_,_,_,rfl⟩
  have hr:k<l.length→wr.rangeAt b (off+k*5) N.cells:=fun h=>KeepW.range hW hb (hcells k N (hN h))
  have c0:k<l.length→wr.cell? ⟨b,off+k*5,none⟩=some (.int .i64 N.kind):=fun h=>hr h 0 _ rfl
  have c1:k<l.length→wr.cell? ⟨b,off+k*5+1,none⟩=some (.string ⟨N.name.toArray⟩):=fun h=>hr h 1 _ rfl
  have c2:k<l.length→wr.cell? ⟨b,off+k*5+2,none⟩=some (.int .u32 (N.value:Nat)):=fun h=>hr h 2 _ rfl
  have c3:k<l.length→wr.cell? ⟨b,off+k*5+3,none⟩=some (.bool N.mark):=fun h=>hr h 3 _ rfl
  have c4:k<l.length→wr.cell? ⟨b,off+k*5+4,none⟩=some (.slice a' n' c'):=fun h=>by rw[←hsl'];exact hr h 4 _ rfl
  clear hr hcells hsl
  have hval:k<l.length→N.val= .agg #[.int .i64 N.kind,.string ⟨N.name.toArray⟩,.int .u32 (N.value:Nat),.bool N.mark,.slice a' n' c']:=fun _=>by simp only[Tr.val,Tr.cells,hsl']
  go_wp2_with fail
  ·have hlt:k<l.length:=by assumption
   have hm:=hmay k N (hN hlt)
   rw[hval hlt]at hm
   refine(hm _ (hW.trans (keep_alloc _ _))).mono ?_
   rintro e w1 ⟨rfl,hk1⟩
   have hkw1:=hkw.trans ((keep_alloc _ _).trans hk1)
   have hW1:=hW.trans ((keep_alloc _ _).trans hk1)
   clear hmay hm c0 c1 c2 c3 c4 hval hW hkw hk1
   generalize hAk:A k=bk
   cases bk
   ·go_wp2_with fail
    rw[Exit.noGoto_ret]
    go_ret
    refine⟨?_,hkw1⟩
    have: ¬ ∀k,k<l.length→A k=true:=fun h=>by rw[h k hlt]at hAk;cases hAk
    simp[this]
   ·go_wp2_with fail
    go_roundw
    case rel=>
     refine⟨k+1,by omega,by go_num,rfl,hW1,hkw1,fun j hj=>?_⟩
     rcases Nat.lt_or_ge j k with h|h
     ·exact hA j h
     ·have:j=k:=by omega
      subst this;exact hAk
    case measure=>simp[intOf];omega
  ·have hge: ¬k<l.length:=by assumption
   rw[Exit.noGoto_ret]
   go_ret
   refine⟨?_,hkw⟩
   have: ∀k,k<l.length→A k=true:=fun j hj=>hA j (by omega)
   simpa using this
set_option maxHeartbeats 2000000 in
set_option maxRecDepth 1000000 in
theorem Tryz.all0 (a:Option Addr) (c:Nat) (w:World):Calls Tryz.prog 155 #[.slice a 0 c,.func (.func 12) #[] #[]] w fun e w'=>e= .returned (.bool true)∧w'=w:=by
 go_enter Tryz.func155,Tryz.ntmps155
 go_wp2
 go_step3
 go_wp2
 go_step3
 go_wp2
 refine wp_loop_rounds 1 ?_
 rw[rounds_succ]
 go_wp2
 rw[Exit.noGoto_ret]
 go_ret
 exact⟨rfl,rfl⟩
end Go.Proofs
namespace Go.Proofs
open Go.RowKit
open Go.AM (KeepW Tr size1 sizeL)
theorem sizeL_take: ∀ {l:List Tr} {k:Nat} {N:Tr},l[k]? =some N→sizeL (l.take (k+1))=sizeL (l.take k)+size1 N
 |[],_,_,h=>by simp at h
 |a::l,0,N,h=>by
  simp only[List.getElem?_cons_zero,Option.some.injEq]at h;subst h
  simp[sizeL]
 |a::l,k+1,N,h=>by
  simp only[List.getElem?_cons_succ]at h
  simp only[List.take_succ_cons,sizeL,sizeL_take h,Nat.add_assoc]
def BigAns (most:Int) (n:Nat) (r:Int):Prop:= -7000≤r∧r≤most - 1∧(0≤r→r+(n:Nat)≤most)
def mmOf (nm:List UInt8):Int:=min (nm.length:Int) 100000 / 16
mutual
def bigF:Tr→Int→Int
 | .mk _ nm _ _ _ l,m=>bigL l (m - 1 - mmOf nm)
def bigL:List Tr→Int→Int
 |[],m=>m
 |k::l,m=>if m<0 then m else bigL l (bigF k m)
end
theorem bigL_neg {l:List Tr} {m:Int} (h:m<0):bigL l m=m:=by
 cases l with
 |nil=>simp[bigL]
 |cons k l=>simp[bigL,h]
theorem bigL_drop {l:List Tr} {k:Nat} {N:Tr} {m:Int} (h:l[k]? =some N) (hm:0≤m):bigL (l.drop k) m=bigL (l.drop (k+1)) (bigF N m):=by
 obtain⟨h1,h2⟩:=List.getElem?_eq_some_iff.1 h
 rw[List.drop_eq_getElem_cons h1,h2,bigL,if_neg (by omega)]
theorem bigF_ans: ∀(N:Tr) (m:Int),0≤m→BigAns m (size1 N) (bigF N m):=by
 intro N
 induction N using Tr.rec (motive_2:=fun l=> ∀m:Int,-6251≤m→(-7000≤bigL l m∧bigL l m≤m∧(0≤bigL l m→bigL l m+(sizeL l:Nat)≤m)))with
 |nil=>rename_i m hm;simp only[bigL,sizeL];omega
 |cons a l iha ihl=>
  rename_i m hm
  simp only[bigL,sizeL]
  split
  ·omega
  ·obtain⟨h1,h2,h3⟩:=iha m (by omega)
   by_cases h:bigF a m<0
   ·rw[bigL_neg h];omega
   ·obtain⟨g1,g2,g3⟩:=ihl (bigF a m) (by omega)
    refine⟨by omega,by omega,fun h=>?_⟩
    have:=g3 h;have:=h3 (by omega);omega
 |mk kd nm v b sl l ih=>
  intro m hm
  obtain⟨h1,h2,h3⟩:=ih (m - 1 - mmOf nm) (by unfold mmOf;omega)
  simp only[bigF,size1,BigAns]
  have hmm:0≤mmOf nm:=by unfold mmOf;omega
  refine⟨h1,by omega,fun h=>?_⟩
  have:=h3 h;omega
set_option maxHeartbeats 2000000 in
set_option maxRecDepth 1000000 in
theorem Tryz.big (W:World) (b off c:Nat) (l:List Tr) (kd:Int) (nm:List UInt8) (vl:Nat) (mk:Bool) (most:Int) (hm0:0≤most) (hm1:most≤1000000) (hb:b<W.heap.size) (hlen:l.length≤c) (hc:c<9223372036854775808)
 (hnm:nm.length≤9223372036854775807)
 (hcells: ∀k N,l[k]? =some N→W.rangeAt b (off+k*5) N.cells)
 (hsl: ∀(k:Nat) (N:Tr),l[k]? =some N→ ∃(a:Option Addr) (n c:Nat),N.sl=Value.slice a n c)
 (hbig: ∀(k:Nat) (N:Tr),l[k]? =some N→ ∀most,0≤most→most≤1000000→ ∀w,KeepW W w→Calls Tryz.prog 4 #[N.val,.int .i64 most] w fun e w'=>e= .returned (.int .i64 (bigF N most))∧KeepW w w')
 (w:World) (hw:KeepW W w):Calls Tryz.prog 4 #[.agg #[.int .i64 kd,.string ⟨nm.toArray⟩,.int .u32 (vl:Nat),.bool mk,.slice (some ⟨b,off,none⟩) l.length c],.int .i64 most] w fun e w'=>e= .returned (.int .i64 (bigL l (most - 1 - mmOf nm)))∧KeepW w w':=by
 go_enter Tryz.func4,Tryz.ntmps4
 go_wp2
 have hmn:0≤min (↑nm.length:Int) 100000 / 16∧min (↑nm.length:Int) 100000 / 16≤6250:=by omega
 generalize hmq:min (↑nm.length:Int) 100000 / 16=mm at*
 have hmo:mmOf nm=mm:=hmq
 generalize hwA:w.alloc (Obj.cells #[Value.int IntKind.i64 kd,Value.string { data:=nm.toArray },Value.int IntKind.u32 ↑vl,Value.bool mk,Value.slice (some { block:=b,off:=off }) l.length c] 26)=wA at*
 have hkA:KeepW w wA:=by rw[←hwA];exact keep_alloc _ _
 have hcA:wA.cell? ⟨w.heap.size,4,none⟩=some (.slice (some ⟨b,off,none⟩) l.length c):=by
  rw[←hwA];simp[World.cell?,World.alloc,-World.alloc_eq]
 have hBA:w.heap.size<wA.heap.size:=by rw[←hwA];simp[World.alloc,-World.alloc_eq]
 have hWA:KeepW W wA:=hw.trans hkA
 clear hwA
 generalize w.heap.size=B at hcA hBA⊢
 go_loopw [1,5] (fun m i wr=> ∃(k:Nat) (z:Int),k≤l.length∧i= .int .i64 k∧m= .int .i64 z∧KeepW wA wr∧ -7000≤z∧z≤most - 1∧bigL (l.drop k) z=bigL l (most - 1 - mm)) (fun _ i _=>l.length - (intOf i).toNat)
 case atStart=>exact⟨0,most - 1 - mm,Nat.zero_le _,rfl,rfl,KeepW.refl _,by omega,by omega,by rw[List.drop_zero]⟩
 case round=>
  obtain⟨k,z,hk,rfl,rfl,hkr,hz1,hz2,hz3⟩:=hrel
  have hW:KeepW W wr:=hWA.trans hkr
  have hcr:wr.cell? ⟨B,4,none⟩=some (.slice (some ⟨b,off,none⟩) l.length c):=by
   simp only[World.cell?,hkr.same B hBA]at hcA⊢
   exact hcA
  obtain⟨N,hN,a',n',c',hsl'⟩: ∃N:Tr,(k<l.length→l[k]? =some N)∧ ∃(a:Option Addr) (n c:Nat),N.sl=Value.slice a n c:=by
   by_cases h:k<l.length
   ·exact⟨_,fun _=>List.getElem?_eq_getElem h,hsl k _ (List.getElem?_eq_getElem h)⟩
   ·exact⟨.mk 0 [] 0 false (.slice none 0 0) [],fun h'=>absurd h' h,_,_,_,rfl⟩
  have hr:k<l.length→wr.rangeAt b (off+k*5) N.cells:=fun h=>KeepW.range hW hb (hcells k N (hN h))
  have c0:k<l.length→wr.cell? ⟨b,off+k*5,none⟩=some (.int .i64 N.kind):=fun h=>hr h 0 _ rfl
  have c1:k<l.length→wr.cell? ⟨b,off+k*5+1,none⟩=some (.string ⟨N.name.toArray⟩):=fun h=>hr h 1 _ rfl
  have c2:k<l.length→wr.cell? ⟨b,off+k*5+2,none⟩=some (.int .u32 (N.value:Nat)):=fun h=>hr h 2 _ rfl
  have c3:k<l.length→wr.cell? ⟨b,off+k*5+3,none⟩=some (.bool N.mark):=fun h=>hr h 3 _ rfl
  have c4:k<l.length→wr.cell? ⟨b,off+k*5+4,none⟩=some (.slice a' n' c'):=fun h=>by rw[←hsl'];exact hr h 4 _ rfl
  clear hr hcells hsl hcA
  have hval:k<l.length→N.val= .agg #[.int .i64 N.kind,.string ⟨N.name.toArray⟩,.int .u32 (N.value:Nat),.bool N.mark,.slice a' n' c']:=fun _=>by simp only[Tr.val,Tr.cells,hsl']
  go_wp2_with fail
  ·have hlt:k<l.length:=by assumption
   have hz0:0≤z:=by omega
   have hm:=hbig k N (hN hlt) z hz0 (by omega) wr hW
   rw[hval hlt]at hm
   refine hm.mono ?_
   rintro e w1 ⟨rfl,hk1⟩
   obtain⟨hr1,hr2,hr3⟩:=bigF_ans N z hz0
   have hdr:=(bigL_drop (hN hlt) hz0).symm.trans hz3
   generalize bigF N z=r at*
   clear hbig hm c0 c1 c2 c3 c4 hval
   go_wp2_with fail
   go_roundw
   case rel=>exact⟨k+1,r,by omega,by go_num,rfl,hkr.trans hk1,hr1,by omega,hdr⟩
   case measure=>simp[intOf];omega
  ·go_ret
   rw[bigL_neg (by omega)]at hz3
   exact⟨by rw[hmo,←hz3];rfl,hkA.trans hkr⟩
  ·have hge: ¬k<l.length:=by assumption
   go_ret
   rw[List.drop_eq_nil_of_le (by omega),bigL]at hz3
   exact⟨by rw[hmo,←hz3];rfl,hkA.trans hkr⟩
set_option maxHeartbeats 2000000 in
set_option maxRecDepth 1000000 in
theorem Tryz.big0 (W:World) (a:Option Addr) (c:Nat) (kd:Int) (nm:List UInt8) (vl:Nat) (mk:Bool) (most:Int) (hm0:0≤most) (hm1:most≤1000000) (hnm:nm.length≤9223372036854775807)
 (w:World):Calls Tryz.prog 4 #[.agg #[.int .i64 kd,.string ⟨nm.toArray⟩,.int .u32 (vl:Nat),.bool mk,.slice a 0 c],.int .i64 most] w fun e w'=>e= .returned (.int .i64 (most - 1 - mmOf nm))∧KeepW w w':=by
 go_enter Tryz.func4,Tryz.ntmps4
 go_wp2
 have hmn:0≤min (↑nm.length:Int) 100000 / 16∧min (↑nm.length:Int) 100000 / 16≤6250:=by omega
 generalize hmq:min (↑nm.length:Int) 100000 / 16=mm at*
 have hmo:mmOf nm=mm:=hmq
 generalize hwA:w.alloc (Obj.cells #[Value.int IntKind.i64 kd,Value.string { data:=nm.toArray },Value.int IntKind.u32 ↑vl,Value.bool mk,Value.slice a 0 c] 26)=wA at*
 have hkA:KeepW w wA:=by rw[←hwA];exact keep_alloc _ _
 have hcA:wA.cell? ⟨w.heap.size,4,none⟩=some (.slice a 0 c):=by
  rw[←hwA];simp[World.cell?,World.alloc,-World.alloc_eq]
 clear hwA
 generalize w.heap.size=B at hcA⊢
 refine wp_loop_rounds 1 ?_
 rw[rounds_succ]
 go_wp2
 go_ret
 exact⟨by rw[hmo];rfl,hkA⟩
def BigOk (W:World) (N:Tr):Prop:= ∀most,0≤most→most≤1000000→ ∀w,KeepW W w→
 Calls Tryz.prog 4 #[N.val,.int .i64 most] w fun e w'=>e= .returned (.int .i64 (bigF N most))∧KeepW w w'
theorem Tryz.bigAll (W:World): ∀N:Tr,Go.AM.Wf W N→BigOk W N:=by
 intro N
 induction N using Tr.rec (motive_2:=fun l=> ∀k∈l,Go.AM.Wf W k→BigOk W k)with
 |nil=>rename_i h _;cases h
 |cons a l iha ihl=>
  rename_i k hk hwk
  rcases List.mem_cons.1 hk with rfl|hk
  ·exact iha hwk
  ·exact ihl k hk hwk
 |mk kd nm v b sl l ih=>
  intro hw most h0 h1 w hkw
  have hn:=hw.name
  have hs:=hw.slOk
  simp only[Tr.sl,Tr.kids]at hs
  have hkids: ∀k∈l,Go.AM.Wf W k:=fun k hk=>hw.kid hk
  simp only[Tr.name]at hn
  have e:(Tr.mk kd nm v b sl l).val= .agg #[.int .i64 kd,.string ⟨nm.toArray⟩,.int .u32 (v:Nat),.bool b,sl]:=rfl
  rw[e]
  simp only[bigF]
  have hsl: ∀(k:Nat) (N:Tr),l[k]? =some N→ ∃(a:Option Addr) (n c:Nat),N.sl=Value.slice a n c:=fun k N h=>by
   obtain⟨a,c,e,_⟩:=(hkids N (List.mem_of_getElem? h)).slOk.shape
   exact⟨a,_,c,e⟩
  cases hs with
  |nil=>exact(Tryz.big0 W none 0 kd nm v b most h0 h1 hn w).mono fun e w' h=>by simp only[bigL];exact h
  |empty a c hc=>exact(Tryz.big0 W (some a) c kd nm v b most h0 h1 hn w).mono fun e w' h=>by simp only[bigL];exact h
  | @some bb off c cells ty fr l hne g1 g2 g3 g4 g5=>
   have hbb:bb<W.heap.size:=by
    rcases Nat.lt_or_ge bb W.heap.size with x|x
    ·exact x
    ·rw[Array.getElem?_eq_none x]at g1;cases g1
   refine Tryz.big W bb off c l kd nm v b most h0 h1 hbb g2 g3 hn ?_ hsl (fun k N h m m0 m1 w' hw'=>ih N (List.mem_of_getElem? h) (hkids N (List.mem_of_getElem? h)) m m0 m1 w' hw') w hkw
   intro k N hk j x hx
   have:=g5 k N hk j x hx
   simp only[World.cell?,g1]
   rw[show off+k*5+j=off+5*k+j by omega]
   exact this
end Go.Proofs
namespace Go.Proofs
open Go.RowKit
open Go.AM (KeepW Tr)
def PureW (f:FuncId) (args:Array Value) (v:Value):Prop:= ∀w,Calls Tryz.prog f args w fun e w'=>e= .returned v∧w'=w
abbrev U (n:Nat):Value:= .int .u32 (Int.ofNat n)
def fLess (a b:Nat):Bool:=decide (wrap32 (a:Int)<wrap32 (b:Int))
def iLeft (a b:Nat):Int:=(a:Int)*2 ^ (b % 32) % 4294967296
def iRight (a b:Nat):Int:=wrap32 (a:Int) / 2 ^ (b % 32) % 4294967296
def iSub (a b:Nat):Int:=((a:Int) - (b:Int)) % 4294967296
def iAdd (a b:Nat):Int:=IntKind.u64.wrap (IntKind.u64.wrap (IntKind.u64.wrap (a:Int)+IntKind.u64.wrap (b:Int))) % 4294967296
def iMul (a b:Nat):Int:=IntKind.u64.wrap (wrap64 (wrap64 (wrap32 (a:Int))*wrap64 (wrap32 (b:Int)))) % 4294967296
def iDiv (a b:Nat):Int:=
 let x:=wrap64 (wrap32 (a:Int));let y:=wrap64 (wrap32 (b:Int))
 if wrap32 (b:Int)≤0 then 0 else if x.tmod y<0 then wrap64 (wrap64 (x.tdiv y) - 1) % 4294967296 else wrap64 (x.tdiv y) % 4294967296
def iMod (a b:Nat):Int:=
 let x:=wrap64 (wrap32 (a:Int));let y:=wrap64 (wrap32 (b:Int))
 if wrap32 (b:Int)≤0 then 0 else if x.tmod y<0 then wrap64 (x.tmod y+y) % 4294967296 else x.tmod y % 4294967296
def iSum (l:List UInt8) (a b:Nat):Int:=
 if l=[43]then bits .or .u32 (a:Int) (b:Int)else if l=[45]then bits .andNot .u32 (a:Int) (b:Int)else if l=[42]then bits .and .u32 (a:Int) (b:Int)else bits .xor .u32 (a:Int) (b:Int)
def iReck (l:List UInt8) (a b:Nat):Int:=if l=[43]then iAdd a b else if l=[45]then iSub a b else iMul a b
def iWhole (l:List UInt8) (a b:Nat):Int:=if l=[68,73,86]then iDiv a b else if l=[77,79,68]then iMod a b else iReck l a b
def DivP (a b:Nat) (e:Ending):Prop:= ∃X Y Z,e= .returned (.tuple #[.int .u32 X,.int .u32 Y,.int .i64 Z])∧X=iDiv a b∧Y=iMod a b∧Z=(if 0<wrap32 (b:Int)then 0 else 2)
def Val1 (p:Int→Prop) (e:Ending):Prop:= ∃X Y Z,e= .returned (.tuple #[.int .u32 X,Y,Z])∧p X
set_option maxHeartbeats 2000000 in
set_option maxRecDepth 1000000 in
theorem Tryz.less (a b:Nat):PureW 85 #[U a,U b] (.bool (fLess a b)):=by
 intro w
 go_enter Tryz.func85,Tryz.ntmps85
 go_wp2
 go_ret
 exact⟨rfl,rfl⟩
set_option maxHeartbeats 2000000 in
set_option maxRecDepth 1000000 in
theorem Tryz.left (a b:Nat):PureW 79 #[U a,U b] (.int .u32 (iLeft a b)):=by
 intro w
 go_enter Tryz.func79,Tryz.ntmps79
 go_wp2
 go_ret
 exact⟨rfl,rfl⟩
set_option maxHeartbeats 2000000 in
set_option maxRecDepth 1000000 in
theorem Tryz.right (a b:Nat):PureW 167 #[U a,U b] (.int .u32 (iRight a b)):=by
 intro w
 go_enter Tryz.func167,Tryz.ntmps167
 go_wp2
 go_ret
 exact⟨rfl,rfl⟩
set_option maxHeartbeats 2000000 in
set_option maxRecDepth 1000000 in
theorem Tryz.sub32_ex (a b:Nat): ∃y:Int,∀w,Calls Tryz.prog 83 #[U a,U b,U 0] w fun e w'=>e= .returned (.tuple #[.int .u32 (iSub a b),.int .u32 y])∧w'=w:=by
 apply Exists.intro
 intro w
 go_enter Tryz.func83,Tryz.ntmps83
 go_wp2
 go_ret2
 exact⟨rfl,rfl⟩
theorem Tryz.sub32 (a b:Nat) (w:World):Calls Tryz.prog 83 #[U a,U b,U 0] w fun e w'=>(∃y,e= .returned (.tuple #[.int .u32 (iSub a b),.int .u32 y]))∧w'=w:=by
 obtain⟨y,h⟩:=Tryz.sub32_ex a b
 refine(h w).mono ?_
 rintro e w' ⟨h1,h2⟩
 exact⟨⟨_,h1⟩,h2⟩
set_option maxHeartbeats 2000000 in
set_option maxRecDepth 1000000 in
theorem Tryz.add32 (a b:Nat) (w:World):Calls Tryz.prog 250 #[U a,U b,U 0] w fun e w'=>(∃y,e= .returned (.tuple #[.int .u32 (iAdd a b),.int .u32 y]))∧w'=w:=by
 go_enter Tryz.func250,Tryz.ntmps250
 go_wp2
 go_ret2
 exact⟨⟨_,rfl⟩,rfl⟩
set_option maxHeartbeats 2000000 in
set_option maxRecDepth 1000000 in
theorem Tryz.sub_ex (a b:Nat): ∃y z:Value,∀w,Calls Tryz.prog 30 #[U a,U b,.bool false] w fun e w'=>e= .returned (.tuple #[.int .u32 (iSub a b),y,z])∧w'=w:=by
 obtain⟨v,hv⟩:=Tryz.sub32_ex a b
 apply Exists.intro
 apply Exists.intro
 intro w
 go_enter Tryz.func30,Tryz.ntmps30
 go_wp2_with (first
  |(go_at_call 83;refine(hv _).mono ?_;rintro e w1 ⟨rfl,rfl⟩))
 go_ret3
 exact⟨rfl,rfl⟩
theorem Tryz.sub (a b:Nat) (w:World):Calls Tryz.prog 30 #[U a,U b,.bool false] w fun e w'=>Val1 (fun X=>X=iSub a b) e∧w'=w:=by
 obtain⟨y,z,h⟩:=Tryz.sub_ex a b
 refine(h w).mono ?_
 rintro e w' ⟨h1,h2⟩
 exact⟨⟨_,_,_,h1,rfl⟩,h2⟩
set_option maxHeartbeats 2000000 in
set_option maxRecDepth 1000000 in
theorem Tryz.add (a b:Nat) (w:World):Calls Tryz.prog 171 #[U a,U b,.bool false] w fun e w'=>Val1 (fun X=>X=iAdd a b) e∧w'=w:=by
 go_enter Tryz.func171,Tryz.ntmps171
 go_wp2_with (first
  |(go_at_call 250;refine(Tryz.add32 _ _ _).mono ?_;rintro e w1 ⟨⟨v,rfl⟩,rfl⟩))
 go_ret3
 exact⟨⟨_,_,_,rfl,rfl⟩,rfl⟩
set_option maxHeartbeats 2000000 in
set_option maxRecDepth 1000000 in
theorem Tryz.mul (a b:Nat) (w:World):Calls Tryz.prog 172 #[U a,U b,.bool true] w fun e w'=>(∃X Y,e= .returned (.tuple #[.int .u32 X,Y])∧X=iMul a b)∧w'=w:=by
 go_enter Tryz.func172,Tryz.ntmps172
 go_wp2
 go_ret2
 exact⟨⟨_,_,rfl,rfl⟩,rfl⟩
set_option maxHeartbeats 2000000 in
set_option maxRecDepth 1000000 in
theorem Tryz.div (a b:Nat) (w:World):Calls Tryz.prog 86 #[U a,U b] w fun e w'=>DivP a b e∧KeepW w w':=by
 go_enter Tryz.func86,Tryz.ntmps86
 go_wp2
 ·have hpos:wrap32 (b:Int)≤0:=by assumption
  go_ret3
  exact⟨⟨_,_,_,rfl,by simp[iDiv,hpos],by simp[iMod,hpos],by rw[if_neg (by omega)]⟩,KeepW.refl _⟩
 ·have hpos:0<wrap32 (b:Int):=by assumption
  have hy:0<wrap64 (wrap32 (b:Int)):=by simp only[wrap32,wrap64]at*;omega
  have h1:iDiv a b=if(wrap64 (wrap32 (a:Int))).tmod (wrap64 (wrap32 (b:Int)))<0 then wrap64 (wrap64 ((wrap64 (wrap32 (a:Int))).tdiv (wrap64 (wrap32 (b:Int)))) - 1) % 4294967296 else wrap64 ((wrap64 (wrap32 (a:Int))).tdiv (wrap64 (wrap32 (b:Int)))) % 4294967296:=by
   unfold iDiv;simp only[];rw[if_neg (by omega)]
  have h2:iMod a b=if(wrap64 (wrap32 (a:Int))).tmod (wrap64 (wrap32 (b:Int)))<0 then wrap64 ((wrap64 (wrap32 (a:Int))).tmod (wrap64 (wrap32 (b:Int)))+wrap64 (wrap32 (b:Int))) % 4294967296 else(wrap64 (wrap32 (a:Int))).tmod (wrap64 (wrap32 (b:Int))) % 4294967296:=by
   unfold iMod;simp only[];rw[if_neg (by omega)]
  generalize hrd:iDiv a b=rd at h1
  generalize hrm:iMod a b=rm at h2
  generalize wrap64 (wrap32 (b:Int))=y at*
  generalize wrap64 (wrap32 (a:Int))=x at*
  have hne:y≠0:=by omega
  have hk:KeepW w w.drew:=⟨by simp,fun _ _=>rfl,rfl,rfl,rfl⟩
  go_region
  all_goals (try go_wp2)
  ·have hr:x.tmod y<0:=by assumption
   go_ret3
   rw[if_pos hr]at h1 h2
   exact⟨⟨_,_,_,rfl,(hrd.trans h1).symm,(hrm.trans h2).symm,by rw[if_pos hpos]⟩,hk⟩
  ·have hr: ¬x.tmod y<0:=by omega
   go_ret3
   rw[if_neg hr]at h1 h2
   exact⟨⟨_,_,_,rfl,(hrd.trans h1).symm,(hrm.trans h2).symm,by rw[if_pos hpos]⟩,hk⟩
set_option maxHeartbeats 2000000 in
set_option maxRecDepth 1000000 in
theorem Tryz.sum (nm:ByteArray) (a b:Nat) (w:World):Calls Tryz.prog 87 #[.string nm,U a,U b] w fun e w'=>e= .returned (.int .u32 (iSum nm.toList a b))∧w'=w:=by
 go_enter Tryz.func87,Tryz.ntmps87
 go_wp2
 all_goals (go_ret;refine⟨?_,rfl⟩;simp_all[iSum])
set_option maxHeartbeats 2000000 in
set_option maxRecDepth 1000000 in
theorem Tryz.sets (nm:ByteArray) (a b:Nat) (w:World):Calls Tryz.prog 284 #[.string nm,U a,U b] w fun e w'=>e= .returned (.int .u32 (iSum nm.toList a b))∧w'=w:=by
 go_enter Tryz.func284,Tryz.ntmps284
 go_wp2
 all_goals (go_ret;refine⟨?_,rfl⟩;simp_all[iSum])
set_option maxHeartbeats 2000000 in
set_option maxRecDepth 1000000 in
theorem Tryz.reckon (nm:ByteArray) (a b:Nat) (w:World):Calls Tryz.prog 88 #[.string nm,U a,U b] w fun e w'=>e= .returned (.int .u32 (iReck nm.toList a b))∧w'=w:=by
 go_enter Tryz.func88,Tryz.ntmps88
 go_wp2_with (first
  |(go_at_call 171;refine(Tryz.add _ _ _).mono ?_;rintro e w1 ⟨⟨X,Y,Z,rfl,rfl⟩,rfl⟩)
  |(go_at_call 30;refine(Tryz.sub _ _ _).mono ?_;rintro e w1 ⟨⟨X,Y,Z,rfl,rfl⟩,rfl⟩)
  |(go_at_call 172;refine(Tryz.mul _ _ _).mono ?_;rintro e w1 ⟨⟨X,Y,rfl,rfl⟩,rfl⟩))
 all_goals (go_ret;refine⟨?_,rfl⟩;simp_all[iReck])
set_option maxHeartbeats 2000000 in
set_option maxRecDepth 1000000 in
theorem Tryz.trap (n:Nat) (w:World):Calls Tryz.prog 210 #[.bool true,U n] w fun e w'=>(∃v,e= .returned v)∧w'=w:=by
 go_enter Tryz.func210,Tryz.ntmps210
 go_wp2
 go_end0
 exact⟨⟨_,rfl⟩,rfl⟩
set_option maxHeartbeats 2000000 in
set_option maxRecDepth 1000000 in
theorem Tryz.wholes (nm:ByteArray) (a b:Nat) (w:World) (h:(nm.toList=[43]∨nm.toList=[45]∨nm.toList=[42])∨((nm.toList=[68,73,86]∨nm.toList=[77,79,68])∧0<wrap32 (b:Int))):Calls Tryz.prog 285 #[.string nm,U a,U b] w fun e w'=>e= .returned (.int .u32 (iWhole nm.toList a b))∧KeepW w w':=by
 go_enter Tryz.func285,Tryz.ntmps285
 go_wp2_with (first
  |(go_at_call 171;refine(Tryz.add _ _ _).mono ?_;rintro e w1 ⟨⟨X,Y,Z,rfl,rfl⟩,rfl⟩)
  |(go_at_call 30;refine(Tryz.sub _ _ _).mono ?_;rintro e w1 ⟨⟨X,Y,Z,rfl,rfl⟩,rfl⟩)
  |(go_at_call 172;refine(Tryz.mul _ _ _).mono ?_;rintro e w1 ⟨⟨X,Y,rfl,rfl⟩,rfl⟩))
 ·go_ret;refine⟨?_,KeepW.refl _⟩;simp_all[iReck,iWhole]
 ·go_ret;refine⟨?_,KeepW.refl _⟩;simp_all[iReck,iWhole]
 ·go_ret;refine⟨?_,KeepW.refl _⟩;simp_all[iReck,iWhole]
 ·have h1:(nm.toList==[43])=false:=by assumption
  have h2:(nm.toList==[45])=false:=by assumption
  have h3:(nm.toList==[42])=false:=by assumption
  obtain⟨hn,hb⟩:(nm.toList=[68,73,86]∨nm.toList=[77,79,68])∧0<wrap32 (b:Int):=by
   rcases h with h|h
   ·rcases h with h|h|h
    ·rw[h]at h1;simp at h1
    ·rw[h]at h2;simp at h2
    ·rw[h]at h3;simp at h3
   ·exact h
  refine(Tryz.div a b w).mono ?_
  rintro e w1 ⟨⟨X,Y,Z,rfl,hX,hY,hZ0⟩,hk⟩
  have hZ:Z=0:=by rw[hZ0,if_pos hb]
  clear hZ0
  subst hZ
  go_wp2_with (first
   |(go_at_call 210;refine(Tryz.trap _ _).mono ?_;rintro e w1 ⟨⟨v,rfl⟩,rfl⟩))
  ·have hm:(nm.toList==[77,79,68])=true:=by assumption
   go_ret
   refine⟨?_,hk⟩
   simp_all[iWhole]
  ·have hm:(nm.toList==[77,79,68])=false:=by assumption
   go_ret
   refine⟨?_,hk⟩
   simp_all[iWhole]
end Go.Proofs
namespace Go.Proofs
open Go.RowKit
open Go.AM (KeepW Tr Fns ArithOk RealPure)
theorem bits_range (op:BinOp) (x y:Int):0≤bits op .u32 x y∧bits op .u32 x y<4294967296:=by
 have e2: ∀n:Int,IntKind.u32.wrap n=n % 4294967296:=fun n=>rfl
 unfold bits
 split<;>(try simp only[e2])<;>omega
def theF:Fns where
 left a b:=(iLeft a b).toNat
 right a b:=(iRight a b).toNat
 div a b:=(iDiv a b).toNat
 md a b:=(iMod a b).toNat
 neg a:=(iSub 0 a).toNat
 less:=fLess
 sum l a b:=(iSum l a b).toNat
 reck l a b:=(iReck l a b).toNat
theorem u_of {X:Int} (h:0≤X):Value.int .u32 X=Go.AM.u32 X.toNat:=by
 show _=Value.int .u32 (X.toNat:Int)
 rw[Int.toNat_of_nonneg h]
theorem range_mod (X:Int):0≤X % 4294967296∧X % 4294967296<4294967296:=by omega
theorem div_range (a b:Nat):(0≤iDiv a b∧iDiv a b<4294967296)∧(0≤iMod a b∧iMod a b<4294967296):=by
 constructor
 ·unfold iDiv;simp only[];split
  ·omega
  ·split<;>exact range_mod _
 ·unfold iMod;simp only[];split
  ·omega
  ·split<;>exact range_mod _
theorem sum_range (l:List UInt8) (a b:Nat):0≤iSum l a b∧iSum l a b<4294967296:=by
 unfold iSum
 repeat' split
 all_goals exact bits_range _ _ _
theorem reck_range (l:List UInt8) (a b:Nat):0≤iReck l a b∧iReck l a b<4294967296:=by
 unfold iReck
 split
 ·exact range_mod _
 ·split<;>exact range_mod _
theorem left_range (a b:Nat):0≤iLeft a b∧iLeft a b<4294967296:=range_mod _
theorem right_range (a b:Nat):0≤iRight a b∧iRight a b<4294967296:=range_mod _
theorem sub_range (a b:Nat):0≤iSub a b∧iSub a b<4294967296:=range_mod _
theorem toNat_lt {X:Int} (h:0≤X∧X<4294967296):X.toNat<4294967296:=by omega
theorem PureW.real {W:World} {f:FuncId} {args:List Value} {v:Value} (h: ∀w,Calls Tryz.prog f args.toArray w fun e w'=>e= .returned v∧w'=w):RealPure Tryz.prog W f args v:=by
 intro w hw
 refine(h w).mono ?_
 rintro e w' ⟨h1,rfl⟩
 exact⟨h1,KeepW.refl _⟩
theorem arith (W:World):ArithOk Tryz.prog W theF where
 lt a b ha hb:=⟨toNat_lt (left_range a b),toNat_lt (right_range a b),toNat_lt (div_range a b).1,toNat_lt (div_range a b).2,toNat_lt (sub_range 0 a),fun w=>toNat_lt (sum_range w a b),fun w=>toNat_lt (reck_range w a b)⟩
 less a b ha hb:=PureW.real (Tryz.less a b)
 left a b ha hb:=by rw[show Go.AM.u32 (theF.left a b)= .int .u32 (iLeft a b)from(u_of (left_range a b).1).symm];exact PureW.real (Tryz.left a b)
 right a b ha hb:=by rw[show Go.AM.u32 (theF.right a b)= .int .u32 (iRight a b)from(u_of (right_range a b).1).symm];exact PureW.real (Tryz.right a b)
 neg a ha:=by
  obtain⟨y,z,h⟩:=Tryz.sub_ex 0 a
  refine⟨y,z,?_⟩
  rw[show Go.AM.u32 (theF.neg a)= .int .u32 (iSub 0 a)from(u_of (sub_range 0 a).1).symm]
  exact PureW.real h
 div a b ha hb:=by
  refine⟨.int .i64 (if 0<wrap32 (b:Int)then 0 else 2),?_⟩
  rw[show Go.AM.u32 (theF.div a b)= .int .u32 (iDiv a b)from(u_of (div_range a b).1.1).symm,show Go.AM.u32 (theF.md a b)= .int .u32 (iMod a b)from(u_of (div_range a b).2.1).symm]
  intro w hw
  refine(Tryz.div a b w).mono ?_
  rintro e w' ⟨⟨X,Y,Z,h,rfl,rfl,rfl⟩,hk⟩
  exact⟨h,hk⟩
 sum w a b ha hb:=by
  rw[show Go.AM.u32 (theF.sum w a b)= .int .u32 (iSum w a b)from(u_of (sum_range _ _ _).1).symm]
  refine PureW.real fun w'=>?_
  have:=Tryz.sum ⟨w.toArray⟩ a b w'
  rw[show(ByteArray.mk w.toArray).toList=w by simp]at this
  exact this
 reck w a b ha hb:=by
  rw[show Go.AM.u32 (theF.reck w a b)= .int .u32 (iReck w a b)from(u_of (reck_range _ _ _).1).symm]
  refine PureW.real fun w'=>?_
  have:=Tryz.reckon ⟨w.toArray⟩ a b w'
  rw[show(ByteArray.mk w.toArray).toList=w by simp]at this
  exact this
end Go.Proofs
namespace Go.Proofs
open Go.RowKit
open Go.AM (KeepW Tr RealPure)
def okN (y:Nat):Bool:=fLetter y||decide (48≤y∧y≤57)
def fName (g:ByteArray→Bool) (s:ByteArray):Bool:=decide (1≤s.size∧s.size≤15)&&(fLetter (byteN s 0)&&(decide (∀k,k<s.size→okN (byteN s k)=true)&&!g s))
section
variable {g:ByteArray→Bool} {s:ByteArray}
theorem fName_size (h: ¬(1≤s.size∧s.size≤15)):fName g s=false:=by simp only[fName,decide_eq_false h,Bool.false_and]
theorem fName_first (h:fLetter (byteN s 0)=false):fName g s=false:=by simp only[fName,h,Bool.false_and,Bool.and_false]
theorem fName_no {k:Nat} (hk:k<s.size) (h:okN (byteN s k)=false):fName g s=false:=by
 have: ¬ ∀k,k<s.size→okN (byteN s k)=true:=fun hh=>by rw[hh k hk]at h;cases h
 simp only[fName,decide_eq_false this,Bool.false_and,Bool.and_false]
theorem fName_yes (h0:1≤s.size∧s.size≤15) (h1:fLetter (byteN s 0)=true) (h: ∀k,k<s.size→okN (byteN s k)=true):fName g s=!g s:=by
 simp only[fName,decide_eq_true h0,h1,decide_eq_true h,Bool.true_and]
theorem okN_step {k:Nat} (hall: ∀j,j<k→okN (byteN s j)=true) (h:okN (byteN s k)=true): ∀j,j<k+1→okN (byteN s j)=true:=by
 intro j hj
 rcases Nat.lt_or_ge j k with h'|h'
 ·exact hall j h'
 ·have:j=k:=by omega
  subst this;exact h
theorem okN_not {k y:Nat} (hy:byteN s k=y) (h1: ¬fLetter y=true) (h2: ¬(48≤y∧y≤57)):okN (byteN s k)=false:=by
 rw[hy];simp only[okN];rw[decide_eq_false h2,Bool.or_false]
 cases h:fLetter y with
 |true=>exact absurd h h1
 |false=>rfl
end
set_option maxHeartbeats 2000000 in
set_option maxRecDepth 1000000 in
theorem Tryz.mayName {W:World} {g:ByteArray→Bool} (hC: ∀s:ByteArray,s.size<4294967281→ ∀w,KeepW W w→Calls Tryz.prog 292 #[.string s] w fun e w'=>RetV (g s) e∧w'=w) (s:ByteArray) (w:World) (hw:KeepW W w) (hsz:s.size≤9223372036854775807):Calls Tryz.prog 236 #[.string s] w fun e w'=>RetV (fName g s) e∧KeepW w w':=by
 have hb0:(h:0<s.size)→s[0].toNat=byteN s 0:=fun h=>by
  have h':0<s.data.size:=h
  simp only[byteN,ByteArray.getElem_eq_getElem_data,Array.getElem?_toList]
  rw[Array.getElem?_eq_getElem h']
  rfl
 go_enter Tryz.func236,Tryz.ntmps236
 go_wp2_with (first
  |(go_at_call 291;refine(Tryz.letter _ _).mono ?_;rintro e w1 ⟨rfl,rfl⟩))
 ·rename_i hh
  have h1:1≤s.size:=by omega
  have h2:s.size≤15:=by omega
  have hf:fLetter (byteN s 0)=false:=by
   rcases hh with(hh|hh)|hh
   ·omega
   ·omega
   ·simpa using hh
  go_ret;rw[fName_first hf];exact⟨rfl,KeepW.refl _⟩
 ·have hh:(1≤(s.size:Int)∧(s.size:Int)≤15)∧(!fLetter (byteN s 0))=false:=by assumption
  have hf:fLetter (byteN s 0)=true:=by
   obtain⟨_,h2⟩:=hh
   cases hq:fLetter (byteN s 0)with
   |true=>rfl
   |false=>rw[hq]at h2;cases h2
  have h12:1≤s.size∧s.size≤15:=by obtain⟨⟨a,b⟩,_⟩:=hh;omega
  have hsmall:s.size<4294967281:=by omega
  rw[Lib.run_convert_string_bytes w1 9 77 5 s Tryz.underlying9 Tryz.underlying77 Tryz.underlying5]
  simp only[Result.andThen]
  rw[Oper.upon_value]
  have hcl:=bytes_cell w1 5 s
  have hkb:=keep_bytes w1 5 s
  have hWb:=hw.trans hkb
  generalize hwb:Lib.bytesWorld w1 5 s=wb at*
  generalize w1.heap.size=b at*
  generalize grownCap w1 s.size 0 5=c at*
  clear hb0
  go_wp2
  go_loop [22] (fun i=> ∃k:Nat,k≤s.size∧i= .int .i64 k∧ ∀j,j<k→okN (byteN s j)=true) (fun i=>s.size - (intOf i).toNat)
  case atStart=>exact⟨0,Nat.zero_le _,rfl,fun j hj=>absurd hj (Nat.not_lt_zero _)⟩
  case round=>
   obtain⟨k,hk,rfl,hall⟩:=hrel
   have hcell:k<s.size→wb.cell? ⟨b,k,none⟩=some (.int .u8 ((s.data.toList[k]?.getD 0).toNat:Nat)):=fun h=>hcl k h
   have hy:byteN s k=(s.data.toList[k]?.getD 0).toNat:=rfl
   clear hcl
   generalize(s.data.toList[k]?.getD 0).toNat=y at*
   go_wp2_with (first
    |(go_at_call 291;refine(Tryz.letter _ _).mono ?_;rintro e w1 ⟨rfl,rfl⟩)
    |(go_at_call 292;refine(hC s hsmall _ hWb).mono ?_;rintro e w1 ⟨rfl,rfl⟩))
   ·have hl:fLetter y=true:=by assumption
    go_round
    case rel=>exact⟨k+1,by omega,by go_num,okN_step hall (by rw[hy];simp only[okN,hl,Bool.true_or])⟩
    case measure=>simp[intOf];omega
   ·have hlt:k<s.size:=by assumption
    have hl: ¬fLetter y=true:=by assumption
    have hq:(y:Int)<48∨57<(y:Int):=by assumption
    go_ret
    rw[fName_no hlt (okN_not hy hl (by omega))]
    exact⟨rfl,hkb⟩
   ·have hq:48≤(y:Int)∧(y:Int)≤57:=by assumption
    go_round
    case rel=>exact⟨k+1,by omega,by go_num,okN_step hall (by rw[hy];simp only[okN];rw[decide_eq_true (by omega),Bool.or_true])⟩
    case measure=>simp[intOf];omega
   ·have hlt:k<s.size:=by assumption
    have hl: ¬fLetter y=true:=by assumption
    have hq:(y:Int)<48:=by assumption
    go_ret
    rw[fName_no hlt (okN_not hy hl (by omega))]
    exact⟨rfl,hkb⟩
   ·have hge: ¬k<s.size:=by assumption
    go_ret
    rw[fName_yes h12 hf (fun j hj=>hall j (by omega))]
    exact⟨rfl,hkb⟩
 ·go_ret;rw[fName_size (by omega)];exact⟨rfl,KeepW.refl _⟩
 ·go_ret;rw[fName_size (by omega)];exact⟨rfl,KeepW.refl _⟩
end Go.Proofs
namespace Go.Proofs
open Go.RowKit
open Go.AM (KeepW Tr RealPure SlOk Wf fP May valF yesF fnMay)
theorem bool_a (f:Nat) (hf:Nat.beq f 21=false) (b:Bool): ∃a,a<2∧valF f a= .bool b∧yesF f a=b:=by
 cases b
 ·exact⟨0,by omega,by simp only[valF,hf];rfl,by simp only[yesF,hf];rfl⟩
 ·exact⟨1,by omega,by simp only[valF,hf];rfl,by simp only[yesF,hf];rfl⟩
theorem tree_name {W:World} {g:ByteArray→Bool} (hC: ∀s:ByteArray,s.size<4294967281→ ∀w,KeepW W w→Calls Tryz.prog 292 #[.string s] w fun e w'=>RetV (g s) e∧w'=w):
 ∀l:List UInt8,l.length≤9223372036854775807→ ∃a,a<2∧RealPure Tryz.prog W 236 [.string ⟨l.toArray⟩] (valF 236 a):=by
 intro l hl
 obtain⟨a,h1,h2,_⟩:=bool_a 236 rfl (fName g ⟨l.toArray⟩)
 refine⟨a,h1,?_⟩
 rw[h2]
 intro w hw
 exact(Tryz.mayName hC ⟨l.toArray⟩ w hw (by simpa[ByteArray.size]using hl)).mono fun e w' h=>h
theorem tree_text {W:World} : ∀l:List UInt8,l.length≤9223372036854775807→ ∃a,a<2∧RealPure Tryz.prog W 156 [.string ⟨l.toArray⟩] (valF 156 a):=by
 intro l hl
 obtain⟨a,h1,h2,_⟩:=bool_a 156 rfl (fText ⟨l.toArray⟩)
 refine⟨a,h1,?_⟩
 rw[h2]
 intro w hw
 refine(Tryz.mayText ⟨l.toArray⟩ w (by simpa[ByteArray.size]using hl)).mono fun e w' h=>⟨h.1,?_⟩
 rw[h.2];exact keep_bytes _ _ _
theorem valF_bool {f a:Nat} (hf:Nat.beq f 21=false):valF f a= .bool (yesF f a):=by simp only[valF,yesF,hf];rfl
theorem tree_all {W:World} : ∀sl l,SlOk W sl l→(∀k∈l,Wf W k)→(∀k∈l,∃a,a<2∧fP Tryz.prog W 12 k a)→ ∃a,a<2∧RealPure Tryz.prog W 155 [sl,fnMay] (valF 155 a)∧(yesF 155 a=true→ ∀k∈l,May k):=by
 intro sl l hs hwf hA
 have hch: ∃A:Nat→Bool,∀(k:Nat) (N:Tr),l[k]? =some N→RealPure Tryz.prog W 12 [N.val] (.bool (A k))∧(A k=true→May N):=by
  have h: ∀k:Nat,∃b:Bool,∀N:Tr,l[k]? =some N→RealPure Tryz.prog W 12 [N.val] (.bool b)∧(b=true→May N):=by
   intro k
   cases hk:l[k]? with
   |none=>exact⟨false,fun N h=>by cases h⟩
   |some N=>
    obtain⟨a,_,h1,h2⟩:=hA N (List.mem_of_getElem? hk)
    rw[valF_bool rfl]at h1
    exact⟨_,fun N' h=>by cases h;exact⟨h1,h2⟩⟩
  exact⟨fun k=>Classical.choose (h k),fun k=>Classical.choose_spec (h k)⟩
 obtain⟨A,hA'⟩:=hch
 obtain⟨a,h1,h2,h3⟩:=bool_a 155 rfl (decide (∀k,k<l.length→A k=true))
 refine⟨a,h1,?_,?_⟩
 ·rw[h2]
  cases hs with
  |nil=>
   intro w hw
   refine(Tryz.all0 none 0 w).mono ?_
   rintro e w' ⟨rfl,rfl⟩
   exact⟨by simp,KeepW.refl _⟩
  |empty a c hc=>
   intro w hw
   refine(Tryz.all0 (some a) c w).mono ?_
   rintro e w' ⟨rfl,rfl⟩
   exact⟨by simp,KeepW.refl _⟩
  | @some b off c cells ty fr l hne g1 g2 g3 g4 g5=>
   intro w hw
   have hbb:b<W.heap.size:=by
    rcases Nat.lt_or_ge b W.heap.size with x|x
    ·exact x
    ·rw[Array.getElem?_eq_none x]at g1;cases g1
   refine Tryz.all W b off c l A hbb g2 g3 ?_ ?_ (fun k N h w hw=>(hA' k N h).1 w hw) w hw
   ·intro k N hk j x hx
    have:=g5 k N hk j x hx
    simp only[World.cell?,g1]
    rw[show off+k*5+j=off+5*k+j by omega]
    exact this
   ·intro k N h
    obtain⟨a,c,e,_⟩:=(hwf N (List.mem_of_getElem? h)).slOk.shape
    exact⟨a,_,c,e⟩
 ·intro hy k hk
  rw[h3]at hy
  have hy:=of_decide_eq_true hy
  obtain⟨i,hi⟩:=List.mem_iff_getElem?.1 hk
  have hlt:i<l.length:=(List.getElem?_eq_some_iff.1 hi).1
  exact(hA' i k hi).2 (hy i hlt)
end Go.Proofs
namespace Go.Proofs
open Go.RowKit
open Go.AM (KeepW Tr)
structure NearW (B:Nat) (w w':World):Prop where
 le:B≤w'.heap.size
 same: ∀b,b<B→w'.heap[b]? =w.heap[b]?
 out:w'.output=w.output
 os:w'.os=w.os
 tape:w'.tape=w.tape
theorem KeepW.near {B:Nat} {w w':World} (hB:B≤w.heap.size) (h:KeepW w w'):NearW B w w':=
 ⟨Nat.le_trans hB h.size,fun b hb=>h.same b (Nat.lt_of_lt_of_le hb hB),h.out,h.os,h.tape⟩
def chnE:List PanicEntry:=[{ v:= .iface 111 (.int .i64 7),recovered:=false,goexit:=false }]
def itemV (tb to:Nat) (kn:Bool) (v:Nat) (tx:ByteArray):Value:= .agg #[.pointer (some ⟨tb,to,none⟩),.bool kn,.int .u32 (v:Nat),.bool false,.bool false,.string tx,.pointer none]
set_option maxHeartbeats 2000000 in
set_option maxRecDepth 1000000 in
theorem Tryz.must_no (w:World):Calls Tryz.prog 17 #[.bool false] w fun e w'=>e= .panicked chnE∧w'=w:=by
 go_enter Tryz.func17,Tryz.ntmps17
 go_wp2
 exact⟨rfl,rfl,rfl⟩
set_option maxHeartbeats 2000000 in
set_option maxRecDepth 1000000 in
theorem Tryz.must_yes (w:World):Calls Tryz.prog 17 #[.bool true] w fun e w'=>(∃v,e= .returned v)∧w'=w:=by
 go_enter Tryz.func17,Tryz.ntmps17
 go_wp2
 go_end0
 exact⟨⟨_,rfl⟩,rfl⟩
end Go.Proofs
namespace Go.Proofs
open Go.RowKit
open Go.AM (KeepW Tr)
theorem step_in {P:Program} {ops:Array Oper} {Q:Exit→Act→World→Prop} {l:List Oper} {K:Act→World→Prop} {a:Act} {w:World} (h: ∀(a:Act) (w:World),wpList P ops Q l a w→K a w) (g:wpList P ops Q l a w):K a w:=h a w g
theorem results_cell {fn:Func} {p:Tmp} {ty:TypeId} (h:fn.results= #[.cell p ty]) (tmps:Array Value) (P:Program) (w:World):
 (results fn tmps).run P w=((asAddr (tmps.getD p undef)).run P w).andThen fun a w₁=>(loadVar ty a).run P w₁:=by
 simp only[results,h]
 simp[Sem.run_bind,Result.andThen]
theorem ret_cell {P:Program} {fn:Func} {R:Ending→World→Prop} {p:Tmp} {ty:TypeId} {d:TypeDesc} {a:Act} {w:World} {B:Nat} {cs:List Value} (h:fn.results= #[.cell p ty]) (hde:a.defers=[]) (ha:a.tmps.getD p undef= .pointer (some ⟨B,0,none⟩)) (hr:w.rangeAt B 0 cs)
 (hu:P.underlying ty=some d) (hd:d.isRow=true) (hi:(P.info? ty).map (·.size)=some cs.length) (hR:R (.returned (.agg cs.toArray)) w):bodyPost P fn R .ret a w:=by
 refine⟨hde,.agg cs.toArray,?_,hR⟩
 rw[results_cell h,ha]
 simp only[asAddr,Sem.run_pure,Result.andThen_ok]
 exact run_loadVar_mid w B 0 ty cs d hr hu hd hi
theorem near_setCells {B:Nat} {w:World} (hB:B<w.heap.size): ∀(vs:List Value) (o:Nat),NearW B w (w.setCells B o vs):=by
 intro vs
 induction vs generalizing w with
 |nil=>intro o;exact⟨Nat.le_of_lt hB,fun _ _=>rfl,rfl,rfl,rfl⟩
 |cons v vs ih=>
  intro o
  have h1:NearW B w (w.setCell ⟨B,o,none⟩ v):=by
   refine⟨by simp[World.setCell];omega,fun b hb=>?_,rfl,rfl,rfl⟩
   simp only[World.setCell]
   simp[Array.getElem?_modify,Nat.ne_of_gt hb]
  have hB':B<(w.setCell ⟨B,o,none⟩ v).heap.size:=by simp[World.setCell];exact hB
  have h2:=ih hB' (o+1)
  exact⟨h2.le,fun b hb=>by rw[World.setCells,h2.same b hb,h1.same b hb],h2.out.trans h1.out,h2.os.trans h1.os,h2.tape.trans h1.tape⟩
structure Kid where
 ok:Bool
 wh:Bool
 kn:Bool
 v:Nat
 tb:Nat
 to:Nat
 tx:ByteArray
def Kid.good (x:Kid):Bool:=x.ok&&x.wh
def Kid.item (x:Kid):Value:=itemV x.tb x.to x.kn x.v x.tx
def allKn (X:Nat→Kid):Nat→Bool
 |0=>true
 |k+1=>allKn X k&&(X k).kn
def foldV (X:Nat→Kid):Nat→Int
 |0=>0
 |k+1=>bits .or .u32 (foldV X k) (iLeft 1 (X k).v)
def SetP (X:Nat→Kid) (n sb so:Nat) (e:Ending):Prop:=
 if ∀k,k<n→(X k).good=true then e= .returned (.agg #[.pointer (some ⟨sb,so,none⟩),.bool (allKn X n),.int .u32 (if allKn X n then foldV X n else 0),.bool false,.bool false,.string ⟨#[]⟩,.pointer none])else e= .panicked chnE
theorem SetP.bad {X:Nat→Kid} {n sb so k:Nat} (hk:k<n) (h:(X k).good=false):SetP X n sb so (.panicked chnE):=by
 unfold SetP
 rw[if_neg (fun hh=>by rw[hh k hk]at h;cases h)]
set_option maxHeartbeats 4000000 in
set_option maxRecDepth 1000000 in
theorem Tryz.set (I:World→Prop) (w:World) (cb co sb so b off c:Nat) (l:List Tr) (X:Nat→Kid) (hI0:I w) (hI: ∀w1 w2,I w1→NearW w.heap.size w1 w2→I w2) (hIs: ∀w1,I w1→w.heap.size≤w1.heap.size)
 (hlen:l.length≤c) (hc:c<9223372036854775808)
 (hcells: ∀w1,I w1→ ∀(k:Nat) (N:Tr),l[k]? =some N→w1.rangeAt b (off+k*5) N.cells)
 (hsl: ∀(k:Nat) (N:Tr),l[k]? =some N→ ∃(a:Option Addr) (n c:Nat),N.sl=Value.slice a n c)
 (hkid: ∀(k:Nat) (N:Tr),l[k]? =some N→ ∀w1,I w1→Calls Tryz.prog 16 #[.pointer (some ⟨cb,co,none⟩),N.val] w1 fun e w'=>(e=if(X k).ok then .returned (X k).item else .panicked chnE)∧I w'∧w1.heap.size≤w'.heap.size∧ ∀b,w.heap.size≤b→b<w1.heap.size→w'.heap[b]? =w1.heap[b]?)
 (hform: ∀k,k<l.length→(X k).ok=true→ ∀w1,I w1→Calls Tryz.prog 29 #[(X k).item] w1 fun e w'=>e= .returned (.bool (X k).wh)∧KeepW w1 w')
 (htell: ∀(kn:Bool) (v:Int) w1,I w1→Calls Tryz.prog 25 #[.pointer (some ⟨cb,co,none⟩),.int .i64 5,.bool kn,.int .u32 v] w1 fun e w'=>e= .returned (.agg #[.pointer (some ⟨sb,so,none⟩),.bool kn,.int .u32 (if kn then v else 0),.bool false,.bool false,.string ⟨#[]⟩,.pointer none])∧KeepW w1 w'):
 Calls Tryz.prog 26 #[.pointer (some ⟨cb,co,none⟩),.slice (some ⟨b,off,none⟩) l.length c] w fun e w'=>SetP X l.length sb so e∧I w':=by
 go_enter Tryz.func26,Tryz.ntmps26
 go_wp2
 have hB4:(w.alloc (Obj.cells #[Value.pointer none,Value.bool false,Value.int IntKind.u32 0,Value.bool false,Value.bool false,Value.string { data:= #[] },Value.pointer none] 56)).heap[w.heap.size]? =some (Obj.cells #[Value.pointer none,Value.bool false,Value.int IntKind.u32 0,Value.bool false,Value.bool false,Value.string { data:= #[] },Value.pointer none] 56):=by
  simp[World.alloc,-World.alloc_eq]
 have hIA:=hI _ _ hI0 (KeepW.near (Nat.le_refl _) (keep_alloc w (Obj.cells #[Value.pointer none,Value.bool false,Value.int IntKind.u32 0,Value.bool false,Value.bool false,Value.string { data:= #[] },Value.pointer none] 56)))
 generalize hwA:w.alloc (Obj.cells #[Value.pointer none,Value.bool false,Value.int IntKind.u32 0,Value.bool false,Value.bool false,Value.string { data:= #[] },Value.pointer none] 56)=wA at*
 have hBs:w.heap.size<wA.heap.size:=by rw[←hwA];simp[World.alloc,-World.alloc_eq]
 clear hwA hI0
 generalize hBB:w.heap.size=B at*
 clear hBB
 go_loopw [5,6,12] (fun kn vl i wr=> ∃k:Nat,k≤l.length∧i= .int .i64 k∧kn= .bool (allKn X k)∧vl= .int .u32 (foldV X k)∧I wr∧B<wr.heap.size∧wr.heap[B]? =some (Obj.cells #[Value.pointer none,Value.bool false,Value.int IntKind.u32 0,Value.bool false,Value.bool false,Value.string { data:= #[] },Value.pointer none] 56)∧ ∀j,j<k→(X j).good=true) (fun _ _ i _=>l.length - (intOf i).toNat)
 case atStart=>exact⟨0,Nat.zero_le _,rfl,rfl,rfl,hIA,hBs,hB4,fun j hj=>absurd hj (Nat.not_lt_zero _)⟩
 case round=>
  obtain⟨k,hk,rfl,rfl,rfl,hIr,hBr,hBc,hall⟩:=hrel
  clear hIA hBs hB4
  obtain⟨N,hN,a',n',c',hsl'⟩: ∃N:Tr,(k<l.length→l[k]? =some N)∧ ∃(a:Option Addr) (n c:Nat),N.sl=Value.slice a n c:=by
   by_cases h:k<l.length
   ·exact⟨_,fun _=>List.getElem?_eq_getElem h,hsl k _ (List.getElem?_eq_getElem h)⟩
   ·exact⟨.mk 0 [] 0 false (.slice none 0 0) [],fun h'=>absurd h' h,_,_,_,rfl⟩
  have hr:k<l.length→wr.rangeAt b (off+k*5) N.cells:=fun h=>hcells wr hIr k N (hN h)
  have c0:k<l.length→wr.cell? ⟨b,off+k*5,none⟩=some (.int .i64 N.kind):=fun h=>hr h 0 _ rfl
  have c1:k<l.length→wr.cell? ⟨b,off+k*5+1,none⟩=some (.string ⟨N.name.toArray⟩):=fun h=>hr h 1 _ rfl
  have c2:k<l.length→wr.cell? ⟨b,off+k*5+2,none⟩=some (.int .u32 (N.value:Nat)):=fun h=>hr h 2 _ rfl
  have c3:k<l.length→wr.cell? ⟨b,off+k*5+3,none⟩=some (.bool N.mark):=fun h=>hr h 3 _ rfl
  have c4:k<l.length→wr.cell? ⟨b,off+k*5+4,none⟩=some (.slice a' n' c'):=fun h=>by rw[←hsl'];exact hr h 4 _ rfl
  clear hr hcells hsl
  have hval:k<l.length→N.val= .agg #[.int .i64 N.kind,.string ⟨N.name.toArray⟩,.int .u32 (N.value:Nat),.bool N.mark,.slice a' n' c']:=fun _=>by simp only[Tr.val,Tr.cells,hsl']
  go_wp2_with fail
  ·have hlt:k<l.length:=by assumption
   have hIa:=hI _ _ hIr (KeepW.near (Nat.le_of_lt hBr) (keep_alloc wr (Obj.cells #[Value.int IntKind.i64 N.kind,Value.string { data:=N.name.toArray },Value.int IntKind.u32 ↑N.value,Value.bool N.mark,Value.slice a' n' c'] 26)))
   have hm:=hkid k N (hN hlt) _ hIa
   rw[hval hlt]at hm
   refine hm.mono ?_
   rintro e w1 ⟨he,hI1,hs1,hk1⟩
   have hB1:B<w1.heap.size:=Nat.lt_of_lt_of_le (by simp[World.alloc,-World.alloc_eq];omega) hs1
   have hc1:w1.heap[B]? =some (Obj.cells #[Value.pointer none,Value.bool false,Value.int IntKind.u32 0,Value.bool false,Value.bool false,Value.string { data:= #[] },Value.pointer none] 56):=by
    rw[hk1 B (Nat.le_refl _) (by simp[World.alloc,-World.alloc_eq];omega),(keep_alloc wr _).same B hBr,hBc]
   clear hkid hm c0 c1 c2 c3 c4 hval hIr hIa hBr hBc hs1 hk1
   have hgd:(X k).good=((X k).ok&&(X k).wh):=rfl
   cases hok:(X k).ok with
   |false=>
    rw[hok]at he hgd
    simp only[Bool.false_eq_true,if_false]at he
    subst he
    simp only[Exit.inBlock,Exit.then]
    exact⟨rfl,SetP.bad hlt (by rw[hgd];rfl),hI1⟩
   |true=>
    have hf:=hform k hlt hok
    rw[hok]at he hgd
    simp only[if_true]at he
    subst he
    simp only[Kid.item,itemV]at hf⊢
    clear hform
    go_wp2_with fail
    have hka:=keep_alloc w1 (Obj.cells #[Value.pointer (some { block:=(X k).tb,off:=(X k).to }),Value.bool (X k).kn,Value.int IntKind.u32 ↑(X k).v,Value.bool false,Value.bool false,Value.string (X k).tx,Value.pointer none] 56)
    have hI2:=hI _ _ hI1 (KeepW.near (Nat.le_of_lt hB1) hka)
    refine(hf _ hI2).mono ?_
    rintro e w2 ⟨rfl,hk2⟩
    have hs12:w1.heap.size<w2.heap.size:=Nat.lt_of_lt_of_le (by simp[World.alloc,-World.alloc_eq]) hk2.size
    have hx:w2.heap[w1.heap.size]? =some (Obj.cells #[Value.pointer (some { block:=(X k).tb,off:=(X k).to }),Value.bool (X k).kn,Value.int IntKind.u32 ↑(X k).v,Value.bool false,Value.bool false,Value.string (X k).tx,Value.pointer none] 56):=by
     rw[hk2.same w1.heap.size (by simp[World.alloc,-World.alloc_eq])]
     simp[World.alloc,-World.alloc_eq]
    have hc2:w2.heap[B]? =some (Obj.cells #[Value.pointer none,Value.bool false,Value.int IntKind.u32 0,Value.bool false,Value.bool false,Value.string { data:= #[] },Value.pointer none] 56):=by
     rw[(hka.trans hk2).same B hB1,hc1]
    have hI3:=hI _ _ hI1 (KeepW.near (Nat.le_of_lt hB1) (hka.trans hk2))
    have hx1:w2.cell? ⟨w1.heap.size,1,none⟩=some (.bool (X k).kn):=by simp only[World.cell?,hx];rfl
    have hx2:w2.cell? ⟨w1.heap.size,2,none⟩=some (.int .u32 ((X k).v:Nat)):=by simp only[World.cell?,hx];rfl
    have hB2:B<w2.heap.size:=by omega
    clear hf hka hI2 hk2 hx hc1 hI1
    generalize w1.heap.size=b9 at*
    cases hwh:(X k).wh with
    |false=>
     rw[hwh]at hgd
     go_wp2_with (first
      |(go_at_call 17;refine(Tryz.must_no _).mono ?_;rintro e w3 ⟨rfl,rfl⟩))
     try simp only[Exit.inBlock,Exit.then]
     exact⟨rfl,SetP.bad hlt (by rw[hgd];rfl),hI3⟩
    |true=>
     rw[hwh]at hgd
     generalize hxk:(X k).kn=xk at*
     generalize hxv:(X k).v=xv at*
     go_wp2_with (first
      |(go_at_call 17;refine(Tryz.must_yes _).mono ?_;rintro e w3 ⟨⟨v3,rfl⟩,rfl⟩)
      |(go_at_call 79;refine(Tryz.left 1 _ _).mono ?_;rintro e w3 ⟨rfl,rfl⟩))
     all_goals
      have hal: ∀j,j<k+1→(X j).good=true:=by
       intro j hj
       rcases Nat.lt_or_ge j k with h|h
       ·exact hall j h
       ·have:j=k:=by omega
        subst this;rw[hgd];rfl
     ·have hkn:allKn X k=true:=by assumption
      go_roundw
      case rel=>exact⟨k+1,by omega,by go_num,by simp only[allKn,hkn,hxk,Bool.true_and],by simp only[foldV,hxv],hI3,hB2,hc2,hal⟩
      case measure=>simp[intOf];omega
     ·have hkn:allKn X k=false:=by simp_all
      go_roundw
      case rel=>exact⟨k+1,by omega,by go_num,by simp only[allKn,hkn,Bool.false_and],by simp only[foldV,hxv],hI3,hB2,hc2,hal⟩
      case measure=>simp[intOf];omega
  ·have hge: ¬k<l.length:=by assumption
   have hkl:k=l.length:=by omega
   subst hkl
   clear c0 c1 c2 c3 c4 hval hkid hform
   refine(htell _ _ _ hIr).mono ?_
   rintro e w1 ⟨rfl,hk1⟩
   have hI1:=hI _ _ hIr (KeepW.near (Nat.le_of_lt hBr) hk1)
   have hc1:w1.heap[B]? =some (Obj.cells #[Value.pointer none,Value.bool false,Value.int IntKind.u32 0,Value.bool false,Value.bool false,Value.string { data:= #[] },Value.pointer none] 56):=by
    rw[hk1.same B hBr,hBc]
   have hB1:B<w1.heap.size:=Nat.lt_of_lt_of_le hBr hk1.size
   clear htell hk1 hBc hBr hIr
   dsimp only
   apply step_in (P:=Tryz.prog)
   ·assumption
   have hthere:w1.there B 0 7:=fun j hj=>by
    have h7:j=0∨j=1∨j=2∨j=3∨j=4∨j=5∨j=6:=by omega
    constructor
    ·simp only[World.cell?,hc1]
     rcases h7 with rfl|rfl|rfl|rfl|rfl|rfl|rfl<;>rfl
    ·simp only[World.frozen?,hc1]
     rcases h7 with rfl|rfl|rfl|rfl|rfl|rfl|rfl<;>rfl
   refine wpList_store_mid rfl 56 _ _ rfl B 0 _ rfl rfl hthere (by kernel_rfl) (by simp[Value.oneCell']) ?_
   have hrg:=World.rangeAt_setCells_same w1 B 0 [Value.pointer (some { block:=sb,off:=so }),Value.bool (allKn X l.length),Value.int IntKind.u32 (if allKn X l.length=true then foldV X l.length else 0),Value.bool false,Value.bool false,Value.string { data:= #[] },Value.pointer none] hthere
   have hI2:=hI _ _ hI1 (near_setCells hB1 [Value.pointer (some { block:=sb,off:=so }),Value.bool (allKn X l.length),Value.int IntKind.u32 (if allKn X l.length=true then foldV X l.length else 0),Value.bool false,Value.bool false,Value.string { data:= #[] },Value.pointer none] 0)
   have hP:SetP X l.length sb so (.returned (.agg [Value.pointer (some { block:=sb,off:=so }),Value.bool (allKn X l.length),Value.int IntKind.u32 (if allKn X l.length=true then foldV X l.length else 0),Value.bool false,Value.bool false,Value.string { data:= #[] },Value.pointer none].toArray)):=by
    unfold SetP
    rw[if_pos hall]
   generalize w1.setCells B 0 _=w2 at*
   generalize(if allKn X l.length=true then foldV X l.length else 0)=z at*
   generalize allKn X l.length=kb at*
   go_wp2_with fail
   all_goals exact ret_cell (p:=4) (ty:=56) rfl rfl rfl hrg Tryz.underlying56 rfl (by kernel_rfl) ⟨hP,hI2⟩
end Go.Proofs
namespace Go.Proofs
open Go.RowKit
open Go.AM (KeepW Tr)
set_option maxHeartbeats 2000000 in
set_option maxRecDepth 1000000 in
theorem Tryz.typWhole (tb to:Nat) (fm:Int) (w:World) (hc:w.cell? ⟨tb,to,none⟩=some (.int .i64 fm)):Calls Tryz.prog 82 #[.pointer (some ⟨tb,to,none⟩)] w fun e w'=>RetV (fm==1||fm==4) e∧w'=w:=by
 go_enter Tryz.func82,Tryz.ntmps82
 go_wp2
 ·have h1:fm=1:=by assumption
  subst h1
  go_ret
  exact⟨rfl,rfl⟩
 ·go_ret
  exact⟨rfl,rfl⟩
set_option maxHeartbeats 2000000 in
set_option maxRecDepth 1000000 in
theorem Tryz.itemWhole (tb to:Nat) (fm:Int) (kn:Bool) (v:Nat) (tx:ByteArray) (w:World) (hc:w.cell? ⟨tb,to,none⟩=some (.int .i64 fm)) (hb:tb<w.heap.size):Calls Tryz.prog 29 #[itemV tb to kn v tx] w fun e w'=>RetV (fm==1||fm==4) e∧KeepW w w':=by
 unfold itemV
 go_enter Tryz.func29,Tryz.ntmps29
 go_wp2_with fail
 have hka:=keep_alloc w (Obj.cells #[Value.pointer (some { block:=tb,off:=to }),Value.bool kn,Value.int IntKind.u32 ↑v,Value.bool false,Value.bool false,Value.string tx,Value.pointer none] 56)
 refine(Tryz.typWhole tb to fm _ (by rw[←hc];simp only[World.cell?,hka.same tb hb])).mono ?_
 rintro e w1 ⟨rfl,rfl⟩
 generalize hbb:(fm==1||fm==4)=bb
 go_wp2_with fail
 go_ret
 exact⟨by rw[hbb];rfl,hka⟩
theorem range_new (w:World) (cs:Array Value) (t:TypeId):(w.alloc (.cells cs t)).rangeAt w.heap.size 0 cs.toList:=by
 intro j v hj
 simp only[World.cell?,Nat.zero_add]
 simp only[World.alloc]
 simp only[Array.getElem?_push_size]
 simpa using hj
def TellP (sb so:Nat) (kn:Bool) (v:Int) (e:Ending):Prop:=e= .returned (.agg #[.pointer (some ⟨sb,so,none⟩),.bool kn,.int .u32 (if kn then v else 0),.bool false,.bool false,.string ⟨#[]⟩,.pointer none])
set_option maxHeartbeats 2000000 in
set_option maxRecDepth 1000000 in
theorem Tryz.tells (cb co sb so:Nat) (kn:Bool) (v:Int) (w:World) (hc:w.cell? ⟨cb,co+6,none⟩=some (.pointer (some ⟨sb,so,none⟩))) (hb:cb<w.heap.size):Calls Tryz.prog 25 #[.pointer (some ⟨cb,co,none⟩),.int .i64 5,.bool kn,.int .u32 v] w fun e w'=>TellP sb so kn v e∧KeepW w w':=by
 have hka:=fun o=>keep_alloc w o
 have hc2:(w.alloc (Obj.cells #[Value.pointer none,Value.bool false,Value.int IntKind.u32 0,Value.bool false,Value.bool false,Value.string { data:= #[] },Value.pointer none] 56)).cell? ⟨cb,co+6,none⟩=some (.pointer (some ⟨sb,so,none⟩)):=by
  rw[←hc];simp only[World.cell?,(hka _).same cb hb]
 cases kn
 ·go_enter Tryz.func25,Tryz.ntmps25
  go_wp2_with fail
  exact ret_cell (p:=8) (ty:=56) rfl rfl rfl (range_new w _ 56) Tryz.underlying56 rfl (by kernel_rfl) ⟨rfl,hka _⟩
 ·go_enter Tryz.func25,Tryz.ntmps25
  go_wp2_with fail
  exact ret_cell (p:=8) (ty:=56) rfl rfl rfl (range_new w _ 56) Tryz.underlying56 rfl (by kernel_rfl) ⟨rfl,hka _⟩
set_option maxHeartbeats 2000000 in
set_option maxRecDepth 1000000 in
theorem Tryz.set0 (cb co sb so c:Nat) (a:Option Addr) (w:World) (hc:w.cell? ⟨cb,co+6,none⟩=some (.pointer (some ⟨sb,so,none⟩))) (hb:cb<w.heap.size):Calls Tryz.prog 26 #[.pointer (some ⟨cb,co,none⟩),.slice a 0 c] w fun e w'=>TellP sb so true 0 e∧NearW w.heap.size w w':=by
 have hka:=keep_alloc w (Obj.cells #[Value.pointer none,Value.bool false,Value.int IntKind.u32 0,Value.bool false,Value.bool false,Value.string { data:= #[] },Value.pointer none] 56)
 have hc2:(w.alloc (Obj.cells #[Value.pointer none,Value.bool false,Value.int IntKind.u32 0,Value.bool false,Value.bool false,Value.string { data:= #[] },Value.pointer none] 56)).cell? ⟨cb,co+6,none⟩=some (.pointer (some ⟨sb,so,none⟩)):=by
  rw[←hc];simp only[World.cell?,hka.same cb hb]
 have hB4:(w.alloc (Obj.cells #[Value.pointer none,Value.bool false,Value.int IntKind.u32 0,Value.bool false,Value.bool false,Value.string { data:= #[] },Value.pointer none] 56)).heap[w.heap.size]? =some (Obj.cells #[Value.pointer none,Value.bool false,Value.int IntKind.u32 0,Value.bool false,Value.bool false,Value.string { data:= #[] },Value.pointer none] 56):=by
  simp[World.alloc,-World.alloc_eq]
 go_enter Tryz.func26,Tryz.ntmps26
 go_wp2
 have hnA:=KeepW.near (Nat.le_refl _) hka
 have hBs:w.heap.size<(w.alloc (Obj.cells #[Value.pointer none,Value.bool false,Value.int IntKind.u32 0,Value.bool false,Value.bool false,Value.string { data:= #[] },Value.pointer none] 56)).heap.size:=by simp[World.alloc,-World.alloc_eq]
 generalize w.alloc (Obj.cells #[Value.pointer none,Value.bool false,Value.int IntKind.u32 0,Value.bool false,Value.bool false,Value.string { data:= #[] },Value.pointer none] 56)=wA at*
 generalize hBB:w.heap.size=B at*
 refine wp_loop_rounds 1 ?_
 rw[rounds_succ]
 go_wp2_with fail
 refine(Tryz.tells cb co sb so true 0 wA hc2 (by omega)).mono ?_
 rintro e w1 ⟨rfl,hk1⟩
 have hc1:w1.heap[B]? =some (Obj.cells #[Value.pointer none,Value.bool false,Value.int IntKind.u32 0,Value.bool false,Value.bool false,Value.string { data:= #[] },Value.pointer none] 56):=by
  rw[hk1.same B hBs,hB4]
 have hB1:B<w1.heap.size:=Nat.lt_of_lt_of_le hBs hk1.size
 dsimp only
 apply step_in (P:=Tryz.prog)
 ·assumption
 have hthere:w1.there B 0 7:=fun j hj=>by
  have h7:j=0∨j=1∨j=2∨j=3∨j=4∨j=5∨j=6:=by omega
  constructor
  ·simp only[World.cell?,hc1]
   rcases h7 with rfl|rfl|rfl|rfl|rfl|rfl|rfl<;>rfl
  ·simp only[World.frozen?,hc1]
   rcases h7 with rfl|rfl|rfl|rfl|rfl|rfl|rfl<;>rfl
 refine wpList_store_mid rfl 56 _ _ rfl B 0 _ rfl rfl hthere (by kernel_rfl) (by simp[Value.oneCell']) ?_
 have hrg:=World.rangeAt_setCells_same w1 B 0 [Value.pointer (some { block:=sb,off:=so }),Value.bool true,Value.int IntKind.u32 (if true=true then 0 else 0),Value.bool false,Value.bool false,Value.string { data:= #[] },Value.pointer none] hthere
 have hN1:NearW B wA w1:=KeepW.near (Nat.le_of_lt hBs) hk1
 have hN2:=near_setCells hB1 [Value.pointer (some { block:=sb,off:=so }),Value.bool true,Value.int IntKind.u32 (if true=true then 0 else 0),Value.bool false,Value.bool false,Value.string { data:= #[] },Value.pointer none] 0
 have hfin:NearW B w (w1.setCells B 0 [Value.pointer (some { block:=sb,off:=so }),Value.bool true,Value.int IntKind.u32 (if true=true then 0 else 0),Value.bool false,Value.bool false,Value.string { data:= #[] },Value.pointer none]):=
  ⟨hN2.le,fun b hb=>by rw[hN2.same b hb,hN1.same b hb,hnA.same b hb],hN2.out.trans (hN1.out.trans hnA.out),hN2.os.trans (hN1.os.trans hnA.os),hN2.tape.trans (hN1.tape.trans hnA.tape)⟩
 generalize w1.setCells B 0 _=w2 at*
 go_wp2_with fail
 all_goals exact ret_cell (p:=4) (ty:=56) rfl rfl rfl hrg Tryz.underlying56 rfl (by kernel_rfl) ⟨rfl,by first|exact hfin|(rw[hBB];exact hfin)⟩
end Go.Proofs
namespace Go.Proofs
open Go.RowKit
open Go.AM (KeepW Tr Inj VRel VRelL SRel Fm Ini S stP ofL Wf TS NodeY NodeOk KT TypOk Good outR outA setA SetOk u32 ptrV formO knownO itemO realV realT emptyS panY wrongT)
structure TSmem (S:TS):Prop where
 chk: ∀f,1≤f→f≤7→ ∃b:Go.AM.Blk,(ofL S.pre .leaf).get S.c=some (.blk b)∧b.st<2∧1+f<b.n∧b.c.get (1+f)=some (ptrV (S.basic f))
 frm: ∀f,1≤f→f≤7→ ∃b:Go.AM.Blk,(ofL S.pre .leaf).get (S.basic f)=some (.blk b)∧b.st<2∧0<b.n∧b.c.get 0=some (.int .i64 (f:Nat))
section
variable {P:Program} {W:World} {ι:Inj} {s:S} {w w1 w2:World}
theorem cell_of_obj (hS:SRel P ι s w) {id:Nat} {l:Go.AM.Loc} {b:Go.AM.Blk} (hi:ι id=some l) (ho:s.h.get id=some (.blk b)) (hst:b.st<2) {i:Nat} {v:Value} (hn:i<b.n) (hv:b.c.get i=some v):
 ∃v',w.cell? ⟨l.blk,l.base+i,none⟩=some v'∧VRel ι v v':=by
 obtain⟨o',h1,h2⟩:=hS.obj id l _ hi ho
 obtain⟨c,n,e,p,st⟩:=b
 cases h2 with
 |dead _ h=>simp only at hst;omega
 |blk a1 a2 a3 a4=>
  obtain⟨v',x1,x2⟩:=a3 i v hv hn
  exact⟨v',by simp only[World.cell?,h1];exact x1,x2⟩
structure Inv (P:Program) (ι:Inj) (s:S) (w w1:World):Prop where
 rel:SRel P ι s w1
 fm:Fm s.nx ι s w ι s w1
theorem Inv.start (hS:SRel P ι s w):Inv P ι s w w:=⟨hS,Fm.refl _ _ _ _⟩
theorem Inv.near (hS:SRel P ι s w) (h:Inv P ι s w w1) (hn:NearW w.heap.size w1 w2):Inv P ι s w w2:=by
 refine⟨⟨?_,h.rel.fresh,fun id l a=>Nat.lt_of_lt_of_le (hS.bound id l a) hn.le,h.rel.alias,h.rel.par⟩,?_⟩
 ·intro id l o a b
  obtain⟨o',x,y⟩:=h.rel.obj id l o a b
  exact⟨o',by rw[hn.same _ (hS.bound _ _ a)];exact x,y⟩
 ·exact⟨h.fm.ext,h.fm.keep,h.fm.new,fun b hb ho=>(hn.same b hb).trans (h.fm.heap b hb ho),h.fm.own,h.fm.ownL,h.fm.absent,h.fm.low,h.fm.lo,h.fm.nx,hn.le,hn.os.trans h.fm.os,hn.out.trans h.fm.out,hn.tape.trans h.fm.tape⟩
theorem Inv.size (h:Inv P ι s w w1):w.heap.size≤w1.heap.size:=h.fm.size
theorem inj_eq {ι2:Inj} (h1:Fm s.nx ι s w ι2 s w1) (h2:SRel P ι2 s w1):ι2=ι:=by
 funext i
 cases hh:ι i with
 |some l=>exact h1.ext _ _ hh
 |none=>
  rcases Nat.lt_or_ge i s.nx with x|x
  ·exact(h1.keep i x hh).1
  ·exact h2.fresh i x
theorem Inv.step (hS:SRel P ι s w) (h:Inv P ι s w w1) (hf:Fm s.nx ι s w1 ι s w2) (hr:SRel P ι s w2):Inv P ι s w w2∧w1.heap.size≤w2.heap.size∧ ∀b,w.heap.size≤b→b<w1.heap.size→w2.heap[b]? =w1.heap[b]? :=by
 refine⟨⟨hr,h.fm.trans hf⟩,hf.size,fun b h1 h2=>hf.heap b h2 ?_⟩
 rintro⟨id,l,o,x1,x2,_⟩
 have:=hS.bound id l x1
 omega
theorem Inv.ini {w0:World} (hi:Ini (.of w0) ι s w) (h:Inv P ι s w w1):Ini (.of w0) ι s w1:=hi.fm h.fm
theorem call_of_post {f:FuncId} {args:Array Value} {v:Value} (hS:SRel P ι s w) (h:Inv P ι s w w1) (hk: ∀cs,Go.AM.KPost P f ι s w1 args cs (.ret v s)):
 Calls P f args w1 fun e w'=>(∃v',e= .returned v'∧VRel ι v v')∧Inv P ι s w w'∧w1.heap.size≤w'.heap.size∧ ∀b,w.heap.size≤b→b<w1.heap.size→w'.heap[b]? =w1.heap[b]? :=by
 intro cs
 obtain⟨ι2,w2,v',e1,e2,e3,e,w'',fr,⟨h1,h2⟩,h3⟩:=hk cs
 have:=inj_eq e3 e2
 subst this
 subst h2
 exact⟨e,_,fr,⟨⟨v',h1,e1⟩,h.step hS e3 e2⟩,h3⟩
theorem call_of_pan {f:FuncId} {args:Array Value} {t:TypeId} {v:Value} (hS:SRel P ι s w) (h:Inv P ι s w w1) (hk: ∀cs,Go.AM.KPost P f ι s w1 args cs (.pan t v s)):
 Calls P f args w1 fun e w'=>(∃v',e= .panicked [{ v:= .iface t v',recovered:=false,goexit:=false }]∧VRel ι v v')∧Inv P ι s w w'∧w1.heap.size≤w'.heap.size∧ ∀b,w.heap.size≤b→b<w1.heap.size→w'.heap[b]? =w1.heap[b]? :=by
 intro cs
 obtain⟨ι2,w2,v',e1,e2,e3,e,w'',fr,⟨h1,h2⟩,h3⟩:=hk cs
 have:=inj_eq e3 e2
 subst this
 subst h2
 exact⟨e,_,fr,⟨⟨v',h1,e1⟩,h.step hS e3 e2⟩,h3⟩
theorem post_of_call {f:FuncId} {args:Array Value} {v:Value} {cs:List Frame} (h:Calls P f args w fun e w'=>(∃v',e= .returned v'∧VRel ι v v')∧Inv P ι s w w'):Go.AM.KPost P f ι s w args cs (.ret v s):=by
 obtain⟨e,w',fr,⟨⟨v',h1,h2⟩,h3⟩,h4⟩:=h cs
 exact⟨ι,w',v',h2,h3.rel,h3.fm,e,w',fr,⟨h1,rfl⟩,h4⟩
theorem post_of_pan {f:FuncId} {args:Array Value} {t:TypeId} {v:Value} {cs:List Frame} (h:Calls P f args w fun e w'=>(∃v',e= .panicked [{ v:= .iface t v',recovered:=false,goexit:=false }]∧VRel ι v v')∧Inv P ι s w w'):Go.AM.KPost P f ι s w args cs (.pan t v s):=by
 obtain⟨e,w',fr,⟨⟨v',h1,h2⟩,h3⟩,h4⟩:=h cs
 exact⟨ι,w',v',h2,h3.rel,h3.fm,e,w',fr,⟨h1,rfl⟩,h4⟩
end
end Go.Proofs
namespace Go.Proofs
open Go.RowKit
open Go.AM (KeepW Tr Inj VRel VRelL SRel Fm Ini S stP ofL Wf TS NodeY NodeOk KT TypOk Good outR outA setA SetOk u32 ptrV formO knownO itemO realV realT emptyS panY wrongT natV)
theorem kt_text {F:Go.AM.Fns} {N:Tr} {o v:Nat} {t:List UInt8} (h:KT F N o v t) (h5:o≠11):t=[]:=by
 cases h<;>first|rfl|exact absurd rfl h5
theorem or_nat {a b:Nat} (ha:a<4294967296) (hb:b<4294967296):bits .or .u32 (a:Int) (b:Int)=((a|||b:Nat):Int):=by
 have hlt:a|||b<4294967296:=Nat.or_lt_two_pow (n:=32) ha hb
 show((((BitVec.ofInt 32 (a:Int))|||(BitVec.ofInt 32 (b:Int))).toNat:Nat):Int) % 4294967296=_
 have h1:BitVec.ofInt 32 (a:Int)=BitVec.ofNat 32 a:=by simp
 have h2:BitVec.ofInt 32 (b:Int)=BitVec.ofNat 32 b:=by simp
 rw[h1,h2,BitVec.toNat_or,BitVec.toNat_ofNat,BitVec.toNat_ofNat,Nat.mod_eq_of_lt ha,Nat.mod_eq_of_lt hb]
 omega
def foldM (f:Nat→Nat) (n:Nat):Nat:=((List.range n).map f).foldl (fun a v=>a|||theF.left 1 v) 0
def foldN (X:Nat→Kid) (n:Nat):Nat:=foldM (fun k=>(X k).v) n
theorem fold_nat {X:Nat→Kid} (hv: ∀k,(X k).v<4294967296): ∀n,foldV X n=(foldN X n:Nat)∧foldN X n<4294967296
 |0=>⟨rfl,by show(0:Nat)<4294967296;omega⟩
 |n+1=>by
  obtain⟨h1,h2⟩:=fold_nat hv n
  have hl:(theF.left 1 (X n).v:Nat)<4294967296:=toNat_lt (left_range 1 (X n).v)
  have hi:iLeft 1 (X n).v=((theF.left 1 (X n).v:Nat):Int):=by
   show _=((iLeft 1 (X n).v).toNat:Int)
   rw[Int.toNat_of_nonneg (left_range 1 (X n).v).1]
  have e:foldN X (n+1)=foldN X n|||theF.left 1 (X n).v:=by
   simp only[foldN,foldM,List.range_succ,List.map_append,List.map_cons,List.map_nil,List.foldl_append,List.foldl_cons,List.foldl_nil]
  refine⟨?_,by rw[e];exact Nat.or_lt_two_pow (n:=32) h2 hl⟩
  simp only[foldV]
  rw[h1,hi,or_nat h2 hl,e]
section
variable {W:World} {S:TS} {ι:Inj} {w w1:World}
theorem basics (hM:TSmem S) {lc:Go.AM.Loc} (hc:ι S.c=some lc) (hS:SRel Tryz.prog ι (stP S.pre S.x) w): ∀f,1≤f→f≤7→ ∃l,ι (S.basic f)=some l∧w.cell? ⟨lc.blk,lc.base+(1+f),none⟩=some (.pointer (some ⟨l.blk,l.base+0,none⟩))∧w.cell? ⟨l.blk,l.base+0,none⟩=some (.int .i64 (f:Nat)):=by
 intro f h1 h2
 obtain⟨b,g1,g2,g3,g4⟩:=hM.chk f h1 h2
 obtain⟨v',x1,x2⟩:=cell_of_obj hS hc g1 g2 g3 g4
 obtain⟨l,y1,y2⟩:=VRel.ptr_inv x2
 subst y2
 obtain⟨b',k1,k2,k3,k4⟩:=hM.frm f h1 h2
 obtain⟨v2,z1,z2⟩:=cell_of_obj hS y1 k1 k2 k3 k4
 have:=z2.int_inv
 subst this
 exact⟨l,y1,x1,z1⟩
theorem item_real {o v:Nat} {t:List UInt8} {v':Value} (h:VRel ι (itemO S o (realV o v) (realT o t)) v'): ∃l,ι (S.basic (formO o))=some l∧v'=itemV l.blk (l.base+0) (knownO o) (natV o v) ⟨(if o=11∨o=12 then t else[]).toArray⟩:=by
 simp only[itemO]at h
 obtain⟨xs,rfl,hl⟩:=h.agg_inv
 have key: ∀ {ys:List Value},VRelL ι [ptrV (S.basic (formO o)),.bool (knownO o),realV o v,.bool false,.bool false,realT o t,.pointer none] ys→ ∃l,ι (S.basic (formO o))=some l∧ys=[.pointer (some ⟨l.blk,l.base+0,none⟩),.bool (knownO o),.int .u32 (natV o v:Nat),.bool false,.bool false,.string ⟨(if o=11∨o=12 then t else[]).toArray⟩,.pointer none]:=by
  intro ys h
  cases h with
  |cons r1 h=>cases h with
   |cons r2 h=>cases h with
    |cons r3 h=>cases h with
     |cons r4 h=>cases h with
      |cons r5 h=>cases h with
       |cons r6 h=>cases h with
        |cons r7 h=>
         cases h
         obtain⟨l,y1,rfl⟩:=VRel.ptr_inv r1
         refine⟨l,y1,?_⟩
         rw[r2.bool_inv,r4.bool_inv,r5.bool_inv,r7.nilptr_inv]
         have e3:realV o v=u32 (natV o v):=Go.AM.realV_nat ..
         rw[e3]at r3
         rw[r3.int_inv]
         have e6:realT o t= .string ⟨(if o=11∨o=12 then t else[]).toArray⟩:=by
          unfold realT
          split
          ·simp
          ·simp
          ·rename_i n1 n2
           rw[if_neg (by rintro(h|h);exact n1 h;exact n2 h)]
           rfl
         rw[e6]at r6
         rw[r6.string_inv]
         rfl
 obtain⟨l,y1,y2⟩:=key hl
 refine⟨l,y1,?_⟩
 rw[itemV,←y2]
theorem allKn_iff {X:Nat→Kid} : ∀n,allKn X n=true↔ ∀k,k<n→(X k).kn=true
 |0=>⟨fun _ k h=>absurd h (Nat.not_lt_zero _),fun _=>rfl⟩
 |n+1=>by
  simp only[allKn,Bool.and_eq_true,allKn_iff n]
  constructor
  ·rintro⟨h1,h2⟩ k hk
   rcases Nat.lt_or_ge k n with h|h
   ·exact h1 k h
   ·have:k=n:=by omega
    subst this;exact h2
  ·intro h;exact⟨fun k hk=>h k (by omega),h n (by omega)⟩
theorem form_rng {o:Nat} (h1:o≠0) (h2:o<13):1≤formO o∧formO o≤7∧formO o≠4∧(formO o=1↔o=1∨o=5):=by
 have:o=1∨o=2∨o=3∨o=4∨o=5∨o=6∨o=7∨o=8∨o=9∨o=10∨o=11∨o=12:=by omega
 rcases this with rfl|rfl|rfl|rfl|rfl|rfl|rfl|rfl|rfl|rfl|rfl|rfl<;>decide
def mkKid (ι:Inj) (S:TS) (o v:Nat) (t:List UInt8):Kid where
 ok:=!(Nat.beq o 0)
 wh:=Nat.beq o 1||Nat.beq o 5
 kn:=knownO o
 v:=natV o v
 tb:=match ι (S.basic (formO o))with|some l=>l.blk|none=>0
 to:=match ι (S.basic (formO o))with|some l=>l.base+0|none=>0
 tx:=⟨(if o=11∨o=12 then t else[]).toArray⟩
theorem mkKid_good {o v:Nat} {t:List UInt8} :(mkKid ι S o v t).good=true↔(o=1∨o=5):=by
 simp only[Kid.good,mkKid,Bool.and_eq_true,Bool.or_eq_true,Nat.beq_eq,Bool.not_eq_true']
 constructor
 ·exact fun h=>h.2
 ·intro h
  refine⟨?_,h⟩
  rcases h with rfl|rfl<;>rfl
def aOf (o:Nat→Nat) (n:Nat):Nat:=if ∀k,k<n→(o k=1∨o k=5)then(if ∀k,k<n→knownO (o k)=true then 2 else 1)else 0
theorem set_core (hM:TSmem S) {N:Tr} (hw:Wf W N) (o v:Nat→Nat) (t:Nat→List UInt8) (hg: ∀j,Go.AM.Good (o j) (v j) (t j)∧ ∀k,N.kids[j]? =some k→NodeY Tryz.prog W S 16 k.val (outR S (o j) (v j) (t j))):
 NodeY Tryz.prog W S 26 N.sl (setA S (aOf o N.kids.length) (u32 (foldM (fun k=>natV (o k) (v k)) N.kids.length)))∧foldM (fun k=>natV (o k) (v k)) N.kids.length<4294967296:=by
 have hnat: ∀k,natV (o k) (v k)<4294967296:=fun k=>Go.AM.natV_lt (hg k).1.v
 let fv:=foldM (fun k=>natV (o k) (v k)) N.kids.length
 have hX: ∀ι:Inj,foldV (fun k=>mkKid ι S (o k) (v k) (t k)) N.kids.length=(fv:Nat)∧fv<4294967296:=fun ι=>fold_nat (X:=fun k=>mkKid ι S (o k) (v k) (t k)) hnat _
 refine⟨?_,(hX fun _=>none).2⟩
 let a:Nat:=aOf o N.kids.length
 intro cs ι w hd hini hS hrel
 have hhd: ∃lc,ι S.c=some lc∧hd=[.pointer (some ⟨lc.blk,lc.base+0,none⟩)]:=by
  cases hrel with
  |cons r1 r2=>
   cases r2
   obtain⟨lc,y1,rfl⟩:=VRel.ptr_inv r1
   exact⟨lc,y1,rfl⟩
 obtain⟨lc,hlc,rfl⟩:=hhd
 have hb:=basics hM hlc hS
 obtain⟨l5,h5,_,_⟩:=hb 5 (by omega) (by omega)
 let X:Nat→Kid:=fun k=>mkKid ι S (o k) (v k) (t k)
 have hcall:Calls Tryz.prog 26 #[.pointer (some ⟨lc.blk,lc.base+0,none⟩),N.sl] w fun e w'=>SetP X N.kids.length l5.blk (l5.base+0) e∧Inv Tryz.prog ι (stP S.pre S.x) w w':=by
  have hIs:=Inv.start hS
  have hrow: ∀w1,Inv Tryz.prog ι (stP S.pre S.x) w w1→ ∀b,b<W.heap.size→w1.heap[b]? =W.heap[b]? :=fun w1 h b hb=>(h.ini hini).same b hb
  have hbas: ∀w1,Inv Tryz.prog ι (stP S.pre S.x) w w1→ ∀f,1≤f→f≤7→ ∃l,ι (S.basic f)=some l∧w1.cell? ⟨lc.blk,lc.base+(1+f),none⟩=some (.pointer (some ⟨l.blk,l.base+0,none⟩))∧w1.cell? ⟨l.blk,l.base+0,none⟩=some (.int .i64 (f:Nat)):=fun w1 h=>basics hM hlc h.rel
  have htell: ∀(kn:Bool) (v:Int) w1,Inv Tryz.prog ι (stP S.pre S.x) w w1→Calls Tryz.prog 25 #[.pointer (some ⟨lc.blk,lc.base+0,none⟩),.int .i64 5,.bool kn,.int .u32 v] w1 fun e w'=>e= .returned (.agg #[.pointer (some ⟨l5.blk,l5.base+0,none⟩),.bool kn,.int .u32 (if kn then v else 0),.bool false,.bool false,.string ⟨#[]⟩,.pointer none])∧KeepW w1 w':=by
   intro kn v w1 h1
   obtain⟨l5',q1,q2,_⟩:=hbas w1 h1 5 (by omega) (by omega)
   rw[h5]at q1;cases q1
   refine Tryz.tells lc.blk (lc.base+0) l5.blk (l5.base+0) kn v w1 (by rw[show lc.base+0+6=lc.base+(1+5)by omega];exact q2) ?_
   exact Nat.lt_of_lt_of_le (hS.bound _ _ hlc) h1.size
  have hs:=hw.slOk
  generalize hsl:N.sl=sl at hs
  generalize hkl:N.kids=l at hs
  have emp: ∀(a:Option Addr) (c:Nat),l=[]→Calls Tryz.prog 26 #[.pointer (some ⟨lc.blk,lc.base+0,none⟩),.slice a 0 c] w fun e w'=>SetP X l.length l5.blk (l5.base+0) e∧Inv Tryz.prog ι (stP S.pre S.x) w w':=by
   intro a c hl
   subst hl
   obtain⟨l5',q1,q2,_⟩:=hbas w hIs 5 (by omega) (by omega)
   rw[h5]at q1;cases q1
   refine(Tryz.set0 lc.blk (lc.base+0) l5.blk (l5.base+0) c a w (by rw[show lc.base+0+6=lc.base+(1+5)by omega];exact q2) (hS.bound _ _ hlc)).mono ?_
   rintro e w' ⟨h1,h2⟩
   refine⟨?_,hIs.near hS h2⟩
   unfold SetP
   rw[if_pos (show ∀k,k<([]:List Tr).length→(X k).good=true from fun k hk=>absurd hk (Nat.not_lt_zero _))]
   exact h1
  cases hs with
  |nil=>exact emp none 0 rfl
  |empty a c hc=>exact emp (some a) c rfl
  | @some b off c cells ty fr l hne g1 g2 g3 g4 g5=>
   have hbb:b<W.heap.size:=by
    rcases Nat.lt_or_ge b W.heap.size with x|x
    ·exact x
    ·rw[Array.getElem?_eq_none x]at g1;cases g1
   refine Tryz.set (Inv Tryz.prog ι (stP S.pre S.x) w) w lc.blk (lc.base+0) l5.blk (l5.base+0) b off c l X hIs (fun w1 w2 h1 h2=>h1.near hS h2) (fun w1 h1=>h1.size) g2 g3 ?_ ?_ ?_ ?_ htell
   ·intro w1 h1 k M hk j x hx
    have:=g5 k M hk j x hx
    simp only[World.cell?,hrow w1 h1 b hbb,g1]
    rw[show off+k*5+j=off+5*k+j by omega]
    exact this
   ·intro k M h
    obtain⟨a,c,e,_⟩:=(hw.kid (by rw[hkl];exact List.mem_of_getElem? h)).slOk.shape
    exact⟨a,_,c,e⟩
   ·intro k M hkM w1 h1
    have hN:=(hg k).2 M (by rw[hkl];exact hkM)
    have hgd:=(hg k).1
    have hlt:=hgd.lt
    have hini1:=h1.ini hini
    have hk1:=fun cs=>hN cs ι w1 [.pointer (some ⟨lc.blk,lc.base+0,none⟩)] hini1 h1.rel hrel
    cases ho:Nat.beq (o k) 0 with
    |true=>
     have ho':=Nat.eq_of_beq_eq_true ho
     have e1:outR S (o k) (v k) (t k)=panY:=by rw[outR,outA,ho];rfl
     rw[e1]at hk1
     refine(call_of_pan hS h1 hk1).mono ?_
     rintro e w2 ⟨⟨v',rfl,hv'⟩,h2,h3,h4⟩
     refine⟨?_,h2,h3,h4⟩
     have:(X k).ok=false:=by show(!(Nat.beq (o k) 0))=false;rw[ho];rfl
     rw[this,hv'.int_inv]
     rfl
    |false=>
     have e1:outR S (o k) (v k) (t k)= .ret (itemO S (o k) (realV (o k) (v k)) (realT (o k) (t k))):=by rw[outR,outA,ho];rfl
     rw[e1]at hk1
     refine(call_of_post hS h1 hk1).mono ?_
     rintro e w2 ⟨⟨v',rfl,hv'⟩,h2,h3,h4⟩
     refine⟨?_,h2,h3,h4⟩
     have:(X k).ok=true:=by show(!(Nat.beq (o k) 0))=true;rw[ho];rfl
     rw[this]
     obtain⟨lf,y1,y2⟩:=item_real hv'
     rw[y2]
     show _=Ending.returned (Kid.item (mkKid ι S (o k) (v k) (t k)))
     simp only[Kid.item,mkKid,y1]
   ·intro k hk hok w1 h1
    have hlt:=(hg k).1.lt
    have ho:o k≠0:=by
     intro h
     have:(X k).ok=false:=by show(!(Nat.beq (o k) 0))=false;rw[h];rfl
     rw[this]at hok;cases hok
    obtain⟨f1,f2,f4,f3⟩:=form_rng ho hlt
    obtain⟨lf,y1,_,y3⟩:=hbas w1 h1 (formO (o k)) f1 f2
    have e1:(X k).item=itemV lf.blk (lf.base+0) (knownO (o k)) (natV (o k) (v k)) (X k).tx:=by
     show Kid.item (mkKid ι S (o k) (v k) (t k))=_
     simp only[Kid.item,mkKid,y1]
     rfl
    rw[e1]
    refine(Tryz.itemWhole lf.blk (lf.base+0) (formO (o k):Nat) (knownO (o k)) (natV (o k) (v k)) (X k).tx w1 y3 (Nat.lt_of_lt_of_le (hS.bound _ _ y1) h1.size)).mono ?_
    rintro e w2 ⟨h2,h3⟩
    refine⟨?_,h3⟩
    rw[h2]
    refine congrArg (fun b=>Ending.returned (Value.bool b)) ?_
    show _=(Nat.beq (o k) 1||Nat.beq (o k) 5)
    rw[Bool.eq_iff_iff]
    simp only[Bool.or_eq_true,Nat.beq_eq,beq_iff_eq]
    rw[←f3]
    omega
 have hitem: ∀(q:Nat) (kn:Bool) (z:Nat),formO q=5→knownO q=kn→VRel ι (itemO S q (u32 z) emptyS) (.agg #[.pointer (some ⟨l5.blk,l5.base+0,none⟩),.bool kn,.int .u32 (z:Nat),.bool false,.bool false,.string ⟨#[]⟩,.pointer none]):=by
  intro q kn z h1 h2
  simp only[itemO,h1,h2]
  exact .agg (.cons (.ptr h5) (.cons (.bool _) (.cons (.int _ _) (.cons (.bool _) (.cons (.bool _) (.cons (.string _) (.cons .nilptr .nil)))))))
 by_cases hgood: ∀k,k<N.kids.length→(o k=1∨o k=5)
 ·have hgd: ∀k,k<N.kids.length→(X k).good=true:=fun k hk=>mkKid_good.2 (hgood k hk)
  by_cases hkn: ∀k,k<N.kids.length→knownO (o k)=true
  ·have ha:aOf o N.kids.length=2:=by show aOf o N.kids.length=2;unfold aOf;rw[if_pos hgood,if_pos hkn]
   rw[ha]
   refine post_of_call (v:=itemO S 9 (u32 fv) emptyS) (hcall.mono ?_)
   rintro e w' ⟨h1,h2⟩
   unfold SetP at h1
   rw[if_pos hgd]at h1
   have hal:allKn X N.kids.length=true:=(allKn_iff _).2 hkn
   have hf:foldV X N.kids.length=(fv:Nat):=(hX ι).1
   rw[hal,if_pos rfl,hf]at h1
   exact⟨⟨_,h1,hitem 9 true fv rfl rfl⟩,h2⟩
  ·have ha:aOf o N.kids.length=1:=by show aOf o N.kids.length=1;unfold aOf;rw[if_pos hgood,if_neg hkn]
   rw[ha]
   refine post_of_call (v:=itemO S 4 (u32 0) emptyS) (hcall.mono ?_)
   rintro e w' ⟨h1,h2⟩
   unfold SetP at h1
   rw[if_pos hgd]at h1
   have hal:allKn X N.kids.length=false:=by
    cases h:allKn X N.kids.length with
    |false=>rfl
    |true=>exact absurd ((allKn_iff _).1 h) hkn
   rw[hal,if_neg (by decide)]at h1
   exact⟨⟨_,h1,hitem 4 false 0 rfl rfl⟩,h2⟩
 ·have hgd: ¬ ∀k,k<N.kids.length→(X k).good=true:=fun h=>hgood fun k hk=>mkKid_good.1 (h k hk)
  have ha:aOf o N.kids.length=0:=by show aOf o N.kids.length=0;unfold aOf;rw[if_neg hgood]
  rw[ha]
  refine post_of_pan (t:=wrongT) (v:= .int .i64 7) (hcall.mono ?_)
  rintro e w' ⟨h1,h2⟩
  unfold SetP at h1
  rw[if_neg hgd]at h1
  exact⟨⟨_,h1,.int _ _⟩,h2⟩
theorem set_ok (hM:TSmem S):SetOk Tryz.prog W S theF:=by
 intro N hw hk
 have g: ∀j:Nat,∃(o v:Nat) (t:List UInt8),Go.AM.Good o v t∧ ∀k,N.kids[j]? =some k→NodeY Tryz.prog W S 16 k.val (outR S o v t)∧(knownO o=true→KT theF k o v t):=by
  intro j
  cases h:N.kids[j]? with
  |none=>exact⟨0,0,[],⟨by omega,by omega,fun h=>by omega,fun h=>by omega⟩,fun k hk=>by cases hk⟩
  |some k=>
   obtain⟨o,v,t,h1,h2,h3⟩:=hk k (List.mem_of_getElem? h)
   exact⟨o,v,t,h1,fun k' hk'=>by cases hk';exact⟨h2,h3⟩⟩
 let o:Nat→Nat:=fun j=>Classical.choose (g j)
 let v:Nat→Nat:=fun j=>Classical.choose (Classical.choose_spec (g j))
 let t:Nat→List UInt8:=fun j=>Classical.choose (Classical.choose_spec (Classical.choose_spec (g j)))
 have hg: ∀j,Go.AM.Good (o j) (v j) (t j)∧ ∀k,N.kids[j]? =some k→NodeY Tryz.prog W S 16 k.val (outR S (o j) (v j) (t j))∧(knownO (o j)=true→KT theF k (o j) (v j) (t j)):=fun j=>Classical.choose_spec (Classical.choose_spec (Classical.choose_spec (g j)))
 obtain⟨c1,c2⟩:=set_core hM hw o v t fun j=>⟨(hg j).1,fun k h=>((hg j).2 k h).1⟩
 refine⟨aOf o N.kids.length,_,?_,c2,c1,?_⟩
 ·unfold aOf
  split
  ·split<;>omega
  ·omega
 ·intro ha h31
  have hall: ∀k,k<N.kids.length→o k=5:=by
   intro k hk
   by_cases h1: ∀k,k<N.kids.length→(o k=1∨o k=5)
   ·by_cases h2: ∀k,k<N.kids.length→knownO (o k)=true
    ·rcases h1 k hk with h|h
     ·have:=h2 k hk;rw[h]at this;cases this
     ·exact h
    ·have:aOf o N.kids.length=1:=by show aOf o N.kids.length=1;unfold aOf;rw[if_pos h1,if_neg h2]
     omega
   ·have:aOf o N.kids.length=0:=by show aOf o N.kids.length=0;unfold aOf;rw[if_neg h1]
    omega
  refine KT.set (vs:=(List.range N.kids.length).map fun k=>natV (o k) (v k)) h31 (by simp) fun i k x hi hx=>?_
  have hlt:i<N.kids.length:=(List.getElem?_eq_some_iff.1 hi).1
  simp only[List.getElem?_map,List.getElem?_range hlt,Option.map_some,Option.some.injEq]at hx
  have h5:=hall i hlt
  have hkt:=((hg i).2 k hi).2 (by rw[h5];rfl)
  rw[h5]at hkt hx
  have ht:=kt_text hkt (by omega)
  rw[ht]at hkt
  rw[←hx]
  exact hkt
end
end Go.Proofs
namespace Go.Proofs
open Go.RowKit
open Go.AM (KeepW Tr Inj VRel VRelL SRel Fm Ini S stP ofL Wf TS NodeY NodeOk KT RealPure Good outR setA SetK KtyOk u32 ptrV natV strV datM datR emptyS MS NodeM)
theorem set_known {W:World} {S:TS} (hM:TSmem S):SetK Tryz.prog W S theF:=by
 intro N hw vs hlen hkid
 have hvs: ∀j,vs.getD j 0<4294967296:=by
  intro j
  by_cases hj:j<vs.length
  ·have hjk:j<N.kids.length:=by omega
   have:=(hkid j _ vs[j] (List.getElem?_eq_getElem hjk) (List.getElem?_eq_getElem hj)).1.v
   simpa[List.getD,List.getElem?_eq_getElem hj]using this
  ·simp[List.getD,List.getElem?_eq_none (Nat.le_of_not_lt hj)]
 obtain⟨c1,c2⟩:=set_core hM hw (fun _=>5) (fun j=>vs.getD j 0) (fun _=>[]) fun j=>⟨⟨by omega,hvs j,fun h=>by omega,fun h=>by omega⟩,fun k hk=>by
  have hjk:j<N.kids.length:=(List.getElem?_eq_some_iff.1 hk).1
  have hj:j<vs.length:=by omega
  have:=(hkid j k vs[j] hk (List.getElem?_eq_getElem hj)).2
  simpa[List.getD,List.getElem?_eq_getElem hj]using this⟩
 have ha:aOf (fun _=>5) N.kids.length=2:=by
  unfold aOf
  rw[if_pos (fun k _=> .inr rfl),if_pos (show ∀k,k<N.kids.length→Go.AM.knownO 5=true from fun k _=>rfl)]
 have hf:foldM (fun k=>natV 5 (vs.getD k 0)) N.kids.length=vs.foldl (fun a v=>a|||theF.left 1 v) 0:=by
  unfold foldM
  congr 1
  rw[←hlen]
  refine List.ext_getElem (by simp) fun i h1 h2=>?_
  simp only[List.getElem_map,List.getElem_range]
  show vs.getD i 0=_
  simp[List.getD,List.getElem?_eq_getElem h2]
 rw[ha,hf]at c1
 exact c1
set_option maxHeartbeats 2000000 in
set_option maxRecDepth 1000000 in
theorem Tryz.plain (k v:Int) (w:World):Calls Tryz.prog 202 #[.int .i64 k,.int .u32 v] w fun e w'=>(e= .returned (.agg #[.int .i64 k,.int .u32 v,.pointer none,.string ⟨#[]⟩]))∧KeepW w w':=by
 have hka:=fun o=>keep_alloc w o
 go_enter Tryz.func202,Tryz.ntmps202
 go_wp2_with fail
 exact ret_cell (p:=4) (ty:=149) rfl rfl rfl (range_new w _ 149) Tryz.underlying149 rfl (by kernel_rfl) ⟨rfl,hka _⟩
set_option maxHeartbeats 2000000 in
set_option maxRecDepth 1000000 in
theorem Tryz.letter144 (b:UInt8) (w:World):Calls Tryz.prog 144 #[.agg #[.int .i64 99,.int .u32 0,.pointer none,.string ⟨#[b]⟩]] w fun e w'=>(e= .returned (.agg #[.int .i64 3,.int .u32 (b.toNat:Nat),.pointer none,.string ⟨#[]⟩]))∧KeepW w w':=by
 have hb: ∀h:0<({ data:= #[b] } :ByteArray).size,(({ data:= #[b] } :ByteArray)[0]'h).toNat=b.toNat:=fun _=>rfl
 have hm:((b.toNat:Nat):Int) % 4294967296=(b.toNat:Nat):=by have:=b.toNat_lt;omega
 have hka: ∀o o',KeepW w ((w.alloc o).alloc o'):=fun o o'=>(keep_alloc w o).trans (keep_alloc _ o')
 have hsz: ∀o,(w.alloc o).heap.size=w.heap.size+1:=fun o=>by simp[World.alloc,-World.alloc_eq]
 go_enter Tryz.func144,Tryz.ntmps144
 go_wp2_with fail
 have hr:=range_new (w.alloc (Obj.cells #[Value.int IntKind.i64 99,Value.int IntKind.u32 0,Value.pointer none,Value.string { data:= #[b] }] 149)) #[Value.int IntKind.i64 3,Value.int IntKind.u32 (b.toNat:Nat),Value.pointer none,Value.string { data:= #[] }] 149
 rw[hsz]at hr
 exact ret_cell (p:=2) (ty:=149) rfl rfl rfl hr Tryz.underlying149 rfl (by kernel_rfl) ⟨rfl,hka _ _⟩
end Go.Proofs
namespace Go.Proofs
open Go.RowKit
open Go.AM (KeepW Tr)
def datI (v:Nat):Value:= .agg #[.int .i64 1,.int .u32 (v:Nat),.pointer none,.string ⟨#[]⟩]
set_option maxHeartbeats 2000000 in
set_option maxRecDepth 1000000 in
theorem Tryz.mwhole (I J:World→Prop) (B:Nat) (wv av:Value) (kd:Int) (nm:List UInt8) (vl:Nat) (mk:Bool) (a:Option Addr) (n c v:Nat) (hI: ∀w1 w2,I w1→NearW B w1 w2→I w2)
 (hk: ∀w1,I w1→Calls Tryz.prog 143 #[wv,av,.agg #[.int .i64 kd,.string ⟨nm.toArray⟩,.int .u32 (vl:Nat),.bool mk,.slice a n c]] w1 fun e w'=>e= .returned (datI v)∧J w'∧w1.heap.size≤w'.heap.size∧ ∀b,B≤b→b<w1.heap.size→w'.heap[b]? =w1.heap[b]?)
 (w:World) (hw:I w) (hB:B≤w.heap.size):
 Calls Tryz.prog 201 #[wv,av,.agg #[.int .i64 kd,.string ⟨nm.toArray⟩,.int .u32 (vl:Nat),.bool mk,.slice a n c]] w fun e w'=>e= .returned (.int .u32 (v:Nat))∧J w'∧w.heap.size≤w'.heap.size∧ ∀b,B≤b→b<w.heap.size→w'.heap[b]? =w.heap[b]? :=by
 go_enter Tryz.func201,Tryz.ntmps201
 go_wp2_with fail
 have hka:=keep_alloc w (Obj.cells #[Value.int IntKind.i64 kd,Value.string { data:=nm.toArray },Value.int IntKind.u32 ↑vl,Value.bool mk,Value.slice a n c] 26)
 have hIa:=hI _ _ hw (KeepW.near hB hka)
 refine(hk _ hIa).mono ?_
 rintro e w1 ⟨rfl,hJ,hs,hkeep⟩
 have hs2:w.heap.size≤w1.heap.size:=Nat.le_trans hka.size hs
 have hkp: ∀b,B≤b→b<w.heap.size→w1.heap[b]? =w.heap[b]? :=fun b h1 h2=>by
  rw[hkeep b h1 (Nat.lt_of_lt_of_le h2 hka.size),hka.same b h2]
 clear hk hI hIa hka hkeep hs
 have hf1: ∀w:World,(Instr.field 149 (.agg #[.int .i64 1,.int .u32 (v:Nat),.pointer none,.string ⟨#[]⟩]) 1).run Tryz.prog w= .ok (.agg #[.int .u32 (v:Nat),.pointer none]) w:=fun _=>by kernel_rfl
 have hf2: ∀w:World,(Instr.field 147 (.agg #[.int .u32 (v:Nat),.pointer none]) 0).run Tryz.prog w= .ok (.int .u32 (v:Nat)) w:=fun _=>by kernel_rfl
 unfold datI
 go_wp2_with fail
 go_ret
 exact⟨rfl,hJ,hs2,hkp⟩
theorem alloc2_at (w:World) (o o':Obj):((w.alloc o).alloc o').heap[w.heap.size+1]? =some o':=by
 have h:(w.alloc o).heap.size=w.heap.size+1:=by simp[World.alloc,-World.alloc_eq]
 rw[←h]
 show((w.alloc o).heap.push o')[(w.alloc o).heap.size]? =some o'
 exact Array.getElem?_push_size
def MsetP (f:Nat→Nat) (n:Nat) (e:Ending):Prop:=e= .returned (.agg #[.int .i64 5,.int .u32 (foldM f n:Nat),.pointer none,.string ⟨#[]⟩])
theorem foldM_succ (f:Nat→Nat) (n:Nat):foldM f (n+1)=foldM f n|||theF.left 1 (f n):=by
 simp only[foldM,List.range_succ,List.map_append,List.map_cons,List.map_nil,List.foldl_append,List.foldl_cons,List.foldl_nil]
theorem foldM_lt (f:Nat→Nat) (hf: ∀k,f k<4294967296): ∀n,foldM f n<4294967296
 |0=>by show(0:Nat)<4294967296;omega
 |n+1=>by rw[foldM_succ];exact Nat.or_lt_two_pow (n:=32) (foldM_lt f hf n) (toNat_lt (left_range 1 (f n)))
set_option maxHeartbeats 4000000 in
set_option maxRecDepth 1000000 in
theorem Tryz.mset (I:Nat→World→Prop) (w:World) (wb wo ab ao b off c vl:Nat) (nm:List UInt8) (mk:Bool) (l:List Tr) (f:Nat→Nat) (hf: ∀k,f k<4294967296) (hI0:I 0 w) (hI: ∀k w1 w2,I k w1→NearW w.heap.size w1 w2→I k w2) (hIs: ∀k w1,I k w1→w.heap.size≤w1.heap.size)
 (hlen:l.length≤c) (hc:c<9223372036854775808)
 (hcells: ∀j w1,I j w1→ ∀(k:Nat) (N:Tr),l[k]? =some N→w1.rangeAt b (off+k*5) N.cells)
 (hsl: ∀(k:Nat) (N:Tr),l[k]? =some N→ ∃(a:Option Addr) (n c:Nat),N.sl=Value.slice a n c)
 (hkid: ∀(k:Nat) (N:Tr),l[k]? =some N→ ∀w1,I k w1→Calls Tryz.prog 143 #[.pointer (some ⟨wb,wo,none⟩),.pointer (some ⟨ab,ao,none⟩),N.val] w1 fun e w'=>e= .returned (datI (f k))∧I (k+1) w'∧w1.heap.size≤w'.heap.size∧ ∀b,w.heap.size≤b→b<w1.heap.size→w'.heap[b]? =w1.heap[b]?):
 Calls Tryz.prog 143 #[.pointer (some ⟨wb,wo,none⟩),.pointer (some ⟨ab,ao,none⟩),.agg #[.int .i64 31,.string ⟨nm.toArray⟩,.int .u32 (vl:Nat),.bool mk,.slice (some ⟨b,off,none⟩) l.length c]] w fun e w'=>MsetP f l.length e∧I l.length w':=by
 go_enter Tryz.func143,Tryz.ntmps143
 go_wp2_with fail
 have hka:KeepW w ((w.alloc (Obj.cells #[Value.int IntKind.i64 31,Value.string { data:=nm.toArray },Value.int IntKind.u32 ↑vl,Value.bool mk,Value.slice (some { block:=b,off:=off }) l.length c] 26)).alloc (Obj.cells #[Value.int IntKind.i64 0,Value.int IntKind.u32 0,Value.pointer none,Value.string { data:= #[] }] 149)):=(keep_alloc w _).trans (keep_alloc _ _)
 have hBc:((w.alloc (Obj.cells #[Value.int IntKind.i64 31,Value.string { data:=nm.toArray },Value.int IntKind.u32 ↑vl,Value.bool mk,Value.slice (some { block:=b,off:=off }) l.length c] 26)).alloc (Obj.cells #[Value.int IntKind.i64 0,Value.int IntKind.u32 0,Value.pointer none,Value.string { data:= #[] }] 149)).heap[w.heap.size+1]? =some (Obj.cells #[Value.int IntKind.i64 0,Value.int IntKind.u32 0,Value.pointer none,Value.string { data:= #[] }] 149):=by
  exact alloc2_at _ _ _
 have hBs:w.heap.size+1<((w.alloc (Obj.cells #[Value.int IntKind.i64 31,Value.string { data:=nm.toArray },Value.int IntKind.u32 ↑vl,Value.bool mk,Value.slice (some { block:=b,off:=off }) l.length c] 26)).alloc (Obj.cells #[Value.int IntKind.i64 0,Value.int IntKind.u32 0,Value.pointer none,Value.string { data:= #[] }] 149)).heap.size:=by
  simp[World.alloc,-World.alloc_eq]
 have hIA:=hI 0 _ _ hI0 (KeepW.near (Nat.le_refl _) hka)
 generalize(w.alloc (Obj.cells #[Value.int IntKind.i64 31,Value.string { data:=nm.toArray },Value.int IntKind.u32 ↑vl,Value.bool mk,Value.slice (some { block:=b,off:=off }) l.length c] 26)).alloc (Obj.cells #[Value.int IntKind.i64 0,Value.int IntKind.u32 0,Value.pointer none,Value.string { data:= #[] }] 149)=wA at*
 clear hka hI0
 have hfl:=foldM_lt f hf
 generalize hBB:w.heap.size=B at*
 clear hBB
 go_loopw [8,46] (fun x i wr=> ∃k:Nat,k≤l.length∧i= .int .i64 k∧x= .int .u32 (foldM f k:Nat)∧I k wr∧B+1<wr.heap.size∧wr.heap[B+1]? =some (Obj.cells #[Value.int IntKind.i64 0,Value.int IntKind.u32 0,Value.pointer none,Value.string { data:= #[] }] 149)) (fun _ i _=>l.length - (intOf i).toNat)
 case atStart=>exact⟨0,Nat.zero_le _,rfl,rfl,hIA,hBs,hBc⟩
 case round=>
  obtain⟨k,hk,rfl,rfl,hIr,hBr,hBk⟩:=hrel
  clear hIA hBs hBc
  obtain⟨N,hN,a',n',c',hsl'⟩: ∃N:Tr,(k<l.length→l[k]? =some N)∧ ∃(a:Option Addr) (n c:Nat),N.sl=Value.slice a n c:=by
   by_cases h:k<l.length
   ·exact⟨_,fun _=>List.getElem?_eq_getElem h,hsl k _ (List.getElem?_eq_getElem h)⟩
   ·exact⟨.mk 0 [] 0 false (.slice none 0 0) [],fun h'=>absurd h' h,_,_,_,rfl⟩
  have hr:k<l.length→wr.rangeAt b (off+k*5) N.cells:=fun h=>hcells k wr hIr k N (hN h)
  have c0:k<l.length→wr.cell? ⟨b,off+k*5,none⟩=some (.int .i64 N.kind):=fun h=>hr h 0 _ rfl
  have c1:k<l.length→wr.cell? ⟨b,off+k*5+1,none⟩=some (.string ⟨N.name.toArray⟩):=fun h=>hr h 1 _ rfl
  have c2:k<l.length→wr.cell? ⟨b,off+k*5+2,none⟩=some (.int .u32 (N.value:Nat)):=fun h=>hr h 2 _ rfl
  have c3:k<l.length→wr.cell? ⟨b,off+k*5+3,none⟩=some (.bool N.mark):=fun h=>hr h 3 _ rfl
  have c4:k<l.length→wr.cell? ⟨b,off+k*5+4,none⟩=some (.slice a' n' c'):=fun h=>by rw[←hsl'];exact hr h 4 _ rfl
  clear hr hcells hsl
  have hval:k<l.length→N.val= .agg #[.int .i64 N.kind,.string ⟨N.name.toArray⟩,.int .u32 (N.value:Nat),.bool N.mark,.slice a' n' c']:=fun _=>by simp only[Tr.val,Tr.cells,hsl']
  go_wp2_with fail
  ·have hlt:k<l.length:=by assumption
   have hIa:=hI k _ _ hIr (KeepW.near (by omega) (keep_alloc wr (Obj.cells #[Value.int IntKind.i64 N.kind,Value.string { data:=N.name.toArray },Value.int IntKind.u32 ↑N.value,Value.bool N.mark,Value.slice a' n' c'] 26)))
   have hs1:wr.heap.size<(wr.alloc (Obj.cells #[Value.int IntKind.i64 N.kind,Value.string { data:=N.name.toArray },Value.int IntKind.u32 ↑N.value,Value.bool N.mark,Value.slice a' n' c'] 26)).heap.size:=by simp[World.alloc,-World.alloc_eq]
   have hkp:=(keep_alloc wr (Obj.cells #[Value.int IntKind.i64 N.kind,Value.string { data:=N.name.toArray },Value.int IntKind.u32 ↑N.value,Value.bool N.mark,Value.slice a' n' c'] 26)).same
   have hm:=hkid k N (hN hlt)
   rw[hval hlt]at hm
   refine(Tryz.mwhole (I k) (I (k+1)) B _ _ _ _ _ _ _ _ _ (f k) (hI k) hm _ hIa (by omega)).mono ?_
   rintro e w1 ⟨rfl,hI1,hs2,hkeep⟩
   have hB1:B+1<w1.heap.size:=by omega
   have hc1:w1.heap[B+1]? =some (Obj.cells #[Value.int IntKind.i64 0,Value.int IntKind.u32 0,Value.pointer none,Value.string { data:= #[] }] 149):=by
    rw[hkeep (B+1) (by omega) (by omega),hkp (B+1) hBr,hBk]
   clear hkid hm c0 c1 c2 c3 c4 hval hIr hIa hBr hBk hs2 hkeep hkp hs1
   have hor:=or_nat (hfl k) (toNat_lt (left_range 1 (f k)))
   have hli:iLeft 1 (f k)=((theF.left 1 (f k):Nat):Int):=by
    show _=((iLeft 1 (f k)).toNat:Int)
    rw[Int.toNat_of_nonneg (left_range 1 (f k)).1]
   go_wp2_with (first
    |(go_at_call 79;refine(Tryz.left 1 _ _).mono ?_;rintro e w3 ⟨rfl,rfl⟩))
   go_roundw
   case rel=>
    refine⟨k+1,by omega,by go_num,?_,hI1,hB1,hc1⟩
    rw[foldM_succ]
    exact congrArg _ hor
   case measure=>simp[intOf];omega
  ·have hge: ¬k<l.length:=by assumption
   have hkl:k=l.length:=by omega
   subst hkl
   clear c0 c1 c2 c3 c4 hval hkid
   refine(Tryz.plain 5 _ wr).mono ?_
   rintro e w1 ⟨rfl,hk1⟩
   have hI1:=hI _ _ _ hIr (KeepW.near (by omega) hk1)
   have hc1:w1.heap[B+1]? =some (Obj.cells #[Value.int IntKind.i64 0,Value.int IntKind.u32 0,Value.pointer none,Value.string { data:= #[] }] 149):=by
    rw[hk1.same (B+1) hBr,hBk]
   have hB1:B+1<w1.heap.size:=Nat.lt_of_lt_of_le hBr hk1.size
   clear hk1 hBk hBr hIr
   dsimp only
   apply step_in (P:=Tryz.prog)
   ·assumption
   have hthere:w1.there (B+1) 0 4:=fun j hj=>by
    have h7:j=0∨j=1∨j=2∨j=3:=by omega
    constructor
    ·simp only[World.cell?,hc1]
     rcases h7 with rfl|rfl|rfl|rfl<;>rfl
    ·simp only[World.frozen?,hc1]
     rcases h7 with rfl|rfl|rfl|rfl<;>rfl
   have hP:MsetP f l.length (.returned (.agg [Value.int IntKind.i64 5,Value.int IntKind.u32 (foldM f l.length:Nat),Value.pointer none,Value.string { data:= #[] }].toArray)):=rfl
   generalize foldM f l.length=z at*
   refine wpList_store_mid rfl 149 _ _ rfl (B+1) 0 _ rfl rfl hthere (by kernel_rfl) (by simp[Value.oneCell']) ?_
   have hrg:=World.rangeAt_setCells_same w1 (B+1) 0 [Value.int IntKind.i64 5,Value.int IntKind.u32 (z:Nat),Value.pointer none,Value.string { data:= #[] }] hthere
   have hnr:=near_setCells hB1 [Value.int IntKind.i64 5,Value.int IntKind.u32 (z:Nat),Value.pointer none,Value.string { data:= #[] }] 0
   have hI2:=hI _ _ _ hI1 (⟨by have:=hnr.le;omega,fun b hb=>hnr.same b (by omega),hnr.out,hnr.os,hnr.tape⟩:NearW B w1 _)
   generalize w1.setCells (B+1) 0 _=w2 at*
   go_wp2_with fail
   all_goals exact ret_cell (p:=6) (ty:=149) rfl rfl rfl hrg Tryz.underlying149 rfl (by kernel_rfl) ⟨hP,hI2⟩
end Go.Proofs
namespace Go.Proofs
open Go.RowKit
open Go.AM (KeepW Tr Inj VRel VRelL SRel Fm Ini S stP ofL Wf NodeOk RealPure u32 ptrV natV strV datM datR emptyS MS NodeM vn KPost)
set_option maxHeartbeats 4000000 in
set_option maxRecDepth 1000000 in
theorem Tryz.mset0 (w:World) (wv av:Value) (a:Option Addr) (c vl:Nat) (nm:List UInt8) (mk:Bool):
 Calls Tryz.prog 143 #[wv,av,.agg #[.int .i64 31,.string ⟨nm.toArray⟩,.int .u32 (vl:Nat),.bool mk,.slice a 0 c]] w fun e w'=>MsetP (fun _=>0) 0 e∧NearW w.heap.size w w':=by
 go_enter Tryz.func143,Tryz.ntmps143
 go_wp2_with fail
 have hka:KeepW w ((w.alloc (Obj.cells #[Value.int IntKind.i64 31,Value.string { data:=nm.toArray },Value.int IntKind.u32 ↑vl,Value.bool mk,Value.slice a 0 c] 26)).alloc (Obj.cells #[Value.int IntKind.i64 0,Value.int IntKind.u32 0,Value.pointer none,Value.string { data:= #[] }] 149)):=(keep_alloc w _).trans (keep_alloc _ _)
 have hBc:((w.alloc (Obj.cells #[Value.int IntKind.i64 31,Value.string { data:=nm.toArray },Value.int IntKind.u32 ↑vl,Value.bool mk,Value.slice a 0 c] 26)).alloc (Obj.cells #[Value.int IntKind.i64 0,Value.int IntKind.u32 0,Value.pointer none,Value.string { data:= #[] }] 149)).heap[w.heap.size+1]? =some (Obj.cells #[Value.int IntKind.i64 0,Value.int IntKind.u32 0,Value.pointer none,Value.string { data:= #[] }] 149):=by
  exact alloc2_at _ _ _
 have hBs:w.heap.size+1<((w.alloc (Obj.cells #[Value.int IntKind.i64 31,Value.string { data:=nm.toArray },Value.int IntKind.u32 ↑vl,Value.bool mk,Value.slice a 0 c] 26)).alloc (Obj.cells #[Value.int IntKind.i64 0,Value.int IntKind.u32 0,Value.pointer none,Value.string { data:= #[] }] 149)).heap.size:=by
  simp[World.alloc,-World.alloc_eq]
 have hnA:=KeepW.near (Nat.le_refl _) hka
 generalize(w.alloc (Obj.cells #[Value.int IntKind.i64 31,Value.string { data:=nm.toArray },Value.int IntKind.u32 ↑vl,Value.bool mk,Value.slice a 0 c] 26)).alloc (Obj.cells #[Value.int IntKind.i64 0,Value.int IntKind.u32 0,Value.pointer none,Value.string { data:= #[] }] 149)=wA at*
 clear hka
 generalize hBB:w.heap.size=B at*
 refine wp_loop_rounds 1 ?_
 rw[rounds_succ]
 go_wp2_with fail
 refine(Tryz.plain 5 0 wA).mono ?_
 rintro e w1 ⟨rfl,hk1⟩
 have hc1:w1.heap[B+1]? =some (Obj.cells #[Value.int IntKind.i64 0,Value.int IntKind.u32 0,Value.pointer none,Value.string { data:= #[] }] 149):=by
  rw[hk1.same (B+1) hBs,hBc]
 have hB1:B+1<w1.heap.size:=Nat.lt_of_lt_of_le hBs hk1.size
 have hN1:NearW B wA w1:=KeepW.near (by omega) hk1
 dsimp only
 apply step_in (P:=Tryz.prog)
 ·assumption
 have hthere:w1.there (B+1) 0 4:=fun j hj=>by
  have h7:j=0∨j=1∨j=2∨j=3:=by omega
  constructor
  ·simp only[World.cell?,hc1]
   rcases h7 with rfl|rfl|rfl|rfl<;>rfl
  ·simp only[World.frozen?,hc1]
   rcases h7 with rfl|rfl|rfl|rfl<;>rfl
 refine wpList_store_mid rfl 149 _ _ rfl (B+1) 0 _ rfl rfl hthere (by kernel_rfl) (by simp[Value.oneCell']) ?_
 have hrg:=World.rangeAt_setCells_same w1 (B+1) 0 [Value.int IntKind.i64 5,Value.int IntKind.u32 0,Value.pointer none,Value.string { data:= #[] }] hthere
 have hnr:=near_setCells hB1 [Value.int IntKind.i64 5,Value.int IntKind.u32 0,Value.pointer none,Value.string { data:= #[] }] 0
 have hfin:NearW B w (w1.setCells (B+1) 0 [Value.int IntKind.i64 5,Value.int IntKind.u32 0,Value.pointer none,Value.string { data:= #[] }]):=
  ⟨by have:=hnr.le;omega,fun b hb=>by rw[hnr.same b (by omega),hN1.same b hb,hnA.same b hb],hnr.out.trans (hN1.out.trans hnA.out),hnr.os.trans (hN1.os.trans hnA.os),hnr.tape.trans (hN1.tape.trans hnA.tape)⟩
 generalize w1.setCells (B+1) 0 _=w2 at*
 go_wp2_with fail
 all_goals exact ret_cell (p:=6) (ty:=149) rfl rfl rfl hrg Tryz.underlying149 rfl (by kernel_rfl) ⟨rfl,by first|exact hfin|(rw[hBB];exact hfin)⟩
section
variable {P:Program} {W:World} {ι:Inj} {s s1 s2:S} {w w1 w2:World}
structure InvT (P:Program) (ι:Inj) (s:S) (w:World) (s1:S) (w1:World):Prop where
 rel:SRel P ι s1 w1
 fm:Fm s.nx ι s w ι s1 w1
theorem InvT.near (hS:SRel P ι s w) (h:InvT P ι s w s1 w1) (hn:NearW w.heap.size w1 w2):InvT P ι s w s1 w2:=by
 refine⟨⟨?_,h.rel.fresh,fun id l a=>Nat.lt_of_lt_of_le (hS.bound id l a) hn.le,h.rel.alias,h.rel.par⟩,?_⟩
 ·intro id l o a b
  obtain⟨o',x,y⟩:=h.rel.obj id l o a b
  exact⟨o',by rw[hn.same _ (hS.bound _ _ a)];exact x,y⟩
 ·exact⟨h.fm.ext,h.fm.keep,h.fm.new,fun b hb ho=>(hn.same b hb).trans (h.fm.heap b hb ho),h.fm.own,h.fm.ownL,h.fm.absent,h.fm.low,h.fm.lo,h.fm.nx,hn.le,hn.os.trans h.fm.os,hn.out.trans h.fm.out,hn.tape.trans h.fm.tape⟩
theorem inj_eq2 {ι2:Inj} {n:Nat} (h1:Fm n ι s w ι2 s1 w1) (h2:SRel P ι2 s1 w1) (hn:s1.nx≤n):ι2=ι:=by
 funext i
 cases hh:ι i with
 |some l=>exact h1.ext _ _ hh
 |none=>
  rcases Nat.lt_or_ge i n with x|x
  ·exact(h1.keep i x hh).1
  ·exact h2.fresh i (by omega)
theorem callT_of_post {f:FuncId} {args:Array Value} {v:Value} (hS:SRel P ι s w) (h:InvT P ι s w s1 w1) (hn1:s1.nx=s.nx) (hn2:s2.nx=s.nx) (hk: ∀cs,KPost P f ι s1 w1 args cs (.ret v s2)):
 Calls P f args w1 fun e w'=>(∃v',e= .returned v'∧VRel ι v v')∧InvT P ι s w s2 w'∧w1.heap.size≤w'.heap.size∧ ∀b,w.heap.size≤b→b<w1.heap.size→w'.heap[b]? =w1.heap[b]? :=by
 intro cs
 obtain⟨ι2,w2,v',e1,e2,e3,e,w'',fr,⟨h1,h2⟩,h3⟩:=hk cs
 have:=inj_eq2 e3 e2 (by omega)
 subst this
 subst h2
 rw[hn1]at e3
 refine⟨e,_,fr,⟨⟨v',h1,e1⟩,⟨e2,h.fm.trans e3⟩,e3.size,fun b h4 h5=>e3.heap b h5 ?_⟩,h3⟩
 rintro⟨id,l,o,x1,x2,_⟩
 have:=hS.bound id l x1
 omega
theorem postT_of_call {f:FuncId} {args:Array Value} {v:Value} {cs:List Frame} (h:Calls P f args w fun e w'=>(∃v',e= .returned v'∧VRel ι v v')∧InvT P ι s w s2 w'):KPost P f ι s w args cs (.ret v s2):=by
 obtain⟨e,w',fr,⟨⟨v',h1,h2⟩,h3⟩,h4⟩:=h cs
 exact⟨ι,w',v',h2,h3.rel,h3.fm,e,w',fr,⟨h1,rfl⟩,h4⟩
theorem datR5 {ι:Inj} {v:Nat} {v':Value} (h:VRel ι (datM 5 (Go.AM.realW 5 v) (Go.AM.textR 5 [])) v'):v'=datI v:=by
 simp only[datM]at h
 obtain⟨xs,rfl,hl⟩:=h.agg_inv
 have key: ∀ {ys:List Value},VRelL ι [.int .i64 (Go.AM.kindM 5:Nat),Go.AM.realW 5 v,.pointer none,Go.AM.textR 5 []] ys→ys=[.int .i64 1,.int .u32 (v:Nat),.pointer none,.string ⟨#[]⟩]:=by
  intro ys h
  cases h with
  |cons r1 h=>cases h with
   |cons r2 h=>cases h with
    |cons r3 h=>cases h with
     |cons r4 h=>
      cases h
      rw[r1.int_inv,(show VRel ι (u32 v) _ from r2).int_inv,r3.nilptr_inv,(show VRel ι emptyS _ from r4).string_inv]
      rfl
 rw[datI,←key hl]
theorem sum_take {ks:List Nat} {k q:Nat} (h:ks[k]? =some q):(ks.take (k+1)).sum=(ks.take k).sum+q:=by
 have hlt:=(List.getElem?_eq_some_iff.1 h).1
 have he:=(List.getElem?_eq_some_iff.1 h).2
 rw[List.take_add_one,h]
 simp
theorem sum_take_le: ∀(ks:List Nat) (k:Nat),(ks.take k).sum≤ks.sum
 |[],k=>by simp
 |a::ks,0=>by simp
 |a::ks,k+1=>by simp only[List.take_succ_cons,List.sum_cons];have:=sum_take_le ks k;omega
theorem mean_set (M:MS): ∀N,Wf W N→N.kind=31→ ∀(vs ks:List Nat),vs.length=N.kids.length→ks.length=N.kids.length→(∀v∈vs,v<4294967296)→
 (∀(i:Nat) (k:Tr) (v q:Nat),N.kids[i]? =some k→vs[i]? =some v→ks[i]? =some q→NodeM Tryz.prog W M 143 k.val q (datR 5 v []))→NodeM Tryz.prog W M 143 N.val ks.sum (datR 9 (vs.foldl (fun a v=>a|||theF.left 1 v) 0) []):=by
 intro N hw hk31 vs ks hvl hkl hvb hkid s hs cs ι w hd hini hS hrel
 have hhd: ∃lw la,ι M.w=some lw∧ι M.sc=some la∧hd=[.pointer (some ⟨lw.blk,lw.base+0,none⟩),.pointer (some ⟨la.blk,la.base+0,none⟩)]:=by
  cases hrel with
  |cons r1 r2=>
   cases r2 with
   |cons r2 r3=>
    cases r3
    obtain⟨lw,y1,rfl⟩:=VRel.ptr_inv r1
    obtain⟨la,y2,rfl⟩:=VRel.ptr_inv r2
    exact⟨lw,la,y1,y2,rfl⟩
 obtain⟨lw,la,hlw,hla,rfl⟩:=hhd
 let f:Nat→Nat:=fun k=>vs.getD k 0
 have hfb: ∀k,f k<4294967296:=by
  intro j
  show vs.getD j 0<_
  by_cases hj:j<vs.length
  ·have:=hvb vs[j] (List.getElem_mem hj)
   simpa[List.getD,List.getElem?_eq_getElem hj]using this
  ·simp[List.getD,List.getElem?_eq_none (Nat.le_of_not_lt hj)]
 have hfold:foldM f N.kids.length=vs.foldl (fun a v=>a|||theF.left 1 v) 0:=by
  unfold foldM
  congr 1
  rw[←hvl]
  refine List.ext_getElem (by simp) fun i h1 h2=>?_
  simp only[List.getElem_map,List.getElem_range]
  show vs.getD i 0=_
  simp[List.getD,List.getElem?_eq_getElem h2]
 let I:Nat→World→Prop:=fun k w1=>InvT Tryz.prog ι (stP (M.pre (vn s)) M.x) w (stP (M.pre (vn (s+(ks.take k).sum))) M.x) w1
 have hI0:I 0 w:=⟨by simpa using hS,by simpa using Fm.refl _ _ _ _⟩
 have hcall:Calls Tryz.prog 143 #[.pointer (some ⟨lw.blk,lw.base+0,none⟩),.pointer (some ⟨la.blk,la.base+0,none⟩),N.val] w fun e w'=>MsetP f N.kids.length e∧I N.kids.length w':=by
  have hrow: ∀k w1,I k w1→ ∀b,b<W.heap.size→w1.heap[b]? =W.heap[b]? :=fun k w1 h b hb=>((hini.fm h.fm)).same b hb
  have hval:N.val= .agg #[.int .i64 31,.string ⟨N.name.toArray⟩,.int .u32 (N.value:Nat),.bool N.mark,N.sl]:=by simp only[Tr.val,Tr.cells,hk31]
  rw[hval]
  have hs':=hw.slOk
  generalize hsl:N.sl=sl at hs'
  generalize hkk:N.kids=l at hs'
  have emp: ∀(a:Option Addr) (c:Nat),l=[]→Calls Tryz.prog 143 #[.pointer (some ⟨lw.blk,lw.base+0,none⟩),.pointer (some ⟨la.blk,la.base+0,none⟩),.agg #[.int .i64 31,.string ⟨N.name.toArray⟩,.int .u32 (N.value:Nat),.bool N.mark,.slice a 0 c]] w fun e w'=>MsetP f l.length e∧I l.length w':=by
   intro a c hl
   subst hl
   refine(Tryz.mset0 w _ _ a c N.value N.name N.mark).mono ?_
   rintro e w' ⟨h1,h2⟩
   exact⟨h1,InvT.near hS hI0 h2⟩
  cases hs' with
  |nil=>exact emp none 0 rfl
  |empty a c hc=>exact emp (some a) c rfl
  | @some b off c cells ty fr l hne g1 g2 g3 g4 g5=>
   have hbb:b<W.heap.size:=by
    rcases Nat.lt_or_ge b W.heap.size with x|x
    ·exact x
    ·rw[Array.getElem?_eq_none x]at g1;cases g1
   refine Tryz.mset I w lw.blk (lw.base+0) la.blk (la.base+0) b off c N.value N.name N.mark l f hfb hI0 (fun k w1 w2 h1 h2=>InvT.near hS h1 h2) (fun k w1 h1=>h1.fm.size) g2 g3 ?_ ?_ ?_
   ·intro q w1 h1 k K hk j x hx
    have:=g5 k K hk j x hx
    simp only[World.cell?,hrow q w1 h1 b hbb,g1]
    rw[show off+k*5+j=off+5*k+j by omega]
    exact this
   ·intro k K h
    obtain⟨a,c,e,_⟩:=(hw.kid (by rw[hkk];exact List.mem_of_getElem? h)).slOk.shape
    exact⟨a,_,c,e⟩
   ·intro k K hkK w1 h1
    have hlt:k<l.length:=(List.getElem?_eq_some_iff.1 hkK).1
    have hlv:k<vs.length:=by rw[hvl,hkk];exact hlt
    have hlk:k<ks.length:=by rw[hkl,hkk];exact hlt
    have hN:=hkid k K vs[k] ks[k] (by rw[hkk];exact hkK) (List.getElem?_eq_getElem hlv) (List.getElem?_eq_getElem hlk)
    have hst:=sum_take (List.getElem?_eq_getElem hlk)
    have hle:=sum_take_le ks (k+1)
    have hN1:=hN (s+(ks.take k).sum) (by omega)
    rw[Nat.add_assoc,←hst]at hN1
    have hk1:=fun cs=>hN1 cs ι w1 [.pointer (some ⟨lw.blk,lw.base+0,none⟩),.pointer (some ⟨la.blk,la.base+0,none⟩)] (hini.fm h1.fm) h1.rel hrel
    refine(callT_of_post (s2:=stP (M.pre (vn (s+(ks.take (k+1)).sum))) M.x) (v:=datM 5 (Go.AM.realW 5 vs[k]) (Go.AM.textR 5 [])) hS h1 rfl rfl hk1).mono ?_
    rintro e w2 ⟨⟨v',rfl,hv'⟩,h2,h3,h4⟩
    have e1:=datR5 hv'
    have e2:f k=vs[k]:=by show vs.getD k 0=_;simp[List.getD,List.getElem?_eq_getElem hlv]
    rw[e1,←e2]
    exact⟨rfl,h2,h3,h4⟩
 have hend:(ks.take N.kids.length).sum=ks.sum:=by rw[←hkl,List.take_length]
 refine postT_of_call (v:=datM 9 (Go.AM.realW 9 (vs.foldl (fun a v=>a|||theF.left 1 v) 0)) (Go.AM.textR 9 [])) (hcall.mono ?_)
 rintro e w' ⟨h1,h2⟩
 refine⟨⟨_,h1,?_⟩,?_⟩
 ·rw[hfold]
  exact .agg (.cons (.int _ _) (.cons (.int _ _) (.cons .nilptr (.cons (.string _) .nil))))
 ·have:I N.kids.length w'=InvT Tryz.prog ι (stP (M.pre (vn s)) M.x) w (stP (M.pre (vn (s+ks.sum))) M.x) w':=by
   show InvT _ _ _ _ (stP (M.pre (vn (s+(ks.take N.kids.length).sum))) M.x) _=_
   rw[hend]
  rw[←this]
  exact h2
end
end Go.Proofs
namespace Go.Proofs
open Go.RowKit
open Go.AM (KeepW Tr MS MSok MeanEnv Wf u32 strV RealPure bytesOf rowsM rowRunM objRun datM emptyS)
theorem less0 {b:Nat} (h:fLess 0 b=true):0<wrap32 (b:Int):=by
 simpa[fLess,wrap32]using h
theorem env_sets {W:World} (w:List UInt8) (a b:Nat):RealPure Tryz.prog W 284 [strV w,u32 a,u32 b] (u32 (theF.sum w a b)):=by
 rw[show u32 (theF.sum w a b)= .int .u32 (iSum w a b)from(u_of (sum_range _ _ _).1).symm]
 refine PureW.real fun w'=>?_
 have:=Tryz.sets ⟨w.toArray⟩ a b w'
 rw[show(ByteArray.mk w.toArray).toList=w by simp]at this
 exact this
theorem env_wh {W:World} (l:List UInt8) (a b:Nat) (h:(l=[43]∨l=[45]∨l=[42])∨((l=[68,73,86]∨l=[77,79,68])∧0<wrap32 (b:Int))): ∀w,KeepW W w→Calls Tryz.prog 285 #[strV l,u32 a,u32 b] w fun e w'=>e= .returned (.int .u32 (iWhole l a b))∧KeepW w w':=by
 intro w' _
 have hl:(ByteArray.mk l.toArray).toList=l:=by simp
 have:=Tryz.wholes ⟨l.toArray⟩ a b w' (by rw[hl];exact h)
 rw[hl]at this
 exact this
theorem whole_reck {l:List UInt8} (h:l=[43]∨l=[45]∨l=[42]) (a b:Nat):iWhole l a b=iReck l a b:=by
 rcases h with rfl|rfl|rfl<;>simp[iWhole]
theorem whole_div (a b:Nat):iWhole [68,73,86] a b=iDiv a b:=by simp[iWhole]
theorem whole_mod (a b:Nat):iWhole [77,79,68] a b=iMod a b:=by simp[iWhole]
theorem env_wholes {W:World} (l:List UInt8) (a b:Nat) (h:l=[43]∨l=[45]∨l=[42]):RealPure Tryz.prog W 285 [strV l,u32 a,u32 b] (u32 (theF.reck l a b)):=by
 rw[show u32 (theF.reck l a b)= .int .u32 (iReck l a b)from(u_of (reck_range _ _ _).1).symm,←whole_reck h]
 exact env_wh l a b (.inl h)
theorem env_div {W:World} (a b:Nat) (h:fLess 0 b=true):RealPure Tryz.prog W 285 [strV [68,73,86],u32 a,u32 b] (u32 (theF.div a b)):=by
 rw[show u32 (theF.div a b)= .int .u32 (iDiv a b)from(u_of (div_range a b).1.1).symm,←whole_div]
 exact env_wh _ a b (.inr ⟨.inl rfl,less0 h⟩)
theorem env_md {W:World} (a b:Nat) (h:fLess 0 b=true):RealPure Tryz.prog W 285 [strV [77,79,68],u32 a,u32 b] (u32 (theF.md a b)):=by
 rw[show u32 (theF.md a b)= .int .u32 (iMod a b)from(u_of (div_range a b).2.1).symm,←whole_mod]
 exact env_wh _ a b (.inr ⟨.inr rfl,less0 h⟩)
theorem env_letter {W:World} (b:UInt8):RealPure Tryz.prog W 144 [datM 11 (u32 0) (strV [b])] (datM 8 (u32 b.toNat) emptyS):=fun w _=>Tryz.letter144 b w
theorem mean_env {W:World} (hmix:Tryz.prog.follows .mixedOrders=true) (h0:0<W.heap.size) {M:MS} (hM:MSok M) (hr: ∀r∈rowsM,rowRunM Tryz.prog M r=true) (ho: ∀p,p<6→objRun Tryz.prog M p=true):MeanEnv Tryz.prog W M theF where
 mix:=hmix
 ms:=hM
 h0:=h0
 rows:=hr
 arith:=arith W
 sets w a b _ _:=env_sets w a b
 wholes w a b hw _ _:=env_wholes (bytesOf w) a b (by rcases hw with rfl|rfl|rfl;exact .inl rfl;exact .inr (.inl rfl);exact .inr (.inr rfl))
 div a b h _ _:=env_div a b h
 md a b h _ _:=env_md a b h
 letter b:=env_letter b
 obj N hw p w hp hb hk hn:=Go.AM.obj_ok hmix hM h0 hp (ho p hp) hw hb hk hn
 set N hw hk vs ks h1 h2 h3 h4:=mean_set M N hw hk vs ks h1 h2 h3 h4
end Go.Proofs
namespace Go.Proofs
open Go.RowKit
open Go.AM (Tr Wf SlOk)
theorem addr_off (a:Addr) (n:Nat):(a.add n).off=a.off+n∧(a.add n).block=a.block:=by
 unfold Addr.add
 split
 ·subst n;simp
 ·simp
theorem add_add' (a:Addr) (i j:Nat):(a.add i).add j=a.add (i+j):=by
 unfold Addr.add
 by_cases hi:i=0<;>by_cases hj:j=0<;>simp[hi,hj,Nat.add_assoc]
theorem cell_at {w:World} {a:Addr} {v:Value} (h:w.cell? a=some v):a.spot=none∧ ∃c e f,w.heap[a.block]? =some (.cells c e f)∧c[a.off]? =some v:=by
 unfold World.cell? at h
 split at h
 ·rename_i c e f hc
  split at h
  ·cases h
  ·rename_i hs
   exact⟨by simpa using hs,c,e,f,hc,h⟩
 ·cases h
theorem len5 {α:Type} {l:List α} (h:l.length=5): ∃a b c d e,l=[a,b,c,d,e]:=by
 match l,h with
 |[a,b,c,d,e],_=>exact⟨a,b,c,d,e,rfl⟩
structure NodeTy (P:Program) (t s k nm vl bl:TypeId) (f0 f1 f2 f3 f4:Field):Prop where
 st:P.underlying t=some (.struct #[f0,f1,f2,f3,f4])
 sl:P.underlying s=some (.slice t)
 ki:P.underlying k=some (.int .i64)
 na:P.underlying nm=some .string
 va:P.underlying vl=some (.int .u32)
 bo:P.underlying bl=some .bool
 ct:P.cellsOf t=5
 c0:P.cellsOf k=1
 c1:P.cellsOf nm=1
 c2:P.cellsOf vl=1
 c3:P.cellsOf bl=1
 c4:P.cellsOf s=1
 t0:f0.type=k∧f0.offset=0
 t1:f1.type=nm∧f1.offset=1
 t2:f2.type=vl∧f2.offset=2
 t3:f3.type=bl∧f3.offset=3
 t4:f4.type=s∧f4.offset=4
section
variable {H:Type} {enc:TypeId×Value→H} {P:Program} {W:World} {held:Bool} {t s k nm vl bl:TypeId} {f0 f1 f2 f3 f4:Field}
theorem kids_sl {a:Addr} {len cap:Nat} (hle:len≤cap) (hcap:cap<9223372036854775808) (hk: ∀i:Fin len,∃N:Tr,Wf W N∧W.cells? 0 (a.add (i.1*5)) 5=some N.cells)
 (hr: ∀j,j<cap - len→ ∃cs,W.cells? 0 (a.add ((len+j)*5)) 5=some cs): ∃l:List Tr,SlOk W (.slice (some a) len cap) l∧ ∀x∈l,Wf W x:=by
 by_cases h0:len=0
 ·subst h0
  exact⟨[],.empty a cap hcap,fun _ h=>by cases h⟩
 ·let l:List Tr:=List.ofFn fun i:Fin len=>Classical.choose (hk i)
  have hl:l.length=len:=List.length_ofFn
  have hat: ∀(i:Nat) (x:Tr),l[i]? =some x→ ∃h:i<len,x=Classical.choose (hk ⟨i,h⟩):=by
   intro i x hx
   obtain⟨h1,h2⟩:=List.getElem?_eq_some_iff.1 hx
   refine⟨by rw[hl]at h1;exact h1,?_⟩
   rw[←h2];simp[l]
  have hcs: ∀i,i<cap→ ∀j,j<5→ ∃v,W.cell? (a.add (i*5+j))=some v:=by
   intro i hi j hj
   have: ∃cs,W.cells? 0 (a.add (i*5)) 5=some cs:=by
    by_cases h:i<len
    ·obtain⟨N,_,hN⟩:=hk ⟨i,h⟩;exact⟨_,hN⟩
    ·obtain⟨cs,hc⟩:=hr (i - len) (by omega)
     rw[show len+(i - len)=i by omega]at hc;exact⟨_,hc⟩
   obtain⟨cs,hc⟩:=this
   obtain⟨_,h1,h2⟩:=World.cells?_some hc
   have:=h2 j hj
   rw[add_add',List.getElem?_eq_getElem (by omega)]at this
   exact⟨_,this⟩
  obtain⟨v0,hv0⟩:=hcs 0 (by omega) 0 (by omega)
  obtain⟨hs,c,e,f,hb,_⟩:=cell_at hv0
  rw[(addr_off _ _).2]at hb
  have hs0:a.spot=none:=by simpa[Addr.add]using hs
  have hcell: ∀m v,W.cell? (a.add m)=some v→c[a.off+m]? =some v:=by
   intro m v hm
   obtain⟨_,c',e',f',hb',hv⟩:=cell_at hm
   rw[(addr_off _ _).2,hb]at hb'
   simp only[Option.some.injEq,Obj.cells.injEq]at hb'
   rw[(addr_off _ _).1,←hb'.1]at hv;exact hv
  obtain⟨ab,ao,asp⟩:=a
  simp only at hs0 hb hcell
  subst hs0
  refine⟨l,?_,?_⟩
  ·have:=SlOk.some (W:=W) (b:=ab) (off:=ao) (c:=cap) (cells:=c) (e:=e) (fr:=f) (l:=l) (by intro h;rw[h]at hl;simp at hl;omega) hb (by omega) hcap ?_ ?_
   ·rw[hl]at this;exact this
   ·obtain⟨v,hv⟩:=hcs (cap - 1) (by omega) 4 (by omega)
    have:=hcell _ _ hv
    have:=(Array.getElem?_eq_some_iff.1 this).1
    omega
   ·intro i x hx j v hv
    obtain⟨hi,rfl⟩:=hat i x hx
    obtain⟨_,h1,h2⟩:=World.cells?_some (Classical.choose_spec (hk ⟨i,hi⟩)).2
    have hj:j<5:=by have:=(List.getElem?_eq_some_iff.1 hv).1;rw[h1]at this;exact this
    have:=h2 j hj
    rw[add_add',hv]at this
    have:=hcell _ _ this
    rw[show ao+5*i+j=ao+(i*5+j)by omega];exact this
  ·intro x hx
   obtain⟨i,hi⟩:=List.getElem?_of_mem hx
   obtain⟨h,rfl⟩:=hat i x hi
   exact(Classical.choose_spec (hk ⟨i,h⟩)).1
theorem wf_trod (hT:NodeTy P t s k nm vl bl f0 f1 f2 f3 f4): ∀(fuel:Nat) (cs:List Value) (x:DataW H×List MemPlace),DataW.trod enc P W 0 (fun _=>true) held fuel t cs=some x→ ∃N:Tr,Wf W N∧cs=N.cells:=by
 intro fuel
 induction fuel using Nat.strongRecOn with
 |ind fuel ih=>
  intro cs x h
  obtain⟨xs,n,hn,hx,hcl,hxl,hf⟩:=DataW.trod_struct hT.st h
  rw[hT.ct]at hcl
  obtain⟨c0,c1,c2,c3,c4,rfl⟩:=len5 hcl
  have hxl5:xs.length=5:=hxl
  have g: ∀(i:Nat) (f:Field) (c:Value) (t':TypeId),i<5→f.type=t'→([c0,c1,c2,c3,c4].drop f.offset).take (P.cellsOf t')=[c]→(#[f0,f1,f2,f3,f4]:Array Field)[i]? =some f→
   ∃y,DataW.trod enc P W 0 (fun _=>true) held n t' [c]=some y:=by
   intro i f c t' hi ht hc hfi
   have:=hf i f hfi
   rw[ht,hc,List.getElem?_eq_getElem (by omega)]at this
   exact⟨_,this⟩
  obtain⟨y0,h0⟩:=g 0 f0 c0 k (by omega) hT.t0.1 (by rw[hT.t0.2,hT.c0];rfl) rfl
  obtain⟨y1,h1⟩:=g 1 f1 c1 nm (by omega) hT.t1.1 (by rw[hT.t1.2,hT.c1];rfl) rfl
  obtain⟨y2,h2⟩:=g 2 f2 c2 vl (by omega) hT.t2.1 (by rw[hT.t2.2,hT.c2];rfl) rfl
  obtain⟨y3,h3⟩:=g 3 f3 c3 bl (by omega) hT.t3.1 (by rw[hT.t3.2,hT.c3];rfl) rfl
  obtain⟨y4,h4⟩:=g 4 f4 c4 s (by omega) hT.t4.1 (by rw[hT.t4.2,hT.c4];rfl) rfl
  obtain⟨kk,e0,_,_⟩:=DataW.trod_int hT.ki h0
  obtain⟨ss,e1,_,hs⟩:=DataW.trod_string hT.na h1
  obtain⟨v,e2,_,hv⟩:=DataW.trod_int hT.va h2
  obtain⟨b,e3,_⟩:=DataW.trod_bool hT.bo h3
  simp only[List.cons.injEq,and_true]at e0 e1 e2 e3
  subst e0;subst e1;subst e2;subst e3
  have hvr:0≤v∧v<4294967296:=by
   have:=hv
   simp only[Lit.wf]at this
   have h':IntKind.u32.min≤v∧v≤IntKind.u32.max:=by simpa using this
   have e1:IntKind.u32.min=0:=by decide
   have e2:IntKind.u32.max=4294967295:=by decide
   omega
  have hsl: ∃l:List Tr,SlOk W c4 l∧ ∀x∈l,Wf W x:=by
   rcases DataW.trod_slice hT.sl h4 with⟨e4,_⟩|⟨a,len,cap,elems,rest,n2,hn2,e4,_,_,hle,hcap,hel,hget,hsp,_⟩
   ·simp only[List.cons.injEq,and_true]at e4
    subst e4
    exact⟨[],.nil,fun _ h=>by cases h⟩
   ·simp only[List.cons.injEq,and_true]at e4
    subst e4
    have hcap':cap<9223372036854775808:=by unfold maxLen at hcap;omega
    rw[hT.ct]at hget hsp
    refine kids_sl hle hcap' (fun i=>?_) fun j hj=>?_
    ·have:=hget i.1 i.2
     rw[List.getElem?_eq_getElem (by omega),Option.bind_eq_some_iff]at this
     obtain⟨cs',hc,ht⟩:=this
     obtain⟨N,hN,rfl⟩:=ih n2 (by omega) cs' _ ht
     exact⟨N,hN,hc⟩
    ·obtain⟨hrl,hr⟩:=hsp rfl
     have:=hr j hj
     rw[List.getElem?_eq_getElem (by omega),Option.bind_eq_some_iff]at this
     obtain⟨cs',hc,_⟩:=this
     exact⟨_,hc⟩
  obtain⟨l,hl1,hl2⟩:=hsl
  refine⟨.mk kk ss.data.toList v.toNat b c4 l,.mk (by omega) ?_ hl1 hl2,?_⟩
  ·unfold maxLen at hs
   have:ss.data.toList.length=ss.size:=Array.length_toList
   omega
  ·have:((v.toNat:Nat):Int)=v:=Int.toNat_of_nonneg hvr.1
   show[_,_,_,_,_]=[_,_,_,_,_]
   rw[show(Tr.mk kk ss.data.toList v.toNat b c4 l).value=v.toNat from rfl,this]
   rfl
end
theorem node_ty:NodeTy Tryz.prog 26 24 22 9 23 4 { name:= "Kind",type:=22,offset:=0,embedded:=false,tag:= "",pkgPath:= "",byteOffset:=0 } { name:= "Name",type:=9,offset:=1,embedded:=false,tag:= "",pkgPath:= "",byteOffset:=8 } { name:= "Value",type:=23,offset:=2,embedded:=false,tag:= "",pkgPath:= "",byteOffset:=24 } { name:= "Mark",type:=4,offset:=3,embedded:=false,tag:= "",pkgPath:= "",byteOffset:=28 } { name:= "Kids",type:=24,offset:=4,embedded:=false,tag:= "",pkgPath:= "",byteOffset:=32 } where
 st:=Tryz.underlying26
 sl:=Tryz.underlying24
 ki:=Tryz.underlying22
 na:=Tryz.underlying9
 va:=Tryz.underlying23
 bo:=Tryz.underlying4
 ct:=by kernel_rfl
 c0:=by kernel_rfl
 c1:=by kernel_rfl
 c2:=by kernel_rfl
 c3:=by kernel_rfl
 c4:=by kernel_rfl
 t0:=⟨rfl,rfl⟩
 t1:=⟨rfl,rfl⟩
 t2:=⟨rfl,rfl⟩
 t3:=⟨rfl,rfl⟩
 t4:=⟨rfl,rfl⟩
theorem wf_arg {H:Type} {enc:TypeId×Value→H} {W:World} {held:Bool} {v:Value} {d:DataW H} {p:List MemPlace} (h:DataW.Trod enc Tryz.prog W 0 (fun _=>true) held 26 v d p): ∃N:Tr,Wf W N∧v=N.val:=by
 obtain⟨fuel,hf⟩:=h
 obtain⟨N,hN,he⟩:=wf_trod node_ty fuel _ _ hf
 refine⟨N,hN,?_⟩
 cases v with
 |agg cs=>
  have:cs.toList=N.cells:=he
  rw[Tr.val,←this]
 |_=>exact absurd (congrArg List.length he) (by simp[Value.cells,Tr.cells])
end Go.Proofs
namespace Go.Proofs
open Go.RowKit
theorem equal_map_nil (P:Program) (w:World) (d:Nat) (t k e:TypeId) (p:Option Nat) (h:P.underlying t=some (.map k e)):
 (Op.equalIn (d+1) t (.map p) (.map none)).run P w= .ok p.isNone w:=by
 cases p<;>simp[Op.equalIn,run_underlying h]
theorem run_map_nil (P:Program) (w:World) (t k e:TypeId) (p:Option Nat) (h:P.underlying t=some (.map k e)):
 (binOp .eql t (.map p) (.map none)).run P w= .ok (.bool p.isNone) w:=by
 simp only[binOp]
 simp[show Op.equal t (.map p) (.map none)=Op.equalIn (9999+1) t (.map p) (.map none)from rfl,equal_map_nil P w 9999 t k e p h]
theorem run_assert_map (P:Program) (w:World) (t xT k e:TypeId) (v:Value) (h:P.underlying t=some (.map k e)):(Instr.typeAssert (.iface t v) xT t false).run P w= .ok v w:=by
 simp[Instr.typeAssert,run_underlying h,go_sem,Result.andThen]
theorem run_clone (P:Program) (w:World) {r:Nat} {es:Array MapEntry} {clock:Nat} (t:TypeId) (hb:w.heap[r]? =some (.map es clock)):
 (Extern.MapsClone.clone #[.iface t (.map (some r))]).run P w= .ok (.iface t (.map (some w.heap.size))) (w.alloc (.map es clock)):=by
 have e:Extern.MapsClone.clone #[.iface t (.map (some r))]=(getObj r>>=fun o=>match o with
  | .map entries clock=>(newObj (.map entries clock)>>=fun n=>pure (.iface t (.map (some n))))
  |_=>stuck "maps.clone: a map expected"):=rfl
 rw[e]
 simp[MapKept.run_getObj_map hb,Result.andThen,go_sem]
set_option maxRecDepth 100000 in
set_option maxHeartbeats 2000000 in
theorem Tryz.clone (b:Nat) (es:Array MapEntry) (clock:Nat) (w:World) (hb:w.heap[b]? =some (.map es clock)):
 Calls Tryz.prog 149 #[.map (some b)] w fun e w'=>e= .returned (.map (some w.heap.size))∧w'=w.alloc (.map es clock):=by
 have hq:=fun w=>run_map_nil Tryz.prog w 155 _ _ (some b) Tryz.underlying155
 go_enter Tryz.func149,Tryz.ntmps149
 go_wp2
 rw[run_callFunc_extern Tryz.func234 (by kernel_rfl) (by kernel_rfl) (by kernel_rfl) (e:=Extern.MapsClone.clone) (by kernel_rfl),run_clone Tryz.prog w 155 hb]
 simp only[Result.andThen]
 rw[Oper.upon_value]
 go_wp2
 rw[run_assert_map Tryz.prog _ 155 20 _ _ _ Tryz.underlying155]
 simp only[Result.andThen]
 rw[Oper.upon_value]
 go_wp2
 go_ret
 exact⟨rfl,rfl⟩
open Go.AM in
theorem Tryz.k_clone (W:World):KOk Tryz.prog (.of W) kClone 149:=clone_ok Tryz.clone
theorem cell?_of_block {w w':World} {a:Addr} (h:w'.heap[a.block]? =w.heap[a.block]?):w'.cell? a=w.cell? a:=by
 simp only[World.cell?,h]
theorem heap_pos {W:World} (h:W.ShapedOpen Tryz.prog):0<W.heap.size:=by
 obtain⟨m,hm⟩:=Tryz.laysM144.s1_3 W h
 rcases Nat.eq_zero_or_pos W.heap.size with e|e
 ·exfalso
  have:W.heap[0]? =none:=by simp[e]
  simp[World.cell?,Tryz.laysM144_ren,this]at hm
 ·exact e
theorem Tryz.contains (W:World) (h:W.ShapedOpen Tryz.prog) (s sub:ByteArray) (w:World) (hsame: ∀b,b<W.heap.size→w.heap[b]? =W.heap[b]?) (hs:s.size<4294967281):
 Calls Tryz.prog 152 #[.string s,.string sub] w fun e w'=>e= .returned (.bool (Go.Lib.contains s.data.toList sub.data.toList))∧w'=w:=by
 obtain⟨m,hm⟩:=Tryz.laysM144.s1_3 W h
 refine Tryz.strings_Contains s sub m w hs ?_
 rw[cell?_of_block (hsame 0 (heap_pos h))]
 exact hm
open Go.AM in
theorem Tryz.k_contains (W:World) (h:W.ShapedOpen Tryz.prog):KOk Tryz.prog (.of W) kContains 152:=contains_ok fun s sub w _ hsame hs=>Tryz.contains W h s sub w hsame hs
theorem contains_world {W:World} (h:W.ShapedOpen Tryz.prog):ContainsOk W:=fun s sub w hw hs=>Tryz.contains W h s sub w hw.same hs
theorem Tryz.mixed_orders:Tryz.prog.follows .mixedOrders=true:=by kernel_rfl
end Go.Proofs
namespace Go.Proofs
open Go.RowKit
open Go.AM (KeepW Tr Wf RealPure)
theorem big_real {W:World} {N:Tr} (hw:Wf W N):RealPure Tryz.prog W 4 [N.val,.int .i64 200] (.int .i64 (bigF N 200)):=fun w hkw=>Tryz.bigAll W N hw 200 (by omega) (by omega) w hkw
set_option maxHeartbeats 2000000 in
set_option maxRecDepth 1000000 in
theorem Tryz.neg {W:World} (kd:Int) (nm:List UInt8) (vl:Nat) (mk:Bool) (sl:Value) (r:Int) (hr:r<0) (w:World) (hkw:KeepW W w)
 (hb: ∀w,KeepW W w→Calls Tryz.prog 4 #[.agg #[.int .i64 kd,.string ⟨nm.toArray⟩,.int .u32 (vl:Nat),.bool mk,sl],.int .i64 200] w fun e w'=>e= .returned (.int .i64 r)∧KeepW w w')
 (hk: ∀w,KeepW W w→Calls Tryz.prog 5 #[] w fun e w'=>e= .returned (.bool true)∧KeepW w w'):
 Calls Tryz.prog 3 #[.agg #[.int .i64 kd,.string ⟨nm.toArray⟩,.int .u32 (vl:Nat),.bool mk,sl]] w fun e w'=>e= .returned (.bool true)∧KeepW w w':=by
 have hkA:=fun o=>keep_alloc w o
 go_enter Tryz.func3,Tryz.ntmps3
 go_wp2_with (first
  |(go_at_call 4;refine(hb _ (hkw.trans (hkA _))).mono ?_;rintro e w1 ⟨rfl,hk1⟩)
  |(go_at_call 5;refine(hk _ ((hkw.trans (hkA _)).trans hk1)).mono ?_;rintro e w2 ⟨rfl,hk2⟩))
 all_goals (go_ret;exact⟨rfl,((hkA _).trans hk1).trans hk2⟩)
theorem neg_real {W:World} {N:Tr} (hw:Wf W N) (hb:bigF N 200<0) (hk:RealPure Tryz.prog W 5 [] (.bool true)):RealPure Tryz.prog W 3 [N.val] (.bool true):=by
 obtain⟨kd,nm,v,mk,sl,l⟩:=N
 intro w hkw
 exact Tryz.neg kd nm v mk sl _ hb w hkw (big_real hw) hk
end Go.Proofs
namespace Go.Proofs
open Go.RowKit
open Go.AM (KeepW Tr Wf RealPure TS MS MSok TSok TabOk TabK TopWorlds TopRuns kTop1 kBase KnownOk KOk candT rowsK desT facT levT mayT tabOk rowsM rowRunM objRun tsC S746 S1266 S1268 S1270 S1271 M11 M12 M21 M22 M31 M32 M51 M52 rng ptrV sameV)
noncomputable def tsMemB (S:TS):Bool:=(List.range 7).all fun i=>(match(Go.AM.ofL S.pre .leaf).get S.c with
 |some (.blk b)=>Nat.blt b.st 2&&(Nat.blt (Nat.add 2 i) b.n&&(match b.c.get (Nat.add 2 i)with|some v=>sameV 60 v (ptrV (S.basic (Nat.succ i)))|none=>false))
 |_=>false)&&(match(Go.AM.ofL S.pre .leaf).get (S.basic (Nat.succ i))with
 |some (.blk b)=>Nat.blt b.st 2&&(Nat.blt 0 b.n&&(match b.c.get 0 with|some v=>sameV 60 v (.int .i64 (Nat.succ i:Nat))|none=>false))
 |_=>false)
theorem tsMem_of {S:TS} (h:tsMemB S=true):TSmem S:=by
 have g: ∀f,1≤f→f≤7→ ∃i,i<7∧f=Nat.succ i:=fun f h1 h2=>⟨f - 1,by omega,by show f=f - 1+1;omega⟩
 refine⟨fun f h1 h2=>?_,fun f h1 h2=>?_⟩
 ·obtain⟨i,hi,rfl⟩:=g f h1 h2
  have:=rng h i hi
  simp only[Bool.and_eq_true]at this
  have t:=this.1
  split at t
  ·rename_i b hb
   simp only[Bool.and_eq_true,Nat.blt_eq]at t
   obtain⟨a1,a2,a3⟩:=t
   split at a3
   ·rename_i v hv
    refine⟨b,hb,a1,by have:Nat.add 2 i=2+i:=rfl;show 1+(i+1)<b.n;omega,?_⟩
    rw[show 1+Nat.succ i=Nat.add 2 i by show 1+(i+1)=2+i;omega,hv,Go.AM.sameV_eq _ _ _ a3]
   ·cases a3
  ·cases t
 ·obtain⟨i,hi,rfl⟩:=g f h1 h2
  have:=rng h i hi
  simp only[Bool.and_eq_true]at this
  have t:=this.2
  split at t
  ·rename_i b hb
   simp only[Bool.and_eq_true,Nat.blt_eq]at t
   obtain⟨a1,a2,a3⟩:=t
   split at a3
   ·rename_i v hv
    exact⟨b,hb,a1,a2,by rw[hv,Go.AM.sameV_eq _ _ _ a3]⟩
   ·cases a3
  ·cases t
structure Ran:Prop where
 t1:tabOk Tryz.prog 154 (rowsK candT desT (desT 64))=true
 t2:tabOk Tryz.prog 53 (rowsK candT facT (facT 64))=true
 t3:tabOk Tryz.prog 21 (rowsK candT levT (levT 64))=true
 t4:tabOk Tryz.prog 12 (rowsK candT mayT (mayT 64))=true
 typ:TabOk Tryz.prog tsC
 memC:TSmem tsC
 kty: ∀ {S:TS},S=S746∨S=S1266∨S=S1268∨S=S1270∨S=S1271→TabK Tryz.prog S∧TSmem S
 mean: ∀ {M:MS},M=M11∨M=M12∨M=M21∨M=M22∨M=M31∨M=M32∨M=M51∨M=M52→MSok M∧(∀r∈rowsM,rowRunM Tryz.prog M r=true)∧ ∀p,p<6→objRun Tryz.prog M p=true
 worlds:TopWorlds
 runs:TopRuns Tryz.prog
 known: ∀ {W:World},KnownOk Tryz.prog (kTop1 Tryz.prog) (.of W)→RealPure Tryz.prog W 5 [] (.bool true)
theorem kOk_at {W:World} {σ:Nat→Option Go.AM.Loc} {F:List Value→Go.AM.S→Option Go.AM.KRes} {f:FuncId} (h:KOk Tryz.prog (.of W) F f):KOk Tryz.prog (.at W σ) F f:=
 fun cs args s r hF ι w args' hini=>h cs args s r hF ι w args' ⟨hini.size,hini.same,hini.own,hini.out,hini.os,hini.tape,fun i v hv=>(by cases hv),fun i l hl=>by cases hl⟩
theorem law {W:World} (R:Ran) (h:W.ShapedOpen Tryz.prog) {N:Tr} (hw:Wf W N):RealPure Tryz.prog W 3 [N.val] (.bool true):=by
 have hmix:=Tryz.mixed_orders
 have h0:=heap_pos h
 have hB: ∀σ,KnownOk Tryz.prog kBase (.at W σ):=fun σ=>(Go.AM.noK_ok).withK (kOk_at (Tryz.k_contains W h))
 have hT0: ∀σ,KnownOk Tryz.prog Go.AM.kTop0 (.at W σ):=fun σ=>(hB σ).withK (kOk_at (Tryz.k_clone W))
 have hT1: ∀σ,KnownOk Tryz.prog (kTop1 Tryz.prog) (.at W σ):=fun σ=>(hT0 σ).withK (Go.AM.forkK_ok (hT0 σ) hmix 5000 false 310)
 have hTo:KnownOk Tryz.prog (kTop1 Tryz.prog) (.of W):=by
  have a:KnownOk Tryz.prog Go.AM.kTop0 (.of W):=((Go.AM.noK_ok (w0:= .of W)).withK (Tryz.k_contains W h)).withK (Tryz.k_clone W)
  exact a.withK (Go.AM.forkK_ok a hmix 5000 false 310)
 have hk:=R.known hTo
 by_cases hneg:bigF N 200<0
 ·exact neg_real hw hneg hk
 ·obtain⟨b1,b2,b3⟩:=bigF_ans N 200 (by omega)
  have hb:((bigF N 200).toNat:Int)=bigF N 200:=Int.toNat_of_nonneg (by omega)
  obtain⟨g,hg⟩:=keyword_fn (contains_world h)
  have hA:=arith W
  have htree:=Go.AM.tree_ok hmix hB h0 R.t1 R.t2 R.t3 R.t4 (Go.AM.allK_ok Go.AM.named1) (Go.AM.allK_ok Go.AM.named2) (Go.AM.allK_ok Go.AM.named3) (Go.AM.allK_ok Go.AM.named4) (tree_name hg) tree_text tree_all N hw
  refine Go.AM.law_ok (F:=theF) ⟨hmix,hT1,h0,hw,hk,env_letter,htree.may,R.typ.ok,fun hm=>Go.AM.typ_all hmix hA h0 R.typ Go.AM.namedOk (set_ok R.memC) N hw hm,fun hS=>⟨(R.kty hS).1.ok,fun hkt=>Go.AM.kty_ok hmix hA (R.kty hS).1 h0 (set_known (R.kty hS).2) hkt hw⟩,
   fun hM _ _ _ hkt=>Go.AM.mean_ok (mean_env hmix h0 (R.mean hM).1 (R.mean hM).2.1 (R.mean hM).2.2) hkt hw,R.worlds,R.runs⟩ (bg:=(bigF N 200).toNat) ?_ (by omega) (by omega)
  rw[hb]
  exact big_real hw
end Go.Proofs

/- The machine, part 2. No conditions of its own: each theorem bears its own. -/
import Derived.Test.YthmpeecooedidaaGreatMa
import Derived.Laws.BytesString
import Derived.Lib.ConvBytes
import Derived.AtR
import Derived.Orders
import Derived.Defers
import Derived.Recover
set_option linter.unusedSimpArgs false
set_option linter.unusedVariables false
namespace Go.AM
noncomputable section
variable {P:Program} {o:Oper} {ι:Inj} {s:S} {w:World}
theorem bytesStr_spec: ∀ {l:List Value} {b:List UInt8},bytesStr l=some b→ ∃ns:List Int,l=ns.map (Value.int .u8)∧b=ns.map fun n=>UInt8.ofNat n.toNat
 |[],b,h=>by simp only[bytesStr,Option.some.injEq]at h;subst h;exact⟨[],rfl,rfl⟩
 |v::l,b,h=>by
  cases v with
  |int k n=>
   cases k<;>simp only[bytesStr]at h<;>try (cases h;done)
   cases hl:bytesStr l with
   |none=>simp[hl]at h
   |some b'=>
    simp only[hl,Option.some.injEq]at h;subst h
    obtain⟨ns,e1,e2⟩:=bytesStr_spec hl
    exact⟨n::ns,by simp[e1],by simp[e2]⟩
  |_=>simp[bytesStr]at h
theorem VRelL.ints {ι:Inj} : ∀ {ns:List Int} {l':List Value},VRelL ι (ns.map (Value.int .u8)) l'→l'=ns.map (Value.int .u8)
 |[],_,.nil=>rfl
 |n::ns,_,.cons h1 h2=>by rw[h1.int_inv,h2.ints];rfl
theorem push_foldl (ns:List Int): ∀(b:ByteArray),ns.foldl (fun r n=>r.push (UInt8.ofNat n.toNat)) b=⟨(b.data.toList++ns.map fun n=>UInt8.ofNat n.toNat).toArray⟩:=by
 induction ns with
 |nil=>intro b;simp
 |cons n ns ih=>
  intro b
  simp only[List.foldl_cons,ih]
  apply ByteArray.ext
  simp[ByteArray.push]
theorem strBytes_eq (l:List UInt8):strBytes l=l.map fun b=>Value.int .u8 b.toNat:=by
 induction l with
 |nil=>rfl
 |cons b l ih=>simp[strBytes,ih]
theorem grownCap_le (w:World) (n old e:Nat):n≤grownCap w n old e:=by unfold grownCap Question.cut;simp
theorem bytes_push (w:World) (e:TypeId) (b:ByteArray):WPush w (Lib.bytesWorld w e b) (.cells (Lib.bytesCells w e b) e ((Lib.bytesCells w e b).size,(Lib.bytesCells w e b).size+1)):=by
 refine⟨Lib.bytesWorld_at_new w e b,fun c hc=>Lib.bytesWorld_at_old w e b c hc,Lib.bytesWorld_size w e b,?_,?_,?_⟩<;>
  simp[Lib.bytesWorld,World.freeze,World.alloc,World.drew,-World.alloc_eq,-World.drew_eq]
theorem freeze_put {w:World} {b:Nat} {cells:Array Value} {e:TypeId} {fr:Nat×Nat} (h:w.heap[b]? =some (.cells cells e fr)):
 WPut w (w.freeze ⟨b,cells.size,none⟩ 1) b (.cells cells e (if fr.1==fr.2 then(cells.size,cells.size+1)else(min fr.1 cells.size,max fr.2 (cells.size+1)))):=by
 obtain⟨lo,hi⟩:=fr
 refine⟨?_,fun c hc=>?_,?_,rfl,rfl,rfl⟩
 ·simp[World.freeze,Array.getElem?_modify,h]
 ·simp[World.freeze,Array.getElem?_modify,Ne.symm hc]
 ·simp[World.freeze]
theorem ok_convert {src dst:TypeId} {x:Operand} (ho:o.op= .convert src dst x):RunOk P o (cr P (.convert src dst x)):=by
 simp only[cr]
 cases hx:opdOk x with
 |false=>exact RunOk.no _ _
 |true=>
  simp only[cond_true]
  have hops: ∀ι g ρ,ORho ι g ρ o.op.operands.toList→VRel ι (ev g x) (ρ x):=fun ι g ρ hr=>hr x (by simp[ho,Op.operands]) hx
  cases hs:P.underlying src with
  |none=>exact RunOk.no _ _
  |some ds=>
   cases hd:P.underlying dst with
   |none=>cases ds<;>exact RunOk.no _ _
   |some dd=>
    have hint: ∀k,dd= .int k→PuOk P o (fun g=>match ev g x with| .int _ n=>some (.int k (wrapF k n))| .chan (some m)=>symConv k m|_=>none):=by
     intro k hk ι g ρ v hv hr
     subst hk
     have hrx:=hops ι g ρ hr
     simp only[]at hv
     cases he:ev g x with
     |int kk n=>
      simp only[he,Option.some.injEq]at hv;subst hv
      rw[he]at hrx
      have e:=hrx.int_inv
      refine⟨_,.int _ _,fun w=>?_⟩
      simp only[execOp,ho,e,convert,Sem.run_bind,run_underlying hs,run_underlying hd,Result.andThen_ok]
      cases ds<;>simp[Conv.intToInt,wrapF_eq]
     |chan q=>
      cases q with
      |none=>simp[he]at hv
      |some m=>
       simp only[he]at hv
       rw[he]at hrx
       obtain⟨k',N,e,hrel⟩:=symConv_ok hv hrx
       refine⟨_,hrel,fun w=>?_⟩
       simp only[execOp,ho,e,convert,Sem.run_bind,run_underlying hs,run_underlying hd,Result.andThen_ok]
       cases ds<;>simp[Conv.intToInt,wrapF_eq]
     |_=>simp[he]at hv
    cases dd with
    |int k=>cases ds<;>exact hint k rfl
    |string=>
     cases ds with
     |string=>
      intro ι g ρ v hv hr
      have hrx:=hops ι g ρ hr
      simp only[]at hv
      cases he:ev g x<;>simp only[he]at hv<;>try (cases hv;done)
      simp only[Option.some.injEq]at hv;subst hv
      rw[he]at hrx
      have e:=hrx.string_inv
      exact⟨_,.string _,fun w=>by simp[execOp,ho,e,convert,run_underlying hs,run_underlying hd]⟩
     |slice e=>
      simp only[]
      cases heu:P.underlying e with
      |none=>exact RunOk.no _ _
      |some de=>
       cases de with
       |int k=>
        cases k with
        |u8=>
         intro ι s w g ρ v hv hS hr
         have hrx:=hops ι g ρ hr
         simp only[]at hv
         cases he:ev g x with
         |slice a n c=>
          rw[he]at hrx
          cases a with
          |none=>
           simp only[he,Option.some.injEq]at hv;subst hv
           have e1:=hrx.nilslice_inv
           refine⟨_,.string _,?_⟩
           simp[execOp,ho,e1,run_convert_bytes_string w src dst e none n c hs heu hd,Conv.bytesToString]
          |some a=>
           simp only[he]at hv
           cases hl:s.load a.block a.off n with
           |none=>simp[hl]at hv
           |some vs=>
            simp only[hl]at hv
            cases hb:bytesStr vs with
            |none=>simp[hb]at hv
            |some b=>
             simp only[hb,Option.some.injEq]at hv;subst hv
             obtain⟨l,off',c',hi,hnc,hcc,_,_,hoff,e1⟩:=hrx.slice_inv
             obtain⟨vs',h1,h2,h3⟩:=load_rel hS hi hl
             obtain⟨ns,q1,q2⟩:=bytesStr_spec hb
             rw[q1]at h1
             have hvs:=h1.ints
             refine⟨_,.string _,?_⟩
             have hrun:(loadCells ⟨l.blk,off',none⟩ n).run P w= .ok (ns.map (Value.int .u8)).toArray w:=by
              by_cases hc0:c'=0
              ·have hn0:n=0:=by omega
               have hns:ns=[]:=by
                have:vs'.length=0:=by omega
                rw[hvs]at this;simpa using this
               subst hns;rw[hn0];rfl
              ·rw[hoff hc0]
               have:=run_loadCells_list (P:=P) w ⟨l.blk,l.base+a.off,none⟩ vs' h3
               rw[h2,hvs]at this;exact this
             have hfin:=run_bytesToString (P:=P) w ⟨l.blk,off',none⟩ n c' ns hrun
             rw[push_foldl]at hfin
             simp only[execOp,ho,e1,Sem.run_bind,run_convert_bytes_string w src dst e _ n c' hs heu hd,hfin,Result.andThen_ok,Sem.run_pure,q2]
             rfl
         |_=>simp[he]at hv
        |_=>exact RunOk.no _ _
       |_=>exact RunOk.no _ _
     |_=>exact RunOk.no _ _
    |slice e=>
     cases ds with
     |string=>
      simp only[]
      cases heu:P.underlying e with
      |none=>exact RunOk.no _ _
      |some de=>
       cases de with
       |int k=>
        cases k with
        |u8=>
         cases hsz:szOf P e with
         |none=>exact RunOk.no _ _
         |some n=>
          match n with
          |0=>exact RunOk.no _ _
          |n+2=>exact RunOk.no _ _
          |1=>
           intro ι g ρ ob mk hv hr
           have hrx:=hops ι g ρ hr
           simp only[]at hv
           cases he:ev g x<;>simp only[he]at hv<;>try (cases hv;done)
           rename_i b
           simp only[Option.some.injEq,Prod.mk.injEq]at hv
           obtain⟨rfl,rfl⟩:=hv
           rw[he]at hrx
           have e1:=hrx.string_inv
           refine⟨newB_par _ _,fun w=>⟨(Lib.bytesCells w e b).size,_,_,.slice (some ⟨w.heap.size,0,none⟩) b.size (grownCap w b.size 0 e),bytes_push w e b,?_,?_⟩⟩
           ·simp only[execOp,ho,e1,Sem.run_bind,Lib.run_convert_string_bytes w src dst e b hs hd heu,Result.andThen_ok,Sem.run_pure]
           ·intro ι' bb hx' hbb
            have hbs:b.data.size=b.size:=rfl
            have hge:=grownCap_le w b.size 0 e
            have hcs:(Lib.bytesCells w e b).size=grownCap w b.size 0 e:=by simp[Lib.bytesCells];omega
            refine⟨newB_rel _ ?_ ?_ rfl (.inr ⟨rfl,by simp[isU8,heu]⟩),?_⟩
            ·rw[strBytes_eq]
             have:(Lib.bytesCells w e b).toList.take (b.data.toList.map fun x=>Value.int .u8 (x.toNat:Int)).length=b.data.toList.map fun x=>Value.int .u8 (x.toNat:Int):=by
              simp[Lib.bytesCells]
             rw[this]
             have hpl: ∀l:List UInt8,VRelL ι' (l.map fun x=>Value.int .u8 (x.toNat:Int)) (l.map fun x=>Value.int .u8 (x.toNat:Int)):=by
              intro l
              induction l with
              |nil=>exact .nil
              |cons a l ih=>exact .cons (.int _ _) ih
             exact hpl _
            ·rw[strBytes_eq];simp;omega
            ·exact VRel.slice hbb (Nat.le_refl _) hge (fun h=>by cases h) (fun z hz _=>by cases hz;simp[hcs]) (fun _=>rfl)
        |_=>exact RunOk.no _ _
       |_=>exact RunOk.no _ _
     |slice e'=>
      cases hsd:Nat.beq src dst with
      |false=>exact RunOk.no _ _
      |true=>
       simp only[cond_true]
       have hsd':=Nat.eq_of_beq_eq_true hsd
       subst hsd'
       have hee:e'=e:=by rw[hs]at hd;cases hd;rfl
       subst hee
       cases heu:P.underlying e' with
       |none=>exact RunOk.no _ _
       |some de=>
        cases de with
        |int k=>
         cases k with
         |u8=>
          intro hb ι s w g ρ hS hn hlo hr
          have hrx:=hops ι g ρ hr
          cases he:ev g x with
          |slice a n c=>
           cases a with
           |none=>simp only[he];trivial
           |some a=>
            simp only[he]
            cases hbk:s.blk? a.block with
            |none=>trivial
            |some bk=>
             rw[he]at hrx
             obtain⟨l,off',c',hi,hnc,hcc,hex,hop,hoff,e1⟩:=hrx.slice_inv
             rw[S.blk?_eq]at hbk
             cases hlt:Nat.blt bk.st 2&&isU8 P bk.elem with
             |false=>simp only[hlt,cond_false];trivial
             |true=>
             simp only[hlt,cond_true]
             simp only[Bool.and_eq_true,Nat.blt_eq]at hlt
             obtain⟨hlt',hu8⟩:=hlt
             simp only[HdPost,ValPost]
             have hconv:(execOp ρ o).run P w=((markStringish ⟨l.blk,off',none⟩).run P w).andThen fun _ w'=> .ok (.value (.slice (some ⟨l.blk,off',none⟩) n c')) w':=by
              simp only[execOp,ho,e1,convert,Sem.run_bind,run_underlying hs,run_underlying hd,Result.andThen_ok,beq_self_eq_true]
              simp only[run_underlying heu,Sem.run_bind,Result.andThen_ok,Sem.run_pure]
              cases (markStringish ⟨l.blk,off',none⟩).run P w<;>rfl
             obtain⟨o',ho',hro⟩:=hS.obj a.block l _ hi hbk
             cases o' with
             |cells cells ce fr=>
              refine⟨ι,w.freeze ⟨l.blk,cells.size,none⟩ 1,.slice (some ⟨l.blk,off',none⟩) n c',.inl ?_,by rw[e1]at hrx;exact hrx,?_,?_⟩
              ·rw[hconv]
               simp[markStringish,World.shape?,ho']
              ·refine hS.touch (freeze_put ho') ?_
               intro id l2 o2 h1 h2 h3
               obtain⟨o3,q1,q2⟩:=hS.obj id l2 o2 h1 h3
               rw[h2,ho']at q1;cases q1
               have hce:isU8 P ce=true:=by
                cases hro with
                |dead _ x=>simp only at hlt';omega
                |blk _ _ _ _=>exact hu8
               cases q2 with
               |dead _ x=>exact .dead _ x
               |blk b1 b2 b3 b4=>
                refine .blk b1 b2 b3 (.inr ⟨?_,hce⟩)
                rcases b4 with rfl|⟨rfl,_⟩
                ·simp[b1]
                ·simp[b1]
               |ext b1 b2=>exact .ext b1 b2
               |row b1 b2=>
                refine .row b1 (.inr ⟨?_,hce⟩)
                rcases b2 with rfl|⟨rfl,_⟩
                ·simp[b1]
                ·simp[b1]
              ·exact Fm.touch ⟨a.block,l,_,hi,rfl,hbk,hlt'⟩ (freeze_put ho')
             |_=>
              refine⟨ι,w,.slice (some ⟨l.blk,off',none⟩) n c',.inl ?_,by rw[e1]at hrx;exact hrx,hS,Fm.refl _ _ _ _⟩
              rw[hconv]
              simp[markStringish,World.shape?,ho']
          |_=>simp only[he];trivial
         |_=>exact RunOk.no _ _
        |_=>exact RunOk.no _ _
     |_=>exact RunOk.no _ _
    |_=>cases ds<;>exact RunOk.no _ _
end
end Go.AM
namespace Go.AM
noncomputable section
variable {P:Program} {o:Oper} {ι:Inj} {s:S} {w:World}
theorem WPut.trans {w w' w'':World} {b:Nat} {o o':Obj} (h:WPut w w' b o) (k:WPut w' w'' b o'):WPut w w'' b o':=
 ⟨k.at_,fun c hc=>by rw[k.other c hc,h.other c hc],by rw[k.size,h.size],by rw[k.os,h.os],by rw[k.out,h.out],by rw[k.tape,h.tape]⟩
theorem setCell_put {w:World} {b i:Nat} {cells:Array Value} {e:TypeId} {fr:Nat×Nat} (h:w.heap[b]? =some (.cells cells e fr)) (v:Value):
 WPut w (w.setCell ⟨b,i,none⟩ v) b (.cells (cells.setIfInBounds i v) e fr):=by
 refine⟨?_,fun c hc=>?_,?_,rfl,rfl,rfl⟩
 ·simp[World.setCell,Array.getElem?_modify,h]
 ·simp[World.setCell,Array.getElem?_modify,Ne.symm hc]
 ·simp[World.setCell]
def setAll (cur:Array Value):Nat→List Value→Array Value
 |_,[]=>cur
 |i,v::vs=>setAll (cur.setIfInBounds i v) (i+1) vs
theorem setAll_size: ∀(vs:List Value) (cur:Array Value) (i:Nat),(setAll cur i vs).size=cur.size
 |[],_,_=>rfl
 |v::vs,cur,i=>by simp[setAll,setAll_size vs]
theorem setAll_get: ∀(vs:List Value) (cur:Array Value) (i k:Nat),i+vs.length≤cur.size→(setAll cur i vs)[k]? =if i≤k∧k<i+vs.length then vs[k - i]? else cur[k]?
 |[],cur,i,k,h=>by simp[setAll];intro h1 h2;omega
 |v::vs,cur,i,k,h=>by
  simp only[setAll]
  simp only[List.length_cons]at h
  rw[setAll_get vs _ (i+1) k (by simp;omega)]
  by_cases h1:i+1≤k∧k<i+1+vs.length
  ·rw[if_pos h1,if_pos (by simp;omega)]
   obtain⟨j,rfl⟩: ∃j,k=i+1+j:=⟨k - (i+1),by omega⟩
   rw[show i+1+j - (i+1)=j by omega,show i+1+j - i=j+1 by omega];rfl
  ·rw[if_neg h1]
   by_cases h2:k=i
   ·subst h2
    rw[if_pos (by simp)]
    rw[Array.getElem?_setIfInBounds_self_of_lt (by omega)]
    simp
   ·rw[if_neg (by simp;omega),Array.getElem?_setIfInBounds_ne (Ne.symm h2)]
theorem run_storeCells_any {b off:Nat} {e:TypeId} {fr:Nat×Nat} : ∀(vs:List Value) (i:Nat) (cur:Array Value) (w:World),w.heap[b]? =some (.cells cur e fr)→
 (fr=(0,0)∨fr=(cur.size,cur.size+1))→off+i+vs.length≤cur.size→(∀v∈vs,v.oneCell'=true)→
 ∃w',(storeCells ⟨b,off,none⟩ vs i).run P w= .ok () w'∧WPut w w' b (.cells (setAll cur (off+i) vs) e fr)
 |[],i,cur,w,h,_,_,_=>⟨w,rfl,⟨h,fun _ _=>rfl,rfl,rfl,rfl,rfl⟩⟩
 |v::vs,i,cur,w,h,hf,hl,hv=>by
  have hc:w.cell? ⟨b,off+i,none⟩=cur[off+i]? :=cell_of_heap h
  simp only[List.length_cons]at hl
  have hlt:off+i<cur.size:=by omega
  have hfz:w.frozen? ⟨b,off+i,none⟩=false:=by
   rw[frozen_of_heap h]
   rcases hf with rfl|rfl
   ·simp
   ·have: ¬cur.size≤off+i:=by omega
    simp[this]
  have hput:=setCell_put (i:=off+i) h v
  obtain⟨w',h1,h2⟩:=run_storeCells_any (b:=b) (off:=off) (e:=e) (fr:=fr) vs (i+1) (cur.setIfInBounds (off+i) v) _ hput.at_ (by simpa using hf) (by simp;omega) (fun u hu=>hv u (by simp[hu]))
  refine⟨w',?_,hput.trans ?_⟩
  ·simp only[storeCells,Sem.run_bind,Addr.add_none,run_store P w _ v _ (hv v (by simp)),hc,Array.getElem?_eq_getElem hlt,hfz,Bool.false_eq_true,if_false,Result.andThen_ok]
   exact h1
  ·simpa[setAll,Nat.add_assoc]using h2
theorem storeL_spec {n:Nat} : ∀ {vs:List Value} {c c':T Value} {i:Nat},storeL c n vs i=some c'→
 (vs=[]∨i+vs.length≤n)∧ ∀k,c'.get k=if i≤k∧k<i+vs.length then vs[k - i]? else c.get k
 |[],c,c',i,h=>by
  simp only[storeL,Option.some.injEq]at h;subst h
  refine⟨.inl rfl,fun k=>?_⟩
  rw[if_neg (by simp only[List.length_nil];omega)]
 |v::vs,c,c',i,h=>by
  simp only[storeL]at h
  cases hb:Nat.blt i n with
  |false=>rw[hb]at h;cases h
  |true=>
   rw[hb]at h;simp only[cond_true]at h
   simp only[Nat.blt_eq]at hb
   obtain⟨h1,h2⟩:=storeL_spec h
   refine⟨.inr ?_,fun k=>?_⟩
   ·rcases h1 with rfl|h1
    ·simp;omega
    ·simp;omega
   ·rw[h2 k,T.get_set]
    by_cases hk:Nat.succ i≤k∧k<Nat.succ i+vs.length
    ·rw[if_pos hk,if_pos (by simp;omega)]
     obtain⟨j,rfl⟩: ∃j,k=i+1+j:=⟨k - (i+1),by omega⟩
     rw[show i+1+j - Nat.succ i=j by omega,show i+1+j - i=j+1 by omega];rfl
    ·rw[if_neg hk]
     by_cases e:k=i
     ·subst e;rw[if_pos rfl,if_pos (by simp)];simp
     ·rw[if_neg e,if_neg (by simp;omega)]
theorem cellOk_one {ι:Inj} {v v':Value} (h:cellOk v=true) (r:VRel ι v v'):v'.oneCell'=true:=by
 cases r<;>first|rfl|(rename_i hd;obtain⟨hd1,hd2,hd3⟩:=den_one hd;cases v'<;>first|rfl|exact absurd rfl (hd2 _)|exact absurd rfl (hd3 _))|simp[cellOk]at h
theorem allCells_one {ι:Inj} : ∀ {l l':List Value},allCells l=true→VRelL ι l l'→ ∀v∈l',v.oneCell'=true
 |_,_,_,.nil,v,hv=>by simp at hv
 |_,_,h,.cons a b,v,hv=>by
  simp only[allCells,Bool.and_eq_true]at h
  rcases List.mem_cons.1 hv with rfl|hm
  ·exact cellOk_one h.1 a
  ·exact allCells_one h.2 b v hm
theorem SRel.killed {hb:Nat} (h:SRel P ι s w) {b:Nat} {x:Blk} {s1:S} (hi:ι b≠none) (hg:s.h.get b=some (.blk x)) (hst:x.st=0) (hk:s.kill x.par=some s1):
 SRel P ι s1 w∧Fm hb ι s w ι s1 w∧s1.nx=s.nx∧s1.lo=s.lo∧s1.h.get b=some (.blk x)∧
  (∀id2 l l2 o2,ι b=some l→id2≠b→ι id2=some l2→l2.blk=l.blk→s1.h.get id2=some o2→Dead o2)∧
  (∀id2 o2,s1.h.get id2=some o2→ι id2≠none→ ¬Dead o2→ ¬Par o2 b):=by
 have hnd: ¬Dead (.blk x):=by simp[Dead,hst]
 have hchild: ∀id2 o2,s.h.get id2=some o2→ι id2≠none→ ¬Dead o2→ ¬Par o2 b:=by
  intro id2 o2 a c d e
  obtain⟨_,y⟩:=h.par id2 o2 b a c d e
  obtain⟨b',e1,e2⟩:=y _ hg
  cases e1;exact e2 hst
 obtain⟨xc,xn,xe,xp,xst⟩:=x
 cases xp with
 |none=>
  simp only[S.kill,Option.some.injEq]at hk;subst hk
  refine⟨h,Fm.refl _ _ _ _,rfl,rfl,hg,?_,hchild⟩
  intro id2 l l2 o2 hl hne hl2 hbl hg2
  rcases h.alias b id2 l l2 _ o2 (Ne.symm hne) hl hl2 hbl.symm hg hg2 with a|a|a|a
  ·exact absurd a hnd
  ·exact a
  ·simp[Par]at a
  ·by_cases hd:Dead o2
   ·exact hd
   ·exact absurd a (hchild id2 o2 hg2 (by rw[hl2];simp) hd)
 |some p=>
  have hpb:Par (.blk ⟨xc,xn,xe,some p,xst⟩) p:=rfl
  obtain⟨hip,_⟩:=h.par b _ p hg hi hnd hpb
  obtain⟨k1,k2,k3,k4,k5,bb,k6,k7⟩:=h.kill (hb:=hb) hk hip
  have hne:b≠p:=fun e=>by subst e;exact hchild b _ hg hi hnd hpb
  refine⟨k1,k2,k3,k4,by rw[k5 b hne];exact hg,?_,?_⟩
  ·intro id2 l l2 o2 hl hne2 hl2 hbl hg2
   by_cases e:id2=p
   ·subst e;rw[k6]at hg2;cases hg2;simp[Dead,k7]
   ·rw[k5 id2 e]at hg2
    rcases h.alias b id2 l l2 _ o2 (Ne.symm hne2) hl hl2 hbl.symm hg hg2 with a|a|a|a
    ·exact absurd a hnd
    ·exact a
    ·simp only[Par,Option.some.injEq]at a;exact absurd a.symm e
    ·by_cases hd:Dead o2
     ·exact hd
     ·exact absurd a (hchild id2 o2 hg2 (by rw[hl2];simp) hd)
  ·intro id2 o2 hg2 a c
   by_cases e:id2=p
   ·subst e;rw[k6]at hg2;cases hg2;exact absurd (by simp[Dead,k7]) c
   ·rw[k5 id2 e]at hg2;exact hchild id2 o2 hg2 a c
theorem store_rel {hb:Nat} (h:SRel P ι s w) {b off:Nat} {l:Loc} {vs vs':List Value} {s':S} (hi:ι b=some l) (hst:s.store b off vs=some s') (hr:VRelL ι vs vs') (hc:allCells vs=true):
 ∃w',(storeCells ⟨l.blk,l.base+off,none⟩ vs').run P w= .ok () w'∧SRel P ι s' w'∧Fm hb ι s w ι s' w'∧s'.nx=s.nx:=by
 unfold S.store at hst
 cases hbk:s.blk? b with
 |none=>simp[hbk]at hst
 |some x=>
  obtain⟨c,n,e,p,st⟩:=x
  simp only[hbk]at hst
  cases hk:Nat.beq st 0&&Nat.ble s.lo b with
  |false=>rw[hk]at hst;cases hst
  |true=>
   rw[hk]at hst;simp only[cond_true]at hst
   simp only[Bool.and_eq_true,Nat.beq_eq,Nat.ble_eq]at hk
   obtain⟨rfl,hlo⟩:=hk
   cases hsl:storeL c n vs off with
   |none=>simp[hsl]at hst
   |some c'=>
    cases hkl:s.kill p with
    |none=>simp[hsl,hkl]at hst
    |some s1=>
     simp only[hsl,hkl,Option.some.injEq]at hst;subst hst
     rw[S.blk?_eq]at hbk
     obtain⟨k1,k2,k3,k4,k5,k6,k7⟩:=h.killed (hb:=hb) (x:=⟨c,n,e,p,0⟩) (by rw[hi];simp) hbk rfl hkl
     obtain⟨cells,fr,h1,hsz,htop,h4,hfr⟩:=h.row hi hbk (by omega)
     obtain⟨hbd,hget⟩:=storeL_spec hsl
     have hlen:=hr.length
     by_cases hvs:vs=[]
     ·subst hvs
      cases hr
      have hput:WPut w w l.blk (.cells cells e fr):=⟨h1,fun _ _=>rfl,rfl,rfl,rfl,rfl⟩
      refine⟨w,rfl,k1.put hi k5 (fun q=>by simp[Par]) (fun id2 l2 o2 a b' c' d=>k6 id2 l l2 o2 hi a b' c' d) k7 hput ?_,k2.trans (Fm.put hi k5 (by simp[NotHole]) (by rw[k4];exact hlo) hput),by rw[S.put_nx,k3]⟩
      refine .blk hsz htop (fun i v hv hn=>?_) hfr
      rw[hget i,if_neg (by simp only[List.length_nil];omega)]at hv
      exact h4 i v hv hn
     ·have hbd':off+vs.length≤n:=hbd.resolve_left hvs
      obtain⟨w',r1,r2⟩:=run_storeCells_any (P:=P) (b:=l.blk) (off:=l.base+off) vs' 0 cells w h1 (by rw[hsz];exact hfr.or) (by omega) (allCells_one hc hr)
      simp only[Nat.add_zero]at r2
      refine⟨w',r1,k1.put hi k5 (fun q=>by simp[Par]) (fun id2 l2 o2 a b' c' d=>k6 id2 l l2 o2 hi a b' c' d) k7 r2 ?_,k2.trans (Fm.put hi k5 (by simp[NotHole]) (by rw[k4];exact hlo) r2),by rw[S.put_nx,k3]⟩
      refine .blk (by rw[setAll_size];exact hsz) htop (fun i v hv hn=>?_) hfr
      rw[hget i]at hv
      rw[setAll_get _ _ _ _ (by omega)]
      by_cases hin:off≤i∧i<off+vs.length
      ·rw[if_pos hin]at hv
       rw[if_pos (by omega)]
       obtain⟨v',x1,x2⟩:=hr.get hv
       exact⟨v',by rw[←x1];congr 1;omega,x2⟩
      ·rw[if_neg hin]at hv
       rw[if_neg (by omega)]
       exact h4 i v hv hn
theorem ok_store {t:TypeId} {a x:Operand} (ho:o.op= .store t a x):RunOk P o (cr P (.store t a x)):=by
 simp only[cr]
 cases hx:opdOk a&&opdOk x with
 |false=>exact RunOk.no _ _
 |true=>
  simp only[Bool.and_eq_true]at hx
  simp only[cond_true]
  cases hs:szOf P t with
  |none=>exact RunOk.no _ _
  |some n=>
   intro hb ι s w g ρ hS hn hlo hr
   have hra:=hr a (by simp[ho,Op.operands]) hx.1
   have hrx:=hr x (by simp[ho,Op.operands]) hx.2
   cases he:ev g a with
   |pointer p=>
    cases p with
    |none=>simp only[he];trivial
    |some p=>
     simp only[he]
     cases hc:cellsOf (ev g x)with
     |none=>trivial
     |some cs=>
      simp only[]
      cases hk:Nat.beq cs.length n&&allCells cs with
      |false=>trivial
      |true=>
       simp only[cond_true]
       simp only[Bool.and_eq_true,Nat.beq_eq]at hk
       cases hst:s.store p.block p.off cs with
       |none=>trivial
       |some s'=>
        rw[he]at hra
        obtain⟨l,hi,e⟩:=hra.ptr_inv
        have hcs:=cellsOf_rel hc hrx
        obtain⟨w',r1,r2,r3,_⟩:=store_rel (hb:=hb) hS hi hst hcs hk.2
        refine⟨ι,w',undef,.inr ⟨?_,rfl⟩,.tuple .nil,r2,r3⟩
        have hsz:(ρ x).cells.size=n:=by have:=hcs.length;simp at this;omega
        have: ¬((ρ x).cells.size≠n):=by simp[hsz]
        simp[execOp,ho,e,Instr.storeAt,Instr.sureAddr,storeVar,run_sizeOf' hs,this,r1]
   |_=>simp only[he];trivial
end
end Go.AM
namespace Go.AM
noncomputable section
variable {P:Program} {o:Oper} {ι:Inj} {s:S} {w w':World}
theorem SRel.putO (h:SRel P ι s w) {id:Nat} {l:Loc} {ob o₀:AObj} {o':Obj} (hi:ι id=some l) (h₀:s.h.get id=some o₀) (hnb: ∀b,o₀≠ .blk b)
 (hp: ∀p,¬Par ob p) (hw:WPut w w' l.blk o') (hr:ORel P ι l ob o'):SRel P ι (s.put id ob) w':=by
 have hnd: ¬Dead o₀:=by cases o₀<;>first|exact absurd rfl (hnb _)|simp[Dead]
 have hnp: ∀p,¬Par o₀ p:=by intro p;cases o₀<;>first|exact absurd rfl (hnb _)|simp[Par]
 have hc: ∀id2 o2,s.h.get id2=some o2→ι id2≠none→ ¬Dead o2→ ¬Par o2 id:=by
  intro id2 o2 a b c d
  obtain⟨_,y⟩:=h.par id2 o2 id a b c d
  obtain⟨b',e,_⟩:=y _ h₀
  exact hnb b' e
 refine h.put hi h₀ hp ?_ hc hw hr
 intro id2 l2 o2 hne hl2 hbl hg2
 rcases h.alias id id2 l l2 _ o2 (Ne.symm hne) hi hl2 hbl.symm h₀ hg2 with a|a|a|a
 ·exact absurd a hnd
 ·exact a
 ·exact absurd a (hnp _)
 ·by_cases hd:Dead o2
  ·exact hd
  ·exact absurd a (hc id2 o2 hg2 (by rw[hl2];simp) hd)
theorem setObj_run {w:World} {r:Nat} {o₀ o1:Obj} (h:w.heap[r]? =some o₀) (hn: ∀c e f,o₀≠ .cells c e f):
 (setObj r o1).run P w= .ok () { w with heap:=w.heap.setIfInBounds r o1 } ∧WPut w { w with heap:=w.heap.setIfInBounds r o1 } r o1:=by
 have hlt:r<w.heap.size:=by
  rcases Nat.lt_or_ge r w.heap.size with x|x
  ·exact x
  ·rw[Array.getElem?_eq_none x]at h;cases h
 refine⟨?_,?_,fun c hc=>?_,by simp,rfl,rfl,rfl⟩
 ·simp only[setObj,Sem.run,h]
 ·simp[hlt]
 ·simp[Array.getElem?_setIfInBounds_ne (Ne.symm hc)]
theorem KeyNe.symm {x y:Value} (h:KeyNe x y):KeyNe y x:=by
 unfold KeyNe at h
 split at h
 ·exact⟨h.1.symm,fun e=>h.2 e.symm⟩
 ·exact fun e=>h e.symm
 ·exact h.elim
theorem putK_spec {kk:KeyKind} {k v:Value} (h0:keyOk kk k=true): ∀ {es es2:List (Value×Value)} {nw:Bool},putK kk k v es=some (nw,es2)→(∀p∈es,keyOk kk p.1=true)→
 (nw=true∧es2=es++[(k,v)]∧ ∀p∈es,KeyNe k p.1)∨(nw=false∧ ∃a u b,es=a++(k,u)::b∧es2=a++(k,v)::b)
 |[],es2,nw,h,_=>by simp only[putK,Option.some.injEq,Prod.mk.injEq]at h;obtain⟨rfl,rfl⟩:=h;exact .inl ⟨rfl,rfl,by simp⟩
 |(k',v')::es,es2,nw,h,hk=>by
  obtain⟨b,_,e2,e3,e4⟩:=key_spec h0 (hk (k',v') (by simp))
  simp only[putK,e2]at h
  cases b with
  |true=>
   simp only[Option.some.injEq,Prod.mk.injEq]at h;obtain⟨rfl,rfl⟩:=h
   have:=e3.1 rfl
   subst this
   exact .inr ⟨rfl,[],v',es,rfl,rfl⟩
  |false=>
   simp only[]at h
   cases hp:putK kk k v es with
   |none=>simp[hp]at h
   |some q=>
    obtain⟨nb,l⟩:=q
    simp only[hp,Option.some.injEq,Prod.mk.injEq]at h;obtain⟨rfl,rfl⟩:=h
    rcases putK_spec h0 hp (fun p hp=>hk p (by simp[hp]))with⟨a,b,c⟩|⟨a,x,u,y,b,c⟩
    ·refine .inl ⟨a,by rw[b];rfl,fun p hp=>?_⟩
     rcases List.mem_cons.1 hp with rfl|hm
     ·exact e4 rfl
     ·exact c p hm
    ·exact .inr ⟨a,(k',v')::x,u,y,by rw[b];rfl,by rw[c];rfl⟩
theorem putK_first {kk:KeyKind} {k v:Value} {es es2:List (Value×Value)} {nw:Bool} (h:putK kk k v es=some (nw,es2)): ∀p l,es=p::l→keyOk kk p.1=true:=by
 intro p l e
 subst e
 obtain⟨k',v'⟩:=p
 simp only[putK]at h
 cases he:keyEq kk k k' with
 |none=>simp[he]at h
 |some b=>exact(keyEq_ok he).2
theorem EsRel.append {ι:Inj} : ∀ {a b:List (Value×Value)} {a' b':List MapEntry},EsRel ι a a'→EsRel ι b b'→EsRel ι (a++b) (a'++b')
 |_,_,_,_,.nil,h=>h
 |_,_,_,_,.cons x y z,h=> .cons x y (z.append h)
theorem EsRel.split {ι:Inj} : ∀ {a:List (Value×Value)} {k u:Value} {b:List (Value×Value)} {l:List MapEntry},EsRel ι (a++(k,u)::b) l→
 ∃la e lb,l=la++e::lb∧EsRel ι a la∧VRel ι k e.key∧VRel ι u e.val∧EsRel ι b lb
 |[],k,u,b,_,.cons x y z=>⟨[],_,_,rfl,.nil,x,y,z⟩
 |p::a,k,u,b,_,.cons x y z=>by
  obtain⟨la,e,lb,h1,h2,h3,h4,h5⟩:=z.split
  exact⟨_::la,e,lb,by rw[h1];rfl,.cons x y h2,h3,h4,h5⟩
theorem sameBits_self {kk:KeyKind} {k:Value} (h:keyOk kk k=true) (n:Nat):Instr.sameBits n k k=true:=by
 cases kk with
 |int _=>cases k<;>simp only[keyOk]at h<;>first|(cases h;done)|simp[Instr.sameBits]
 |str=>cases k<;>simp only[keyOk]at h<;>first|(cases h;done)|simp[Instr.sameBits,bytes_beq]
def putObj (res:Option (Nat×Value)) (es':Array MapEntry) (clk:Nat) (k x:Value):Obj:=
 match res with
 |some (i,_)=> .map (es'.modify i fun e=> { e with key:=k,val:=x }) clk
 |none=> .map (es'.push { key:=k,val:=x,born:=clk }) (clk+1)
theorem run_mapUpdate {t kt et:TypeId} (hu:P.underlying t=some (.map kt et)) {kk:KeyKind} (hk:keyKind P kt=some kk) {k x:Value} (hkk:keyOk kk k=true) {r:Nat} {es':Array MapEntry} {clk:Nat}
 (hg:w.heap[r]? =some (.map es' clk)) {res:Option (Nat×Value)} (hf:(Instr.findKey kt k es'.toList).run P w= .ok res w) (hkey: ∀i v,res=some (i,v)→ ∃e,es'[i]? =some e∧e.key=k):
 ∃w',(Instr.mapUpdate t (.map (some r)) k x).run P w= .ok () w'∧
  WPut w w' r (putObj res es' clk k x):=by
 have hn: ∀c e f,Obj.map es' clk≠ .cells c e f:=by intro c e f h;cases h
 cases res with
 |none=>
  obtain⟨h1,h2⟩:=setObj_run (P:=P) (o1:= .map (es'.push { key:=k,val:=x,born:=clk }) (clk+1)) hg hn
  refine⟨_,?_,h2⟩
  simp only[Instr.mapUpdate,Sem.run_bind,run_underlying hu,Result.andThen_ok,run_getObj_map hg,run_checkKey hk _ _ _ hkk,hf]
  exact h1
 |some q=>
  obtain⟨i,v⟩:=q
  obtain⟨e,he,hke⟩:=hkey i v rfl
  obtain⟨h1,h2⟩:=setObj_run (P:=P) (o1:= .map (es'.modify i fun e=> { e with key:=k,val:=x }) clk) hg hn
  refine⟨_,?_,h2⟩
  simp only[Instr.mapUpdate,Sem.run_bind,run_underlying hu,Result.andThen_ok,run_getObj_map hg,run_checkKey hk _ _ _ hkk,hf,he,Option.map_some,Option.getD_some,Instr.keyThatStays,hke,
   sameBits_self hkk,if_true,Sem.run_pure]
  exact h1
theorem pairwise_key_eq {es:List (Value×Value)} (hpw:es.Pairwise (fun a b=>KeyNe a.1 b.1)) {lst:List MapEntry} (hr:EsRel ι es lst) {kk:KeyKind} (hks: ∀p∈es,keyOk kk p.1=true) {k:Value}
 {e e':MapEntry} (h:e∈lst) (h':e'∈lst) (hk:e.key=k) (hk':e'.key=k):e=e':=by
 induction hr with
 |nil=>simp at h
 |cons a b c ih=>
  rename_i q u f l l'
  rw[List.pairwise_cons]at hpw
  have hq:=keyOk_vrel (hks (q,u) (by simp)) a
  rcases List.mem_cons.1 h with h1|h1
  ·rcases List.mem_cons.1 h' with h2|h2
   ·rw[h1,h2]
   ·obtain⟨p,m1,m2,_⟩:=c.mem' e' h2
    have:=keyOk_vrel (hks p (by simp[m1])) m2
    exact absurd (show q=p.1 by rw[←this,hk',←hk,h1,hq]) (hpw.1 p m1).ne
  ·rcases List.mem_cons.1 h' with h2|h2
   ·obtain⟨p,m1,m2,_⟩:=c.mem' e h1
    have:=keyOk_vrel (hks p (by simp[m1])) m2
    exact absurd (show q=p.1 by rw[←this,hk,←hk',h2,hq]) (hpw.1 p m1).ne
   ·exact ih hpw.2 (fun p hp=>hks p (by simp[hp])) h1 h2
theorem map_put_rel {kk:KeyKind} {k v v':Value} (h0:keyOk kk k=true) {es es2:List (Value×Value)} {nw:Bool} (hp:putK kk k v es=some (nw,es2)) {es':Array MapEntry} {lst:List MapEntry} {clk:Nat}
 (hperm:lst.Perm es'.toList) (hr:EsRel ι es lst) (hpw:es.Pairwise (fun a b=>KeyNe a.1 b.1)) (hb: ∀e∈es'.toList,e.born<clk) (hnd:(es'.toList.map (·.born)).Nodup) (hv:VRel ι v v')
 {kt:TypeId} (hkk:keyKind P kt=some kk) (w:World) (l:Loc):
 ∃res,(Instr.findKey kt k es'.toList).run P w= .ok res w∧(∀i u,res=some (i,u)→ ∃e,es'[i]? =some e∧e.key=k)∧
  ORel P ι l (.map es2 (bif nw then Nat.succ clk else clk))
   (putObj res es' clk k v'):=by
 have hks:=keys_ok (kk:=kk) hpw (putK_first hp)
 rcases run_findKey hkk h0 hperm hr hpw hks w with⟨u,j,e,hm,hj,hke,hue,hrun⟩|⟨hno,hno',hrun⟩
 ·refine⟨some (j,e.val),hrun,fun i u' h=>?_,?_⟩
  ·cases h;exact⟨e,by simpa using hj,hke⟩
  ·rcases putK_spec h0 hp hks with⟨_,_,hne⟩|⟨rfl,a,u2,b,e1,e2⟩
   ·exact absurd rfl (hne _ hm).ne
   ·subst e1;subst e2
    obtain⟨la,e0,lb,q1,q2,q3,q4,q5⟩:=hr.split
    have hk0:e0.key=k:=keyOk_vrel h0 q3
    have hmem:e∈lst:=hperm.mem_iff.2 (List.mem_of_getElem? hj)
    have hee:e=e0:=pairwise_key_eq hpw hr hks hmem (by rw[q1];simp) hke hk0
    subst hee
    simp only[cond_false,putObj]
    have hjlt:j<es'.toList.length:=by
     rcases Nat.lt_or_ge j es'.toList.length with x|x
     ·exact x
     ·rw[List.getElem?_eq_none x]at hj;cases hj
    have hsplit:es'.toList=es'.toList.take j++e::es'.toList.drop (j+1):=by
     rw[List.getElem?_eq_getElem hjlt]at hj
     have:es'.toList[j]=e:=by simpa using hj
     rw[←this,←List.drop_eq_getElem_cons hjlt,List.take_append_drop]
    have hmod:(es'.modify j fun e=> { e with key:=k,val:=v' }).toList=es'.toList.take j++ { e with key:=k,val:=v' } ::es'.toList.drop (j+1):=by
     rw[Array.toList_modify,List.modify_eq_take_cons_drop hjlt]
     rw[List.getElem?_eq_getElem hjlt]at hj
     have:es'.toList[j]=e:=by simpa using hj
     rw[this]
    refine .map (lst:=la++ { e with key:=k,val:=v' } ::lb) ?_ (q2.append (.cons ?_ hv q5)) ?_ ?_ ?_
    ·rw[hmod]
     have hp2:(la++e::lb).Perm (es'.toList.take j++e::es'.toList.drop (j+1)):=by rw[←hsplit,←q1];exact hperm
     have hp3:(e::(la++lb)).Perm (e::(es'.toList.take j++es'.toList.drop (j+1))):=(List.perm_middle.symm.trans hp2).trans List.perm_middle
     exact List.perm_middle.trans ((List.Perm.cons _ (List.Perm.cons_inv hp3)).trans List.perm_middle.symm)
    ·show VRel ι k k
     exact hk0▸q3
    ·have hkeys: ∀x y:Value,((a++(k,x)::b).map (·.1))=((a++(k,y)::b).map (·.1)):=by intro x y;simp
     have:=(List.pairwise_map (f:=fun p:Value×Value=>p.1) (R:=KeyNe)).2 hpw
     rw[hkeys u2 v]at this
     exact(List.pairwise_map (f:=fun p:Value×Value=>p.1) (R:=KeyNe)).1 this
    ·intro e2 he2
     rw[hmod]at he2
     rcases List.mem_append.1 he2 with x|x
     ·exact hb e2 (List.mem_of_mem_take x)
     ·rcases List.mem_cons.1 x with rfl|x
      ·exact hb e (List.mem_of_getElem? hj)
      ·exact hb e2 (List.mem_of_mem_drop x)
    ·rw[hmod]
     rw[hsplit]at hnd
     simpa using hnd
 ·refine⟨none,hrun,fun i u h=>(by cases h),?_⟩
  rcases putK_spec h0 hp hks with⟨rfl,e1,hne⟩|⟨_,a,u2,b,e1,_⟩
  ·subst e1
   simp only[cond_true,putObj]
   refine .map (lst:=lst++[{ key:=k,val:=v',born:=clk }]) ?_ (hr.append (.cons ?_ hv .nil)) ?_ ?_ ?_
   ·rw[Array.toList_push];exact hperm.append_right _
   ·show VRel ι k k
    cases kk with
    |int _=>cases k<;>simp only[keyOk]at h0<;>first|(cases h0;done)|exact .int _ _
    |str=>cases k<;>simp only[keyOk]at h0<;>first|(cases h0;done)|exact .string _
   ·rw[List.pairwise_append]
    exact⟨hpw,by simp,fun a ha b hb=>by simp at hb;subst hb;exact(hne a ha).symm⟩
   ·intro e he
    rw[Array.toList_push]at he
    rcases List.mem_append.1 he with x|x
    ·have:=hb e x;omega
    ·simp at x;subst x;simp
   ·rw[Array.toList_push,List.map_append,List.nodup_append]
    refine⟨hnd,by simp,?_⟩
    intro a ha b hb'
    simp at hb';subst hb'
    obtain⟨e,he,rfl⟩:=List.mem_map.1 ha
    have:=hb e he;omega
  ·exact absurd rfl (hno (k,u2) (by rw[e1];simp))
end
end Go.AM
namespace Go.AM
noncomputable section
variable {P:Program} {o:Oper} {ι:Inj} {s:S} {w w':World}
theorem putP_spec {a:Addr} {v:Value} : ∀ {es es2:List (Value×Value)} {nw:Bool},putP a v es=(nw,es2)→(∀q∈es,∃a',q.1= .pointer (some a'))→
 (nw=true∧es2=es++[(.pointer (some a),v)]∧ ∀q∈es,∀a',q.1= .pointer (some a')→ ¬(a'.block=a.block∧a'.off=a.off))∨
 (nw=false∧ ∃A a' u B,es=A++(.pointer (some a'),u)::B∧es2=A++(.pointer (some a),v)::B∧a'.block=a.block∧a'.off=a.off)
 |[],es2,nw,h,_=>by simp only[putP,Prod.mk.injEq]at h;obtain⟨rfl,rfl⟩:=h;exact .inl ⟨rfl,rfl,by simp⟩
 |(k,v')::es,es2,nw,h,hk=>by
  obtain⟨a',ha'⟩:=hk (k,v') (by simp)
  simp only at ha';subst ha'
  simp only[putP]at h
  cases hb:Nat.beq a'.block a.block&&Nat.beq a'.off a.off with
  |true=>
   rw[hb]at h;simp only[cond_true,Prod.mk.injEq]at h
   obtain⟨rfl,rfl⟩:=h
   simp only[Bool.and_eq_true,Nat.beq_eq]at hb
   exact .inr ⟨rfl,[],a',v',es,rfl,rfl,hb.1,hb.2⟩
  |false=>
   rw[hb]at h;simp only[cond_false]at h
   cases hp:putP a v es with
   |mk nb l=>
    rw[hp]at h;simp only[Prod.mk.injEq]at h;obtain⟨rfl,rfl⟩:=h
    rcases putP_spec hp (fun p hp=>hk p (by simp[hp]))with⟨x,y,z⟩|⟨x,A,a2,u,B,y1,y2,y3⟩
    ·refine .inl ⟨x,by rw[y];rfl,fun q hq a3 e=>?_⟩
     rcases List.mem_cons.1 hq with rfl|hm
     ·simp only[Value.pointer.injEq,Option.some.injEq]at e;subst e
      rintro⟨e1,e2⟩
      rw[e1,e2,Nat.beq_refl,Nat.beq_refl]at hb;cases hb
     ·exact z q hm a3 e
    ·exact .inr ⟨x,_::A,a2,u,B,by rw[y1];rfl,by rw[y2];rfl,y3⟩
theorem run_mapUpdateP {t kt et:TypeId} (hu:P.underlying t=some (.map kt et)) (hk:ptrKey P kt=true) {x0:Addr} {x:Value} {r:Nat} {es':Array MapEntry} {clk:Nat}
 (hg:w.heap[r]? =some (.map es' clk)) {res:Option (Nat×Value)} (hf:(Instr.findKey kt (.pointer (some x0)) es'.toList).run P w= .ok res w) (hkey: ∀i v,res=some (i,v)→ ∃e,es'[i]? =some e∧e.key= .pointer (some x0)):
 ∃w',(Instr.mapUpdate t (.map (some r)) (.pointer (some x0)) x).run P w= .ok () w'∧WPut w w' r (putObj res es' clk (.pointer (some x0)) x):=by
 have hn: ∀c e f,Obj.map es' clk≠ .cells c e f:=by intro c e f h;cases h
 have hck:(Instr.checkKey false 10000 kt (.pointer (some x0))).run P w= .ok () w:=run_checkKeyP hk false 9999 x0 w
 cases res with
 |none=>
  obtain⟨h1,h2⟩:=setObj_run (P:=P) (o1:= .map (es'.push { key:= .pointer (some x0),val:=x,born:=clk }) (clk+1)) hg hn
  refine⟨_,?_,h2⟩
  simp only[Instr.mapUpdate,Sem.run_bind,run_underlying hu,Result.andThen_ok,run_getObj_map hg,hck,hf]
  exact h1
 |some q=>
  obtain⟨i,v⟩:=q
  obtain⟨e,he,hke⟩:=hkey i v rfl
  obtain⟨h1,h2⟩:=setObj_run (P:=P) (o1:= .map (es'.modify i fun e=> { e with key:= .pointer (some x0),val:=x }) clk) hg hn
  refine⟨_,?_,h2⟩
  have hsb: ∀n,Instr.sameBits n (.pointer (some x0)) (.pointer (some x0))=true:=by intro n;cases n<;>simp[Instr.sameBits]
  simp only[Instr.mapUpdate,Sem.run_bind,run_underlying hu,Result.andThen_ok,run_getObj_map hg,hck,hf,he,Option.map_some,Option.getD_some,Instr.keyThatStays,hke,hsb,if_true,Sem.run_pure]
  exact h1
theorem pmap_put_rel (hS:SRel P ι s w) {kt:TypeId} (hkt:ptrKey P kt=true) {a:Addr} {la:Loc} (hi:ι a.block=some la) (ha:aloneB P s a.block=true) {es es2:List (Value×Value)} (hks:keysP P s a.block es=true)
 {v v':Value} {nw:Bool} (hp:putP a v es=(nw,es2)) {es':Array MapEntry} {lst:List MapEntry} {clk:Nat}
 (hperm:lst.Perm es'.toList) (hr:EsRel ι es lst) (hpw:lst.Pairwise (fun a b=>a.key≠b.key)) (hb: ∀e∈es'.toList,e.born<clk) (hnd:(es'.toList.map (·.born)).Nodup)
 (hv:VRel ι v v') (l:Loc):
 ∃res,(Instr.findKey kt (.pointer (some ⟨la.blk,la.base+a.off,none⟩)) es'.toList).run P w= .ok res w∧(∀i u,res=some (i,u)→ ∃e,es'[i]? =some e∧e.key= .pointer (some ⟨la.blk,la.base+a.off,none⟩))∧
  ORel P ι l (.pmap es2 (bif nw then Nat.succ clk else clk)) (putObj res es' clk (.pointer (some ⟨la.blk,la.base+a.off,none⟩)) v'):=by
 have hkp: ∀q∈es,∃a',q.1= .pointer (some a'):=fun q hq=>let ⟨a',e1,_⟩:=keysP_mem hks q hq;⟨a',e1⟩
 have place: ∀e∈lst,∀q∈es,VRel ι q.1 e.key→(e.key= .pointer (some ⟨la.blk,la.base+a.off,none⟩)↔ ∃a',q.1= .pointer (some a')∧a'.block=a.block∧a'.off=a.off):=by
  intro e _ q hq r1
  obtain⟨a',e1,e2⟩:=keysP_mem hks q hq
  obtain⟨y,cy,ey,y1,y2,y3⟩:=key_place hS hi ha e1 e2 r1
  rw[y1]
  constructor
  ·intro h;cases h;exact⟨a',e1,y3.1 rfl⟩
  ·rintro⟨a2,e3,e4⟩
   rw[e1]at e3;cases e3
   rw[y3.2 e4]
 have hkrel:VRel ι (.pointer (some a)) (.pointer (some ⟨la.blk,la.base+a.off,none⟩)):=by
  obtain⟨ab,ao,asp⟩:=a
  exact .ptr hi
 rcases find_rel hS hkt hi ha hks hperm hr hpw with⟨j,e,hj,hke,hrun⟩|⟨hno,hrun⟩
 ·refine⟨some (j,e.val),hrun,fun i u h=>?_,?_⟩
  ·cases h;exact⟨e,by simpa using hj,hke⟩
  have hmem:e∈lst:=hperm.mem_iff.2 (List.mem_of_getElem? hj)
  obtain⟨q,hq,r1,_⟩:=hr.memP e hmem
  have hpl:=(place e hmem q hq r1).1 hke
  rcases putP_spec hp hkp with⟨_,_,hne⟩|⟨rfl,A,a',u2,B,e1,e2,y1,y2⟩
  ·obtain⟨a2,x1,x2⟩:=hpl
   exact absurd x2 (hne q hq a2 x1)
  ·subst e1;subst e2
   obtain⟨lA,e0,lB,q1,q2,q3,q4,q5⟩:=hr.split
   have hk0:e0.key= .pointer (some ⟨la.blk,la.base+a.off,none⟩):=(place e0 (by rw[q1];simp) (.pointer (some a'),u2) (by simp) q3).2 ⟨a',rfl,y1,y2⟩
   have hee:e=e0:=by
    have aux: ∀ {l:List MapEntry},l.Pairwise (fun a b=>a.key≠b.key)→ ∀a∈l,∀b∈l,a.key=b.key→a=b:=by
     intro l
     induction l with
     |nil=>intro _ a ha;simp at ha
     |cons c l ih=>
      intro hpw a ha b hb hab
      rw[List.pairwise_cons]at hpw
      rcases List.mem_cons.1 ha with ha|ha
      ·rcases List.mem_cons.1 hb with hb|hb
       ·rw[ha,hb]
       ·exact absurd (by rw[←ha];exact hab) (hpw.1 b hb)
      ·rcases List.mem_cons.1 hb with hb|hb
       ·exact absurd (by rw[←hb];exact hab.symm) (hpw.1 a ha)
       ·exact ih hpw.2 a ha b hb hab
    exact aux hpw e hmem e0 (by rw[q1];simp) (by rw[hke,hk0])
   subst hee
   simp only[cond_false,putObj]
   have hjlt:j<es'.toList.length:=by
    rcases Nat.lt_or_ge j es'.toList.length with x|x
    ·exact x
    ·rw[List.getElem?_eq_none x]at hj;cases hj
   have hsplit:es'.toList=es'.toList.take j++e::es'.toList.drop (j+1):=by
    rw[List.getElem?_eq_getElem hjlt]at hj
    have:es'.toList[j]=e:=by simpa using hj
    rw[←this,←List.drop_eq_getElem_cons hjlt,List.take_append_drop]
   have hmod:(es'.modify j fun e=> { e with key:= .pointer (some ⟨la.blk,la.base+a.off,none⟩),val:=v' }).toList=es'.toList.take j++ { e with key:= .pointer (some ⟨la.blk,la.base+a.off,none⟩),val:=v' } ::es'.toList.drop (j+1):=by
    rw[Array.toList_modify,List.modify_eq_take_cons_drop hjlt]
    rw[List.getElem?_eq_getElem hjlt]at hj
    have:es'.toList[j]=e:=by simpa using hj
    rw[this]
   refine .pmap (lst:=lA++ { e with key:= .pointer (some ⟨la.blk,la.base+a.off,none⟩),val:=v' } ::lB) ?_ (q2.append (.cons ?_ hv q5)) ?_ ?_ ?_ ?_
   ·rw[hmod]
    have hp2:(lA++e::lB).Perm (es'.toList.take j++e::es'.toList.drop (j+1)):=by rw[←hsplit,←q1];exact hperm
    have hp3:(e::(lA++lB)).Perm (e::(es'.toList.take j++es'.toList.drop (j+1))):=(List.perm_middle.symm.trans hp2).trans List.perm_middle
    exact List.perm_middle.trans ((List.Perm.cons _ (List.Perm.cons_inv hp3)).trans List.perm_middle.symm)
   ·exact hkrel
   ·intro q hq
    rcases List.mem_append.1 hq with h|h
    ·exact hkp q (by simp[h])
    ·rcases List.mem_cons.1 h with rfl|h
     ·exact⟨a,rfl⟩
     ·exact hkp q (by simp[h])
   ·have:=(List.pairwise_map (f:=fun p:MapEntry=>p.key) (R:=fun a b:Value=>a≠b)).2 hpw
    rw[q1]at this
    have e3:((lA++e::lB).map fun p:MapEntry=>p.key)=((lA++ { e with key:= .pointer (some ⟨la.blk,la.base+a.off,none⟩),val:=v' } ::lB).map fun p:MapEntry=>p.key):=by simp[hke]
    rw[e3]at this
    exact(List.pairwise_map (f:=fun p:MapEntry=>p.key) (R:=fun a b:Value=>a≠b)).1 this
   ·intro e2 he2
    rw[hmod]at he2
    rcases List.mem_append.1 he2 with x|x
    ·exact hb e2 (List.mem_of_mem_take x)
    ·rcases List.mem_cons.1 x with rfl|x
     ·exact hb e (List.mem_of_getElem? hj)
     ·exact hb e2 (List.mem_of_mem_drop x)
   ·rw[hmod]
    rw[hsplit]at hnd
    simpa using hnd
 ·refine⟨none,hrun,fun i u h=>(by cases h),?_⟩
  rcases putP_spec hp hkp with⟨rfl,e1,hne⟩|⟨_,A,a',u2,B,e1,_,y1,y2⟩
  ·subst e1
   simp only[cond_true,putObj]
   refine .pmap (lst:=lst++[{ key:= .pointer (some ⟨la.blk,la.base+a.off,none⟩),val:=v',born:=clk }]) ?_ (hr.append (.cons hkrel hv .nil)) ?_ ?_ ?_ ?_
   ·rw[Array.toList_push];exact hperm.append_right _
   ·intro q hq
    rcases List.mem_append.1 hq with h|h
    ·exact hkp q h
    ·simp at h;subst h;exact⟨a,rfl⟩
   ·rw[List.pairwise_append]
    exact⟨hpw,by simp,fun x hx y hy=>by simp at hy;subst hy;exact hno x (hperm.mem_iff.1 hx)⟩
   ·intro e he
    rw[Array.toList_push]at he
    rcases List.mem_append.1 he with x|x
    ·have:=hb e x;omega
    ·simp at x;subst x;simp
   ·rw[Array.toList_push,List.map_append,List.nodup_append]
    refine⟨hnd,by simp,?_⟩
    intro a ha b hb'
    simp at hb';subst hb'
    obtain⟨e,he,rfl⟩:=List.mem_map.1 ha
    have:=hb e he;omega
  ·exfalso
   subst e1
   obtain⟨lA,e0,lB,q1,q2,q3,q4,q5⟩:=hr.split
   have hm0:e0∈lst:=by rw[q1];simp
   exact hno e0 (hperm.mem_iff.1 hm0) ((place e0 hm0 (.pointer (some a'),u2) (by simp) q3).2 ⟨a',rfl,y1,y2⟩)
theorem ok_mapP {t kt et:TypeId} {m k x:Operand} (hex: ∀ρ,execOp ρ o=(do Instr.mapUpdate t (ρ m) (ρ k) (ρ x);pure .skip)) (hops:o.op.operands.toList=[m,k,x]) (hu:P.underlying t=some (.map kt et))
 (hm:opdOk m=true) (hk:opdOk k=true) (hx:opdOk x=true):RunOk P o (mapP P kt m k x):=by
 unfold mapP
 cases hkt:ptrKey P kt with
 |false=>exact RunOk.no _ _
 |true=>
  intro hb ι s w g ρ hS hn hlo hr
  have hrm:=hr m (by rw[hops];simp) hm
  have hrk:=hr k (by rw[hops];simp) hk
  have hrx:=hr x (by rw[hops];simp) hx
  cases he:ev g m with
  |map r=>
   cases r with
   |none=>simp only[he];trivial
   |some r=>
    simp only[he]
    rw[he]at hrm
    obtain⟨l,hi,e⟩:=hrm.map_inv
    cases hg:s.h.get r with
    |none=>trivial
    |some ob=>
     cases ob with
     |pmap es clk=>
      simp only[]
      cases hek:ev g k with
      |pointer a=>
       cases a with
       |none=>trivial
       |some a=>
        simp only[]
        cases hc:aloneB P s a.block&&keysP P s a.block es&&notTup (ev g x)&&Nat.ble s.lo r with
        |false=>trivial
        |true=>
         simp only[cond_true]
         simp only[Bool.and_eq_true,Nat.ble_eq]at hc
         cases hp:putP a (ev g x) es with
         |mk nw es2=>
          simp only[]
          obtain⟨es',lst,h1,h2,h3,h4,h5,h6⟩:=hS.pmapAt hi hg
          rw[hek]at hrk
          have hpl: ∃la,ι a.block=some la∧ρ k= .pointer (some ⟨la.blk,la.base+a.off,none⟩):=by
           obtain⟨ab,ao,asp⟩:=a
           exact hrk.ptr_inv
          obtain⟨la,hia,ek⟩:=hpl
          obtain⟨res,f1,f2,f3⟩:=pmap_put_rel hS hkt hia hc.1.1.1 hc.1.1.2 hp h2 h3 h4 h5 h6 hrx l
          obtain⟨w',r1,r2⟩:=run_mapUpdateP (P:=P) hu hkt (x:=ρ x) h1 f1 f2
          refine⟨ι,w',undef,.inr ⟨?_,rfl⟩,.tuple .nil,hS.putO hi hg (by intro b h;cases h) (by intro p;simp[Par]) r2 f3,Fm.put hi hg trivial hc.2 r2⟩
          rw[hex,e,ek]
          simp[r1]
      |_=>trivial
     |_=>trivial
  |_=>simp only[he];trivial
end
end Go.AM
namespace Go.AM
noncomputable section
variable {P:Program} {o:Oper} {ι:Inj} {s:S} {w w':World}
theorem ok_mapR {t:TypeId} {m k x:Operand} (ho:o.op= .mapUpdate t m k x∨o.op= .insert t m k x):RunOk P o (cr.mapR P t m k x):=by
 have hex: ∀ρ,execOp ρ o=(do Instr.mapUpdate t (ρ m) (ρ k) (ρ x);pure .skip):=by
  intro ρ;rcases ho with h|h<;>simp only[execOp,h]
 have hops:o.op.operands.toList=[m,k,x]:=by rcases ho with h|h<;>simp[h,Op.operands]
 simp only[cr.mapR]
 cases hx:opdOk m&&opdOk k&&opdOk x with
 |false=>exact RunOk.no _ _
 |true=>
  simp only[Bool.and_eq_true]at hx
  simp only[cond_true]
  cases hu:P.underlying t with
  |none=>exact RunOk.no _ _
  |some d=>
   cases d with
   |map kt et=>
    simp only[]
    cases hkk:keyKind P kt with
    |none=>exact ok_mapP hex hops hu hx.1.1 hx.1.2 hx.2
    |some kk=>
     intro hb ι s w g ρ hS hn hlo hr
     have hrm:=hr m (by rw[hops];simp) hx.1.1
     have hrk:=hr k (by rw[hops];simp) hx.1.2
     have hrx:=hr x (by rw[hops];simp) hx.2
     cases he:ev g m with
     |map r=>
      cases r with
      |none=>simp only[he];trivial
      |some r=>
       simp only[he]
       rw[he]at hrm
       obtain⟨l,hi,e⟩:=hrm.map_inv
       cases hg:s.h.get r with
       |none=>trivial
       |some ob=>
        cases ob with
        |map es clk=>
         simp only[]
         cases hc:keyOk kk (ev g k)&&notTup (ev g x)&&Nat.ble s.lo r with
         |false=>trivial
         |true=>
          simp only[cond_true]
          simp only[Bool.and_eq_true,Nat.ble_eq]at hc
          cases hp:putK kk (ev g k) (ev g x) es with
          |none=>trivial
          |some q=>
           obtain⟨nw,es2⟩:=q
           simp only[]
           obtain⟨es',lst,h1,h2,h3,h4,h5,h6⟩:=hS.mapAt hi hg
           have ek:=keyOk_vrel hc.1.1 hrk
           obtain⟨res,f1,f2,f3⟩:=map_put_rel (P:=P) hc.1.1 hp h2 h3 h4 h5 h6 hrx hkk w l
           obtain⟨w',r1,r2⟩:=run_mapUpdate (P:=P) hu hkk (x:=ρ x) hc.1.1 h1 f1 f2
           refine⟨ι,w',undef,.inr ⟨?_,rfl⟩,.tuple .nil,hS.putO hi hg (by intro b h;cases h) (by intro p;simp[Par]) r2 f3,Fm.put hi hg trivial hc.2 r2⟩
           rw[hex,e,ek]
           simp[r1]
        |hole=>
         simp only[]
         cases hc:keyOk kk (ev g k)&&notTup (ev g x)with
         |false=>trivial
         |true=>
          simp only[Bool.and_eq_true]at hc
          refine⟨t,kt,et,kk,l,ρ k,ρ x,hu,hkk,hc.1,hi,hrk,hrx,hc.2,hg,fun w=>?_⟩
          rw[hex,e]
          simp
        |_=>trivial
     |_=>simp only[he];trivial
   |_=>exact RunOk.no _ _
theorem ok_range {t:TypeId} {x:Operand} (ho:o.op= .range t x):RunOk P o (cr P (.range t x)):=by
 simp only[cr]
 cases hx:opdOk x with
 |false=>exact RunOk.no _ _
 |true=>
  simp only[cond_true]
  cases hu:P.underlying t with
  |none=>exact RunOk.no _ _
  |some d=>
   cases d with
   |map kt et=>
    intro hb ι s w g ρ hS hn hlo hr
    have hrx:=hr x (by simp[ho,Op.operands]) hx
    cases he:ev g x with
    |map r=>
     cases r with
     |none=>simp only[he];trivial
     |some r=>
      simp only[he]
      rw[he]at hrx
      obtain⟨l,hi,e⟩:=hrx.map_inv
      cases hg:s.h.get r with
      |none=>trivial
      |some ob=>
       cases ob with
       |map es clk=>
        simp only[]
        obtain⟨es',lst,h1,h2,h3,h4,h5,h6⟩:=hS.mapAt hi hg
        have hpush:=WPush.mk' w (.mapIter (some l.blk) clk #[] clk)
        have hup:=Ext.up (ι:=ι) ⟨w.heap.size,0,0⟩ (hS.fresh _ (Nat.le_refl s.nx))
        refine⟨ι.up s.nx ⟨w.heap.size,0,0⟩,_,.pointer (some ⟨w.heap.size,0,none⟩),.inl ?_,?_,hS.push (by intro p;simp[Par]) hpush (.iter rfl (hup _ _ hi)),Fm.push hS hn hlo hpush⟩
        ·simp[execOp,ho,e,Instr.range,run_underlying hu,run_getObj_map h1]
        ·simpa[ptrTo]using VRel.ptr (off:=0) (sp:=none) (Inj.up_self ι s.nx ⟨w.heap.size,0,0⟩)
       |pmap es clk=>
        simp only[]
        obtain⟨es',lst,h1,h2,h3,h4,h5,h6⟩:=hS.pmapAt hi hg
        have hpush:=WPush.mk' w (.mapIter (some l.blk) clk #[] clk)
        have hup:=Ext.up (ι:=ι) ⟨w.heap.size,0,0⟩ (hS.fresh _ (Nat.le_refl s.nx))
        refine⟨ι.up s.nx ⟨w.heap.size,0,0⟩,_,.pointer (some ⟨w.heap.size,0,none⟩),.inl ?_,?_,hS.push (by intro p;simp[Par]) hpush (.iter rfl (hup _ _ hi)),Fm.push hS hn hlo hpush⟩
        ·simp[execOp,ho,e,Instr.range,run_underlying hu,run_getObj_map h1]
        ·simpa[ptrTo]using VRel.ptr (off:=0) (sp:=none) (Inj.up_self ι s.nx ⟨w.heap.size,0,0⟩)
       |_=>trivial
    |_=>simp only[he];trivial
   |string=>
    intro ι g ρ ob mk hv hr
    have hrx:=hr x (by simp[ho,Op.operands]) hx
    simp only[]at hv
    cases he:ev g x<;>simp only[he]at hv<;>try (cases hv;done)
    rename_i b
    simp only[Option.some.injEq,Prod.mk.injEq]at hv
    obtain⟨rfl,rfl⟩:=hv
    rw[he]at hrx
    have e:=hrx.string_inv
    refine⟨by intro p;simp[Par],fun w=>⟨0,.stringIter b 0,_,.pointer (some ⟨w.heap.size,0,none⟩),WPush.mk' w _,?_,?_⟩⟩
    ·simp[execOp,ho,e,Instr.range,run_underlying hu]
    ·intro ι' b' _ hb
     exact⟨.sit rfl (by simp),by simpa[ptrTo]using VRel.ptr (off:=0) (sp:=none) hb⟩
   |_=>exact RunOk.no _ _
theorem run_getObj_sit {r:Nat} {b:ByteArray} {pos:Nat} (h:w.heap[r]? =some (.stringIter b pos)):(getObj r).run P w= .ok (.stringIter b pos) w:=by
 simp only[getObj,Sem.run,h]
theorem drop_cons_get {b:ByteArray} {pos:Nat} {c:UInt8} {l:List UInt8} (h:c::l=b.data.toList.drop pos):pos<b.size∧b.get! pos=c∧l=b.data.toList.drop (pos+1):=by
 have hlt:pos<b.data.toList.length:=by
  rcases Nat.lt_or_ge pos b.data.toList.length with x|x
  ·exact x
  ·rw[List.drop_eq_nil_of_le x]at h;cases h
 rw[List.drop_eq_getElem_cons hlt]at h
 simp only[List.cons.injEq]at h
 refine⟨by simpa using hlt,?_,h.2⟩
 rw[h.1]
 show b.data[pos]! =_
 have:pos<b.data.size:=by simpa using hlt
 rw[getElem!_pos b.data pos this];simp
theorem decode_ascii {b:ByteArray} {pos:Nat} {c:UInt8} (h:b.get! pos=c) (hc:c.toNat<128):Utf8.decode b pos=(c.toNat,1):=by
 simp only[Utf8.decode,Nat.add_zero,h,hc,if_true]
theorem ok_nextS {it:Operand} (ho:o.op= .next it true) (hx:opdOk it=true):HdOk P o (fun g s=>match ev g it with
 | .pointer (some ⟨r,0,_⟩)=>match s.h.get r with
  |some (.sit l b pos)=>match l with
   |[]=> .val (.tuple #[.bool false]) s
   |c::l=>bif Nat.blt c.toNat 128&&Nat.ble s.lo r then .val (.tuple #[.bool true,goInt pos,.int .i32 c.toNat]) (s.put r (.sit l b (Nat.succ pos)))else .bad 128
  |_=> .bad 129
 |_=> .bad 130):=by
 intro hb ι s w g ρ hS hn hlo hr
 have hrx:=hr it (by simp[ho,Op.operands]) hx
 cases he:ev g it with
 |pointer p=>
  cases p with
  |none=>simp only[he];trivial
  |some p=>
   obtain⟨r,off,sp⟩:=p
   cases off with
   |succ n=>simp only[he];trivial
   |zero=>
    simp only[he]
    cases hgr:s.h.get r with
    |none=>trivial
    |some ob=>
     cases ob with
     |sit l b pos=>
      rw[he]at hrx
      obtain⟨lc,hi,e⟩:=hrx.ptr_inv
      obtain⟨o',q1,q2⟩:=hS.obj r lc _ hi hgr
      cases q2 with
      |sit hz hd=>
       cases l with
       |nil=>
        refine⟨ι,w,.tuple #[.bool false],.inl ?_,.tuple (.cons (.bool _) .nil),hS,Fm.refl _ _ _ _⟩
        have hge: ¬pos<b.size:=by
         intro h
         have:b.data.toList.drop pos≠[]:=by
          rw[List.drop_eq_getElem_cons (by simpa using h)];simp
         exact this hd.symm
        simp[execOp,ho,e,Instr.next,hz,run_getObj_sit q1,hge]
       |cons c l=>
        simp only[]
        cases hc:Nat.blt c.toNat 128&&Nat.ble s.lo r with
        |false=>trivial
        |true=>
         simp only[Bool.and_eq_true,Nat.ble_eq,Nat.blt_eq]at hc
         obtain⟨d1,d2,d3⟩:=drop_cons_get hd
         have hdec:=decode_ascii d2 hc.1
         obtain⟨h1,h2⟩:=setObj_run (P:=P) (o1:= .stringIter b (pos+1)) q1 (by intro c e f h;cases h)
         refine⟨ι,_,.tuple #[.bool true,goInt pos,.int .i32 c.toNat],.inl ?_,.tuple (.cons (.bool _) (.cons (.int _ _) (.cons (.int _ _) .nil))),
          hS.putO hi hgr (by intro b h;cases h) (by intro p;simp[Par]) h2 (.sit hz d3),Fm.put hi hgr trivial hc.2 h2⟩
         simp[execOp,ho,e,Instr.next,hz,run_getObj_sit q1,d1,hdec,h1]
     |_=>trivial
 |_=>simp only[he];trivial
theorem run_getObj_iter {r:Nat} {m:Option Nat} {since:Nat} {seen:Array Nat} {st:Nat} (h:w.heap[r]? =some (.mapIter m since seen st)):(getObj r).run P w= .ok (.mapIter m since seen st) w:=by
 simp only[getObj,Sem.run,h]
theorem ok_next {it:Operand} {b:Bool} (ho:o.op= .next it b):RunOk P o (cr P (.next it b)):=by
 simp only[cr]
 cases hs:opdOk it&&b with
 |true=>
  simp only[Bool.and_eq_true]at hs
  obtain⟨hs,rfl⟩:=hs
  exact ok_nextS ho hs
 |false=>
 simp only[cond_false]
 cases hx:opdOk it&&!b with
 |false=>exact RunOk.no _ _
 |true=>
  simp only[Bool.and_eq_true,Bool.not_eq_true']at hx
  obtain⟨hx,rfl⟩:=hx
  intro hb ι s w g ρ hS hn hlo hr
  have hrx:=hr it (by simp[ho,Op.operands]) hx
  have main: ∀r sp m c,ev g it= .pointer (some ⟨r,0,sp⟩)→s.h.get r=some (.iter (some m) c)→s.h.get m=some (.map [] c)→
   HdPost P hb ι s w ρ o (.val (.tuple #[.bool false]) s):=by
   intro r sp m c he hgr hgm
   rw[he]at hrx
   obtain⟨l,hi,e⟩:=hrx.ptr_inv
   obtain⟨o',q1,q2⟩:=hS.obj r l _ hi hgr
   cases q2 with
   |iter hz him=>
    rename_i lm
    obtain⟨es',lst,h1,h2,h3,_,_,_⟩:=hS.mapAt him hgm
    have hes:es'= #[]:=by
     cases h3
     have:=h2.length_eq
     simp at this
     exact Array.size_eq_zero_iff.1 this.symm
    subst hes
    refine⟨ι,w,.tuple #[.bool false],.inl ?_,.tuple (.cons (.bool _) .nil),hS,Fm.refl _ _ _ _⟩
    simp[execOp,ho,e,Instr.next,hz,run_getObj_iter q1,run_getObj_map h1,Question.forced]
  cases he:ev g it with
  |pointer p=>
   cases p with
   |none=>simp only[he];trivial
   |some p=>
    obtain⟨r,off,sp⟩:=p
    cases off with
    |succ n=>simp only[he];trivial
    |zero=>
     simp only[he]
     cases hgr:s.h.get r with
     |none=>trivial
     |some ob=>
      cases ob with
      |iter m c=>
       cases m with
       |none=>trivial
       |some m=>
        simp only[]
        cases hgm:s.h.get m with
        |none=>trivial
        |some om=>
         cases om with
         |map es c'=>
          cases es with
          |cons _ _=>trivial
          |nil=>
           simp only[]
           cases hc:Nat.beq c c' with
           |false=>trivial
           |true=>
            have:=Nat.eq_of_beq_eq_true hc
            subst this
            exact main r sp m c he hgr hgm
         |_=>trivial
      |_=>trivial
  |_=>simp only[he];trivial
theorem allNotTup_evs {g:T Value} : ∀ {xs:List Operand},allNotTup (evs g xs)=true→ ∀x∈xs,notTup (ev g x)=true
 |[],_,x,h=>by simp at h
 |y::ys,h,x,hx=>by
  simp only[evs,allNotTup,Bool.and_eq_true]at h
  rcases List.mem_cons.1 hx with rfl|hm
  ·exact h.1
  ·exact allNotTup_evs h.2 x hm
theorem bodyOk_run {f:FuncId} (h:bodyOk P f=true) (args:Array Value) (w:World):(callFunc f args).run P w= .ok (.enter f args) w:=by
 unfold bodyOk at h
 cases hf:P.funcs[f]? with
 |none=>simp[hf]at h
 |some fn=>
  simp only[hf,Bool.and_eq_true,Bool.not_eq_true']at h
  have hb:fn.body.isNone=false:=by cases hb:fn.body<;>simp_all
  simp only[callFunc,Sem.run_bind,run_program,Result.andThen_ok,hf,h.2,Bool.false_eq_true,if_false,hb,Sem.run_pure]
theorem VRel.yield_inv {l:Nat} {a b:Array Value} {v:Value} (h:VRel ι (.func (.yield l) a b) v): ∃lb,ι l=some lb∧v= .func (.yield lb.blk) #[] #[]:=by
 cases h with
 |yield hi=>exact⟨_,hi,rfl⟩
theorem ok_callV {c:Call} {f:Operand} (ho:o.op= .call c) (hc:c.callee= .value f):RunOk P o (callR P c):=by
 simp only[callR,hc]
 cases hx:opdOk f&&opdsOk c.args.toList with
 |false=>exact RunOk.no _ _
 |true=>
  simp only[Bool.and_eq_true]at hx
  intro hb ι s w g ρ hS hn hlo hr
  have hops:o.op.operands.toList=f::c.args.toList:=by simp[ho,Op.operands,Call.operands,hc]
  have hrf:=hr f (by rw[hops];simp) hx.1
  have hra:=evs_rel hx.2 (hr.sub (by rw[hops];intro x hx;simp[hx]))
  simp only[]
  cases hn':allNotTup (evs g c.args.toList)with
  |false=>trivial
  |true=>
   simp only[cond_true]
   unfold callV
   cases he:ev g f with
   |func fn first captured=>
    cases fn with
    |func fi=>
     simp only[]
     cases hbo:bodyOk P fi with
     |false=>trivial
     |true=>
      rw[he]at hrf
      obtain⟨a',b',e,h1,h2⟩:=hrf.func_inv
      refine⟨hbo,a'++c.args.map ρ++b',?_,?_⟩
      ·simp only[execOp,ho,resolve,hc,e,Deferred.ofValue,Sem.run_bind,Sem.run_pure,Result.andThen_ok,invoke,bodyOk_run hbo]
      ·simpa using(h1.append hra).append h2
    |yield l=>
     rw[he]at hrf
     obtain⟨lb,hi,e⟩:=hrf.yield_inv
     refine⟨lb,c.args.map ρ,hi,by simpa using hra,?_⟩
     simp only[execOp,ho,resolve,hc,e,Deferred.ofValue,Sem.run_bind,Sem.run_pure,Result.andThen_ok,invoke]
     simp
    |_=>trivial
   |_=>trivial
theorem ok_defer {c:Call} (ho:o.op= .defer c):RunOk P o (cr P (.defer c)):=by
 simp only[cr]
 cases hc:c.callee with
 |value f=>
  simp only[]
  cases hx:opdOk f&&opdsOk c.args.toList with
  |false=>exact RunOk.no _ _
  |true=>
   simp only[Bool.and_eq_true]at hx
   intro hb ι s w g ρ hS hn hlo hr
   have hops:o.op.operands.toList=f::c.args.toList:=by simp[ho,Op.operands,Call.operands,hc]
   have hrf:=hr f (by rw[hops];simp) hx.1
   have hra:=evs_rel hx.2 (hr.sub (by rw[hops];intro x hx;simp[hx]))
   simp only[]
   cases hn':allNotTup (evs g c.args.toList)with
   |false=>trivial
   |true=>
    simp only[cond_true]
    cases he:ev g f with
    |func fn first captured=>
     cases fn with
     |func fi=>
      simp only[]
      cases hbo:bodyOk P fi with
      |false=>trivial
      |true=>
       rw[he]at hrf
       obtain⟨a',b',e,h1,h2⟩:=hrf.func_inv
       refine⟨hbo,{ target:= .fn (.func fi) b',args:=a'++c.args.map ρ },?_,.call h2 (by simpa using h1.append hra)⟩
       simp only[execOp,ho,resolve,hc,e,Deferred.ofValue,Sem.run_bind,Sem.run_pure,Result.andThen_ok]
     |_=>trivial
    |_=>trivial
 |_=>exact RunOk.no _ _
theorem ok_panic {x:Operand} (ho:o.op= .panic x):RunOk P o (cr P (.panic x)):=by
 simp only[cr]
 cases hx:opdOk x with
 |false=>exact RunOk.no _ _
 |true=>
  intro hb ι s w g ρ hS hn hlo hr
  have hrx:=hr x (by simp[ho,Op.operands]) hx
  cases he:ev g x with
  |iface t v=>
   simp only[he]
   rw[he]at hrx
   obtain⟨v',e,h⟩:=hrx.iface_inv
   exact⟨v',by simp[execOp,ho,e,Instr.panic],h⟩
  |_=>simp only[he];trivial
theorem ok_recover {c:Call} (ho:o.op= .call c) (hc:c.callee= .builtin .recover):RunOk P o (builtinR P .recover c):=by
 simp only[builtinR]
 match ha:c.args.toList with
 |[]=>
  intro hb ι s w g ρ hS hn hlo hr
  show(execOp ρ o).run P w= .ok .recover w
  rw[call_builtin ho hc,args_of ha]
  rfl
 |_::_=>exact RunOk.no _ _
end
end Go.AM
namespace Go.AM
noncomputable section
variable {P:Program} {o:Oper} {ι:Inj} {s:S} {w w':World}
inductive Second (P:Program) (argT:Array TypeId):Bool→Prop
 |none:argT[1]? =Option.none→Second P argT false
 |no {t:TypeId} {d:TypeDesc} :argT[1]? =some t→P.underlying t=some d→(∀k,d≠ .int k)→Second P argT false
 |yes {t:TypeId} {k:IntKind} :argT[1]? =some t→P.underlying t=some (.int k)→Second P argT true
theorem second_of {argT:Array TypeId} (h:typeOk P argT[1]? =true):Second P argT (isIntT P argT[1]?):=by
 cases h1:argT[1]? with
 |none=>simp only[isIntT];exact .none h1
 |some t=>
  rw[h1]at h
  simp only[typeOk]at h
  obtain⟨d,hd⟩:=Option.isSome_iff_exists.1 h
  simp only[isIntT,hd]
  cases d<;>first|exact .yes h1 hd|exact .no h1 hd (by intro k h;cases h)
theorem run_append_in {argT:Array TypeId} {ty t e:TypeId} {i:TypeInfo} (ht:argT[0]? =some t) (hu:P.underlying t=some (.slice e)) (hi:P.info? e=some i) (hsec:Second P argT false)
 {base:Option Addr} {len cap n:Nat} {y:Value} {new:Array Value} (hl:(Builtin.lenOf y).run P w= .ok n w) (hf:(Builtin.firstCells i.size n y).run P w= .ok new w) (hc:len+n≤cap)
 (hst: ∀a,base=some a→(storeCells (a.add (len*i.size)) new.toList).run P w= .ok () w') (hno:base=none→w'=w):
 (Builtin.append_ argT ty #[.slice base len cap,y]).run P w= .ok (.slice base (len+n) cap) w':=by
 have hs:szOf P e=some i.size:=by simp[szOf,hi]
 cases hsec with
 |none h1=>
  cases base with
  |none=>have:=hno rfl;subst this;simp[Builtin.append_,ht,run_underlying hu,run_sizeOf' hs,h1,hl,hf,hc]
  |some a=>simp[Builtin.append_,ht,run_underlying hu,run_sizeOf' hs,h1,hl,hf,hc,hst a rfl]
 |no h1 h2 h3=>
  rename_i xt d
  have hm:(match d with| .int _=>true|_=>false)=false:=by cases d<;>first|rfl|exact absurd rfl (h3 _)
  cases base with
  |none=>have:=hno rfl;subst this;simp[Builtin.append_,ht,run_underlying hu,run_sizeOf' hs,h1,run_underlying h2,hm,hl,hf,hc]
  |some a=>simp[Builtin.append_,ht,run_underlying hu,run_sizeOf' hs,h1,run_underlying h2,hm,hl,hf,hc,hst a rfl]
theorem growBy_le (m:Nat): ∀(r c:Nat),Builtin.growBy m r c≤(c+768)*2 ^ r
 |0,c=>by simp[Builtin.growBy]
 |r+1,c=>by
  simp only[Builtin.growBy]
  split
  ·have h1:0<2 ^ (r+1):=Nat.two_pow_pos _
   have:=Nat.le_mul_of_pos_right (c+768) h1
   omega
  ·have:=growBy_le m r (c+(c+768) / 4)
   have h2:(c+(c+768) / 4+768)≤(c+768)*2:=by omega
   calc Builtin.growBy m r (c+(c+768) / 4)≤(c+(c+768) / 4+768)*2 ^ r:=this
    _≤((c+768)*2)*2 ^ r:=Nat.mul_le_mul_right _ h2
    _=(c+768)*2 ^ (r+1):=by rw[Nat.pow_succ,Nat.mul_assoc,Nat.mul_comm 2]
theorem nextslicecap_le {need cap:Nat} (h:cap<need):Builtin.nextslicecap need cap≤(need+768)*16:=by
 unfold Builtin.nextslicecap
 split
 ·omega
 ·split
  ·omega
  ·have:=growBy_le need 4 cap
   exact Nat.le_trans this (Nat.mul_le_mul_right 16 (by omega))
theorem next_bytes {need cap b:Nat} (h:cap<need) (hb:need*b≤1000000000) (hn:need≤1000000000): ¬(Builtin.nextslicecap need cap*b>2 ^ 48):=by
 have h1:=nextslicecap_le h
 have h2:=Nat.mul_le_mul_right b h1
 have h3:(need+768)*16*b=16*(need*b)+12288*b:=by
  rw[Nat.mul_assoc,Nat.mul_comm 16 b,←Nat.mul_assoc,Nat.add_mul,Nat.add_mul]
  omega
 have h4:b≤need*b:=Nat.le_mul_of_pos_left b (by omega)
 omega
theorem zeroCells_eq {z:Array Value} (n:Nat) (hz:z.size≠0):(Builtin.zeroCells z n).toList=repL n z.toList:=by
 unfold Builtin.zeroCells
 exact zeros_eq hz rfl
theorem zeroCells_size (z:Array Value) (n:Nat):(Builtin.zeroCells z n).size=n*z.size:=by simp[Builtin.zeroCells]
theorem run_append_out {argT:Array TypeId} {ty t e:TypeId} {i:TypeInfo} {z:Value} (ht:argT[0]? =some t) (hu:P.underlying t=some (.slice e)) (hi:P.info? e=some i) (hz:i.zero=some z) (hsec:Second P argT false)
 {base:Option Addr} {len cap n:Nat} {y:Value} {old new:Array Value} (hl:(Builtin.lenOf y).run P w= .ok n w) (hf: ∀w1,WSame w w1→(Builtin.firstCells i.size n y).run P w1= .ok new w1)
 (ho: ∀w1,WSame w w1→(Builtin.firstCells i.size len (.slice base len cap)).run P w1= .ok old w1) (hc:cap<len+n) (hb:(len+n)*i.bytes≤1000000000) (hn:len+n≤1000000000):
 ∃nc d,len+n≤nc∧(Builtin.append_ argT ty #[.slice base len cap,y]).run P w=
  .ok (.slice (some ⟨w.heap.size,0,none⟩) (len+n) nc) { w with heap:=w.heap.push (.cells (old++new++Builtin.zeroCells z.cells (nc - (len+n))) e),drawn:=d } :=by
 have hs:szOf P e=some i.size:=by simp[szOf,hi]
 have hzo:zeroOf P e=some z:=by simp[zeroOf,hi,hz]
 have hnot: ¬(len+n≤cap):=by omega
 have hbig: ¬((len+n:Nat):Int)>9223372036854775807:=by omega
 have hbig': ¬(9223372036854775807<(len:Int)+(n:Int)):=by omega
 have hnx:=next_bytes hc hb hn
 have hnx': ¬(281474976710656<Builtin.nextslicecap (len+n) cap*i.bytes):=by simpa using hnx
 refine⟨(Question.appendCap (len+n) cap e).cut (w.tape w.drawn (.appendCap (len+n) cap e)),w.drawn+1,by simp[Question.cut],?_⟩
 have hf':=hf w.drew ⟨rfl,rfl,rfl,rfl⟩
 have ho':=ho w.drew ⟨rfl,rfl,rfl,rfl⟩
 cases hsec with
 |none h1=>
  simp[Builtin.append_,ht,run_underlying hu,run_sizeOf' hs,h1,hl,hnot,run_typeInfo' hi,hbig',hnx',Question.forced,hf',ho',run_zeroValue' hzo,newRow,Array.append_assoc]
  rfl
 |no h1 h2 h3=>
  rename_i xt d
  have hm:(match d with| .int _=>true|_=>false)=false:=by cases d<;>first|rfl|exact absurd rfl (h3 _)
  simp[Builtin.append_,ht,run_underlying hu,run_sizeOf' hs,h1,run_underlying h2,hm,hl,hnot,run_typeInfo' hi,hbig',hnx',Question.forced,hf',ho',run_zeroValue' hzo,newRow,Array.append_assoc]
  rfl
theorem run_append_in0 {argT:Array TypeId} {ty t e:TypeId} {i:TypeInfo} {z:Value} (ht:argT[0]? =some t) (hu:P.underlying t=some (.slice e)) (hi:P.info? e=some i) (hz:i.zero=some z) (hsec:Second P argT true)
 {base:Option Addr} {len cap n:Nat} {k:IntKind} (hn:n≤1000000) (hnb:n*i.bytes≤1000000000) (hc:len+n≤cap) (hsz:i.size≠0)
 (hst: ∀a,base=some a→(storeCells (a.add (len*i.size)) (Builtin.zeroCells z.cells n).toList).run P w= .ok () w') (hno:base=none→w'=w):
 (Builtin.append_ argT ty #[.slice base len cap,.int k (n:Int)]).run P w= .ok (.slice base (len+n) cap) w':=by
 have hs:szOf P e=some i.size:=by simp[szOf,hi]
 have hzo:zeroOf P e=some z:=by simp[zeroOf,hi,hz]
 have hw:IntKind.i64.wrap (n:Int)=n:=wrap64_id (by omega) (by omega)
 have h0: ¬((n:Int)<0):=by omega
 have hnb2:(n:Int)*(i.bytes:Int)=((n*i.bytes:Nat):Int):=by simp
 have hbig: ¬((n:Int)*(i.bytes:Int)>2 ^ 48):=by rw[hnb2];omega
 have hbig': ¬(281474976710656<(n:Int)*(i.bytes:Int)):=by rw[hnb2];omega
 cases hsec with
 |yes h1 h2=>
  by_cases hn0:n=0
  ·subst hn0
   have hw0:IntKind.i64.wrap 0=0:=by decide
   have hzc:(Builtin.zeroCells z.cells 0)= #[]:=by simp[Builtin.zeroCells]
   rw[hzc]at hst
   cases base with
   |none=>
    have:=hno rfl;subst this
    simp[Builtin.append_,ht,run_underlying hu,run_sizeOf' hs,h1,run_underlying h2,asInt,asIntOf,hw,run_typeInfo' hi,hc,hw0]
    omega
   |some a=>
    have:=hst a rfl
    simp at this
    simp[Builtin.append_,ht,run_underlying hu,run_sizeOf' hs,h1,run_underlying h2,asInt,asIntOf,hw,run_typeInfo' hi,hc,this,hw0]
    omega
  ·have hns: ¬(n*i.size=0):=by rw[Nat.mul_eq_zero];omega
   cases base with
   |none=>have:=hno rfl;subst this;simp[Builtin.append_,ht,run_underlying hu,run_sizeOf' hs,h1,run_underlying h2,asInt,asIntOf,hw,run_typeInfo' hi,hc,h0,hbig',hns,run_zeroValue' hzo]
   |some a=>simp[Builtin.append_,ht,run_underlying hu,run_sizeOf' hs,h1,run_underlying h2,asInt,asIntOf,hw,run_typeInfo' hi,hc,h0,hbig',hns,run_zeroValue' hzo,hst a rfl]
theorem run_append_out0 {argT:Array TypeId} {ty t e:TypeId} {i:TypeInfo} {z:Value} (ht:argT[0]? =some t) (hu:P.underlying t=some (.slice e)) (hi:P.info? e=some i) (hz:i.zero=some z) (hsec:Second P argT true)
 {base:Option Addr} {len cap n:Nat} {k:IntKind} {old:Array Value} (hn1:n≤1000000) (hnb:n*i.bytes≤1000000000) (hsz:i.size≠0)
 (ho: ∀w1,WSame w w1→(Builtin.firstCells i.size len (.slice base len cap)).run P w1= .ok old w1) (hc:cap<len+n) (hb:(len+n)*i.bytes≤1000000000) (hn:len+n≤1000000000):
 ∃nc d,len+n≤nc∧(Builtin.append_ argT ty #[.slice base len cap,.int k (n:Int)]).run P w=
  .ok (.slice (some ⟨w.heap.size,0,none⟩) (len+n) nc) { w with heap:=w.heap.push (.cells (old++Builtin.zeroCells z.cells n++Builtin.zeroCells z.cells (nc - (len+n))) e),drawn:=d } :=by
 have hs:szOf P e=some i.size:=by simp[szOf,hi]
 have hzo:zeroOf P e=some z:=by simp[zeroOf,hi,hz]
 have hw:IntKind.i64.wrap (n:Int)=n:=wrap64_id (by omega) (by omega)
 have h0: ¬((n:Int)<0):=by omega
 have hnb2:(n:Int)*(i.bytes:Int)=((n*i.bytes:Nat):Int):=by simp
 have hbig2: ¬(281474976710656<(n:Int)*(i.bytes:Int)):=by rw[hnb2];omega
 have hnot: ¬(len+n≤cap):=by omega
 have hbig': ¬(9223372036854775807<(len:Int)+(n:Int)):=by omega
 have hnx:=next_bytes hc hb hn
 have hnx': ¬(281474976710656<Builtin.nextslicecap (len+n) cap*i.bytes):=by simpa using hnx
 refine⟨(Question.appendCap (len+n) cap e).cut (w.tape w.drawn (.appendCap (len+n) cap e)),w.drawn+1,by simp[Question.cut],?_⟩
 have ho':=ho w.drew ⟨rfl,rfl,rfl,rfl⟩
 cases hsec with
 |yes h1 h2=>
  by_cases hn0:n=0
  ·subst hn0
   have hw0:IntKind.i64.wrap 0=0:=by decide
   have hzc:(Builtin.zeroCells z.cells 0)= #[]:=by simp[Builtin.zeroCells]
   have hcl: ¬len≤cap:=by omega
   have hbl: ¬(9223372036854775807<(len:Int)):=by omega
   have hnl: ¬(281474976710656<Builtin.nextslicecap len cap*i.bytes):=by simpa using hnx'
   simp[Builtin.append_,ht,run_underlying hu,run_sizeOf' hs,h1,run_underlying h2,asInt,asIntOf,hw,run_typeInfo' hi,hw0,hcl,hbl,hnl,Question.forced,ho',run_zeroValue' hzo,newRow,hzc]
   rfl
  ·have hns: ¬(n*i.size=0):=by rw[Nat.mul_eq_zero];omega
   simp[Builtin.append_,ht,run_underlying hu,run_sizeOf' hs,h1,run_underlying h2,asInt,asIntOf,hw,run_typeInfo' hi,hnot,h0,hbig2,hbig',hnx',hns,Question.forced,ho',run_zeroValue' hzo,newRow,Array.append_assoc]
   rfl
end
end Go.AM
namespace Go.AM
noncomputable section
variable {P:Program} {o:Oper} {ι:Inj} {s:S} {w w':World} {hb:Nat}
theorem SRel.bind (h:SRel P ι s w) {b:Nat} {l':Loc} {o:AObj} {o':Obj} (hu:ι b=none) (hg:s.h.get b=some o) (hn:b<s.nx)
 (hp: ∀p,Par o p→ι p≠none∧ ∀o',s.h.get p=some o'→ ∃bb:Blk,o'= .blk bb∧bb.st≠0)
 (hold: ∀c,c<w.heap.size→w'.heap[c]? =w.heap[c]?) (hsz:w.heap.size≤w'.heap.size) (hlt:l'.blk<w'.heap.size)
 (hat:w'.heap[l'.blk]? =some o') (hr:ORel P (ι.up b l') l' o o')
 (hal: ∀id2 l2 o2,ι id2=some l2→l2.blk=l'.blk→s.h.get id2=some o2→Dead o2∨Par o id2):SRel P (ι.up b l') s w':=by
 have hx:=Ext.up l' hu
 refine⟨?_,?_,?_,?_,?_⟩
 ·intro id l ob a c
  by_cases e:id=b
  ·subst e
   rw[Inj.up_self]at a;cases a
   rw[hg]at c;cases c
   exact⟨o',hat,hr⟩
  ·rw[Inj.up_ne _ _ e]at a
   obtain⟨x,y,r⟩:=h.obj id l ob a c
   exact⟨x,by rw[hold _ (h.bound _ _ a)];exact y,r.mono hx⟩
 ·intro id hi
  rw[Inj.up_ne _ _ (by omega)];exact h.fresh id hi
 ·intro id l a
  by_cases e:id=b
  ·subst e;rw[Inj.up_self]at a;cases a;exact hlt
  ·rw[Inj.up_ne _ _ e]at a;have:=h.bound _ _ a;omega
 ·intro id1 id2 l1 l2 o1 o2 hne a c e d f
  by_cases e1:id1=b
  ·subst e1;rw[Inj.up_self]at a;cases a
   rw[Inj.up_ne _ _ (Ne.symm hne)]at c
   rw[hg]at d;cases d
   rcases hal id2 l2 o2 c e.symm f with x|x
   ·exact .inr (.inl x)
   ·exact .inr (.inr (.inl x))
  ·rw[Inj.up_ne _ _ e1]at a
   by_cases e2:id2=b
   ·subst e2;rw[Inj.up_self]at c;cases c
    rw[hg]at f;cases f
    rcases hal id1 l1 o1 a e d with x|x
    ·exact .inl x
    ·exact .inr (.inr (.inr x))
   ·rw[Inj.up_ne _ _ e2]at c
    exact h.alias id1 id2 l1 l2 o1 o2 hne a c e d f
 ·intro id ob p c a hd hpp
  have key:ι p≠none→ι.up b l' p≠none:=fun x=>by
   by_cases e2:p=b
   ·subst e2;rw[Inj.up_self];simp
   ·rw[Inj.up_ne _ _ e2];exact x
  by_cases e:id=b
  ·subst e;rw[hg]at c;cases c
   exact⟨key (hp p hpp).1,(hp p hpp).2⟩
  ·rw[Inj.up_ne _ _ e]at a
   obtain⟨x,y⟩:=h.par id ob p c a hd hpp
   exact⟨key x,y⟩
theorem Fm.bind {b:Nat} {l':Loc} (hu:ι b=none) (hbb:hb≤b)
 (hold: ∀c,c<w.heap.size→w'.heap[c]? =w.heap[c]?) (hsz:w.heap.size≤w'.heap.size)
 (hl:w.heap.size≤l'.blk∨OwnedL ι s l'.blk) (os:w'.os=w.os) (out:w'.output=w.output) (tape:w'.tape=w.tape):Fm hb ι s w (ι.up b l') s w':=by
 refine {
  ext:=Ext.up _ hu,keep:=?_,new:=?_,heap:=fun c hc _=>hold c hc,own:=?_,ownL:=?_,absent:=fun _ _ h=>h,low:=fun _ _=>rfl,lo:=rfl,nx:=Nat.le_refl _,
  size:=hsz,os:=os,out:=out,tape:=tape }
 ·intro id hi hn;exact⟨by rw[Inj.up_ne _ _ (by omega)];exact hn,rfl⟩
 ·intro id l hn hs
  by_cases e:id=b
  ·subst e;rw[Inj.up_self]at hs;cases hs;exact hl
  ·rw[Inj.up_ne _ _ e,hn]at hs;cases hs
 ·rintro c hc ⟨id,l,ob,a,e,g,d⟩
  by_cases e1:id=b
  ·subst e1;rw[Inj.up_self]at a;cases a
   rcases hl with x|⟨i,l,o,_,x⟩
   ·omega
   ·exact e▸⟨i,l,o,x⟩
  ·rw[Inj.up_ne _ _ e1]at a;exact⟨id,l,ob,a,e,g,d⟩
 ·rintro c hc ⟨id,l,ob,z,a,e,g,d⟩
  by_cases e1:id=b
  ·subst e1;rw[Inj.up_self]at a;cases a
   rcases hl with x|x
   ·omega
   ·exact e▸x
  ·rw[Inj.up_ne _ _ e1]at a;exact⟨id,l,ob,z,a,e,g,d⟩
structure AppRun (P:Program) (argT:Array TypeId) (ty e:TypeId) (z:Value) (size bytes:Nat) (w:World) (y':Value) (new':Array Value) (n:Nat):Prop where
 in_: ∀base len cap w',len+n≤cap→(∀a,base=some a→(storeCells (a.add (len*size)) new'.toList).run P w= .ok () w')→(base=none→w'=w)→
  (Builtin.append_ argT ty #[.slice base len cap,y']).run P w= .ok (.slice base (len+n) cap) w'
 out: ∀base len cap old,(∀w1,WSame w w1→(Builtin.firstCells size len (.slice base len cap)).run P w1= .ok old w1)→cap<len+n→(len+n)*bytes≤1000000000→len+n≤1000000000→
  ∃nc d,len+n≤nc∧(Builtin.append_ argT ty #[.slice base len cap,y']).run P w=
   .ok (.slice (some ⟨w.heap.size,0,none⟩) (len+n) nc) { w with heap:=w.heap.push (.cells (old++new'++Builtin.zeroCells z.cells (nc - (len+n))) e),drawn:=d }
def ResPost (P:Program) (hb:Nat) (ι:Inj) (s:S) (w:World) (r:Sem Value):OR→Prop
 | .val v s'=> ∃ι' w' v',r.run P w= .ok v' w'∧VRel ι' v v'∧SRel P ι' s' w'∧Fm hb ι s w ι' s' w'
 | .bad _=>True
 |_=>False
theorem VRelL.get_size {ι:Inj} {l l':List Value} (h:VRelL ι l l'):l'.length=l.length:=h.length.symm
theorem newB_out {ι:Inj} {e:TypeId} {cs:List Value} {cells:Array Value} {extra:Array Value} (k:Nat) (h:VRelL ι cs cells.toList):
 ORel P ι ⟨k,0,(cells++extra).size⟩ (newB e cs) (.cells (cells++extra) e):=by
 have hl:=h.length
 simp only[Array.length_toList]at hl
 refine newB_rel k ?_ (by simp;omega) rfl (.inl rfl)
 simp only[Array.toList_append]
 rw[hl,←Array.length_toList,List.take_left]
 exact h
theorem blk_of_newB {ι:Inj} {l:Loc} {e:TypeId} {cs:List Value} {o':Obj} {q:Option Nat} {st:Nat} (h:ORel P ι l (newB e cs) o'):ORel P ι l (.blk ⟨T.ofList cs 0 .leaf,cs.length,e,q,st⟩) o':=by
 unfold newB at h
 cases h with
 |dead _ a=>omega
 |blk a b c d=>exact .blk a b c d
theorem load_run (h:SRel P ι s w) {a:Addr} {n len cap c' off':Nat} {l:Loc} {vs:List Value} (hi:ι a.block=some l) (hc:s.load a.block a.off (len*n)=some vs)
 (hle:len≤c') (hoff:c'≠0→off'=l.base+a.off):
 ∃vs':Array Value,VRelL ι vs vs'.toList∧vs'.size=len*n∧ ∀w1,WSame w w1→(Builtin.firstCells n len (.slice (some ⟨l.blk,off',none⟩) len cap)).run P w1= .ok vs' w1:=by
 obtain⟨vs',h1,h2,h3⟩:=load_rel h hi hc
 refine⟨vs'.toArray,by simpa using h1,by simpa using h2,fun w1 hw=>?_⟩
 simp only[Builtin.firstCells]
 by_cases h0:c'=0
 ·have:len=0:=by omega
  subst this
  simp only[Nat.zero_mul]at h2⊢
  have:vs'=[]:=List.eq_nil_of_length_eq_zero h2
  subst this
  simp[loadCells,loadCellsFrom]
 ·rw[hoff h0,←h2]
  refine run_loadCells_list _ _ _ fun j v hj=>?_
  rw[←h3 j v hj]
  simp only[World.cell?,hw.heap]
theorem loadS (h:SRel P ι s w) {b off n:Nat} {l:Loc} {vs:List Value} (hi:ι b=some l) (hc:s.load b off n=some vs):
 vs.length=n∧True∧ ∀cells e fr,w.heap[l.blk]? =some (.cells cells e fr)→ ∀i v,vs[i]? =some v→ ∃v',cells[l.base+(off+i)]? =some v'∧VRel ι v v':=by
 unfold S.load at hc
 cases hb:s.blk? b with
 |none=>
  simp only[hb]at hc
  cases hx:s.ext? b with
  |none=>simp[hx]at hc
  |some q=>
   obtain⟨c,m⟩:=q
   simp only[hx]at hc
   cases hk:Nat.ble (Nat.add off n) m with
   |false=>rw[hk]at hc;cases hc
   |true=>
    rw[hk]at hc;simp only[cond_true]at hc
    simp only[Nat.ble_eq,Nat.add_eq]at hk
    obtain⟨h1,h2⟩:=loadL_spec hc
    obtain⟨cells,e,fr,q1,q3,q4⟩:=h.extRow hi hx
    refine⟨h1,trivial,fun cells' e' fr' hh i v hv=>?_⟩
    rw[q1]at hh;cases hh
    have hlt:i<n:=by rw[←h1];exact(List.getElem?_eq_some_iff.1 hv).1
    obtain⟨v0,x1,x2⟩:=h2 i hlt
    rw[hv]at x2;cases x2
    exact q4 (off+i) v x1 (by omega)
 |some x=>
  obtain⟨c,m,e,p,st⟩:=x
  simp only[hb]at hc
  cases hk:Nat.blt st 2&&Nat.ble (Nat.add off n) m with
  |false=>rw[hk]at hc;cases hc
  |true=>
   rw[hk]at hc;simp only[cond_true]at hc
   simp only[Bool.and_eq_true,Nat.blt_eq,Nat.ble_eq]at hk
   obtain⟨hst,hle⟩:=hk
   obtain⟨h1,h2⟩:=loadL_spec hc
   rw[S.blk?_eq]at hb
   obtain⟨cells,fr,q1,q2,q3,q4,q5⟩:=h.row hi hb hst
   refine⟨h1,trivial,fun cells' e' fr' hh i v hv=>?_⟩
   rw[q1]at hh;cases hh
   have hlt:i<n:=by rw[←h1];exact(List.getElem?_eq_some_iff.1 hv).1
   obtain⟨v0,x1,x2⟩:=h2 i hlt
   rw[hv]at x2;cases x2
   have hle':off+n≤m:=hle
   exact q4 (off+i) v x1 (by omega)
theorem symRowMk_spec {row len off:Nat} (hl:len<16777216) (ho:off<1048576):symCode (symRowMk row len off)=15∧symRow (symRowMk row len off)=row∧symLen (symRowMk row len off)=len∧symOff (symRowMk row len off)=off:=by
 have e1: ∀a b:Nat,Nat.div a b=a / b:=fun _ _=>rfl
 have e2: ∀a b:Nat,Nat.mod a b=a % b:=fun _ _=>rfl
 have e:symRowMk row len off=(row*16777216+len)*16777216+(15*1048576+off):=rfl
 rw[e]
 simp only[symCode,symRow,symLen,symOff,symId,e1,e2]
 refine⟨by omega,by omega,by omega,by omega⟩
theorem SRel.row_alone (h:SRel P ι s w) {r:Nat} {l:Loc} {e:TypeId} (hi:ι r=some l) (hg:s.h.get r=some (.row e)) {id2:Nat} {l2:Loc} {o2:AObj} (hne:id2≠r) (i2:ι id2=some l2) (hb:l2.blk=l.blk) (g2:s.h.get id2=some o2):Dead o2:=by
 rcases h.alias id2 r l2 l o2 _ hne i2 hi hb g2 hg with x|x|x|x
 ·exact x
 ·simp[Dead]at x
 ·by_cases hd:Dead o2
  ·exact hd
  ·obtain⟨_,y⟩:=h.par id2 o2 r g2 (by rw[i2];simp) hd x
   obtain⟨b,e1,_⟩:=y _ hg
   cases e1
 ·simp[Par]at x
theorem doAppendR_ok (h:SRel P ι s w) (hn:hb≤s.nx) (hlo:s.lo≤s.nx) {argT:Array TypeId} {ty e:TypeId} {z:Value} {size bytes:Nat} {y':Value} {new:List Value} {new':Array Value} {n:Nat}
 (hA:AppRun P argT ty e z size bytes w y' new' n) (hnew:VRelL ι new new'.toList) (hz:z.cells.size=size) {m:Nat} {x':Value} (hx:VRel ι (.chan (some m)) x'):
 ResPost P hb ι s w (Builtin.append_ argT ty #[x',y']) (doAppendR s e size bytes m new n):=by
 unfold doAppendR
 cases hc:Nat.beq (symCode m) 15&&Nat.beq n 1&&Nat.beq size 1&&allCells new&&Nat.beq new.length 1&&Nat.ble bytes 16&&Nat.blt (symOff m) 1000 with
 |false=>trivial
 |true=>
  simp only[cond_true]
  simp only[Bool.and_eq_true,Nat.beq_eq,Nat.ble_eq,Nat.blt_eq]at hc
  obtain⟨⟨⟨⟨⟨⟨hcode,rfl⟩,rfl⟩,hac⟩,hlen⟩,hby⟩,hoff⟩:=hc
  cases hg:s.h.get (symRow m)with
  |none=>trivial
  |some ob=>
   cases ob with
   |row e'=>
    simp only[]
    cases hc2:Nat.beq e e'&&Nat.ble s.lo (symRow m)with
    |false=>trivial
    |true=>
     simp only[cond_true]
     simp only[Bool.and_eq_true,Nat.beq_eq,Nat.ble_eq]at hc2
     obtain⟨rfl,hlor⟩:=hc2
     obtain⟨l,lz,len,cap,hi,hiz,hnc,hct,hnl,hlz,rfl⟩:=hx.row_inv hcode
     obtain⟨o',ho1,ho2⟩:=h.obj _ _ _ hi hg
     cases ho2 with
     |row hsz hfr=>
      rename_i cells fr
      have hfrn:ι s.nx=none:=h.fresh _ (Nat.le_refl _)
      have hrne:symRow m≠s.nx:=fun x=>by rw[x,hfrn]at hi;cases hi
      have hn1:new'.toList.length=1:=by rw[hnew.get_size,hlen]
      have hlenL:symLen m<16777216:=Nat.mod_lt _ (by omega)
      obtain⟨s1,s2,s3,s4⟩:=symRowMk_spec (row:=s.nx) (len:=symLen m) (off:=Nat.succ (symOff m)) hlenL (by omega)
      have hrow1: ∀(ι':Inj) (l':Loc) (n' c':Nat),ι' s.nx=some l'→ι' (symLen m)=some lz→n'≤c'→l'.base+c'≤l'.top→n'≤lz.base+(symOff m+1)→
       VRel ι' (.chan (some (symRowMk s.nx (symLen m) (Nat.succ (symOff m))))) (.slice (some ⟨l'.blk,l'.base,none⟩) n' c'):=by
       intro ι' l' n' c' a b c d e1
       exact .row s1 (by rw[s2];exact a) (by rw[s3];exact b) c d (by rw[s4];exact e1) hlz
      have hSd:=h.forget (symRow m)
      have hpp:=hSd.prepush (.row e)
      have hget: ∀id,((s.push (.row e)).drop (symRow m)).h.get id=((s.drop (symRow m)).push (.row e)).h.get id:=by
       intro id
       rw[S.drop_get,S.push_get,S.push_get,S.drop_get,S.drop_nx]
       by_cases e1:id=symRow m
       ·rw[if_pos e1,if_neg (by rw[e1];exact hrne),if_pos e1]
       ·rw[if_neg e1,if_neg e1]
      have hxz: ∀(l':Loc),(ι.up s.nx l') (symLen m)=some lz:=fun l'=>by
       rw[Inj.up_ne _ _ (fun x=>by rw[x,hfrn]at hiz;cases hiz)];exact hiz
      rcases Nat.lt_or_ge cap (len+1)with hout'|hin'
      ·
       obtain⟨old,hold,hcl⟩: ∃old:List Value,old.length=len∧ ∀j v,old[j]? =some v→cells[l.base+j]? =some v:=by
        refine⟨(cells.toList.drop l.base).take len,by simp;omega,fun j v hj=>?_⟩
        rw[List.getElem?_take]at hj
        by_cases hjl:j<len
        ·rw[if_pos hjl,List.getElem?_drop]at hj
         simpa using hj
        ·rw[if_neg hjl]at hj;cases hj
       have hrd: ∀w1,WSame w w1→(Builtin.firstCells 1 len (.slice (some ⟨l.blk,l.base,none⟩) len cap)).run P w1= .ok old.toArray w1:=by
        intro w1 hw
        simp only[Builtin.firstCells,Nat.mul_one]
        rw[←hold]
        refine run_loadCells_list _ _ _ fun j v hj=>?_
        have hadd:Addr.add ⟨l.blk,l.base,none⟩ j=⟨l.blk,l.base+j,none⟩:=by
         unfold Addr.add
         by_cases h0:j=0
         ·simp[h0]
         ·simp[h0]
        rw[hadd]
        have:w1.heap[l.blk]? =some (.cells cells e fr):=by rw[hw.heap];exact ho1
        rw[cell_of_heap this]
        exact hcl j v hj
       obtain⟨nc,d,q1,q2⟩:=hA.out (some ⟨l.blk,l.base,none⟩) len cap old.toArray hrd hout' (by
        have:(len+1)*bytes≤(len+1)*16:=Nat.mul_le_mul_left _ hby
        omega) (by omega)
       have hpush:=WPush.mkD w (.cells (old.toArray++new'++Builtin.zeroCells z.cells (nc - (len+1))) e) d
       have htop:(old.toArray++new'++Builtin.zeroCells z.cells (nc - (len+1))).size=nc:=by
        rw[Array.size_append,Array.size_append,zeroCells_size,hz]
        have e1:old.toArray.size=len:=by simp[hold]
        have e2:new'.size=1:=by rw[←Array.length_toList];exact hn1
        rw[e1,e2];omega
       have hbl: ∀(id2:Nat) (l2:Loc),ι id2=some l2→l2.blk≠w.heap.size:=fun id2 l2 a e=>by have:=h.bound _ _ a;omega
       refine⟨ι.up s.nx ⟨w.heap.size,0,nc⟩,_,_,q2,hrow1 _ ⟨w.heap.size,0,nc⟩ _ _ (Inj.up_self _ _ _) (hxz _) q1 (by simp) (by omega),?_,?_⟩
       ·refine SRel.congrG (s:=(s.drop (symRow m)).push (.row e)) ?_ hget (by rw[S.drop_nx,S.push_nx,S.push_nx,S.drop_nx])
        refine hpp.bind hfrn (o:= .row e) (by rw[S.push_get,S.drop_nx,if_pos rfl]) (by rw[S.push_nx,S.drop_nx];omega) (fun p hp=>by simp[Par]at hp) hpush.other (by rw[hpush.size];omega) (by rw[hpush.size];exact Nat.lt_succ_self _) hpush.at_ (.row htop (.inl rfl)) ?_
        intro id2 l2 o2 a b _
        exact absurd b (hbl id2 l2 a)
       ·have f1:=Fm.prepush h hn hlo (.row e)
        have f2:=f1.trans (Fm.bind (hb:=hb) (l':=⟨w.heap.size,0,nc⟩) hfrn hn hpush.other (by rw[hpush.size];omega) (.inl (Nat.le_refl _)) hpush.os hpush.out hpush.tape)
        exact f2.trans (Fm.forget (l:=l) (by rw[Inj.up_ne _ _ hrne];exact hi) (by rw[S.push_lo];exact hlor) hb)
      ·
       obtain⟨w',r1,r2⟩:=run_storeCells_any (P:=P) (b:=l.blk) (off:=l.base+len) new'.toList 0 cells w ho1 (by rw[hsz];exact hfr.or) (by omega) (allCells_one hac hnew)
       simp only[Nat.add_zero]at r2
       have hrun:=hA.in_ (some ⟨l.blk,l.base,none⟩) len cap w' hin' (fun a ha=>by
        cases ha
        rw[Addr.add_none,Nat.mul_one];exact r1) (fun h=>by cases h)
       have hSw:SRel P ι (s.drop (symRow m)) w':=by
        refine hSd.touch r2 ?_
        intro id2 l2 o2 a b c
        have hne:id2≠symRow m:=fun x=>by rw[S.drop_get,if_pos x]at c;cases c
        rw[S.drop_get,if_neg hne]at c
        have:=h.row_alone hi hg hne a b c
        cases o2 with
        |blk bb=>obtain⟨c',m',e',p',st'⟩:=bb;exact .dead _ this
        |_=>simp[Dead]at this
       refine⟨ι.up s.nx ⟨l.blk,l.base,l.top⟩,w',_,hrun,hrow1 _ ⟨l.blk,l.base,l.top⟩ _ _ (Inj.up_self _ _ _) (hxz _) hin' hct (by omega),?_,?_⟩
       ·refine SRel.congrG (s:=(s.drop (symRow m)).push (.row e)) ?_ hget (by rw[S.drop_nx,S.push_nx,S.push_nx,S.drop_nx])
        refine(hSw.prepush (.row e)).bind hfrn (o:= .row e) (by rw[S.push_get,S.drop_nx,if_pos rfl]) (by rw[S.push_nx,S.drop_nx];omega) (fun p hp=>by simp[Par]at hp) (fun _ _=>rfl) (Nat.le_refl _) (by rw[r2.size];exact h.bound _ _ hi) r2.at_
         (.row (by rw[setAll_size];exact hsz) hfr) ?_
        intro id2 l2 o2 a b c
        left
        have hid:id2≠s.nx:=fun x=>by rw[x,hfrn]at a;cases a
        rw[S.push_get,S.drop_nx,if_neg hid]at c
        have hne:id2≠symRow m:=fun x=>by rw[S.drop_get,if_pos x]at c;cases c
        rw[S.drop_get,if_neg hne]at c
        exact h.row_alone hi hg hne a b c
       ·have hown:OwnedL ι s l.blk:=⟨symRow m,l,_,hlor,hi,rfl,hg,trivial⟩
        have f0:=Fm.touch (hb:=hb) (ι:=ι) (s:=s) (w:=w) (b:=l.blk) ⟨symRow m,l,.row e,hi,rfl,hg,trivial⟩ r2
        have hSw0:SRel P ι s w'∨True:= .inr trivial
        have f1:Fm hb ι s w' ι (s.push (.row e)) w':=by
         refine { Fm.refl hb ι s w' with keep:=?_,own:=?_,ownL:=?_,absent:=?_,low:=?_,lo:=S.push_lo _ _,nx:=by rw[S.push_nx];omega }
         ·intro id hi' hn';exact⟨hn',by rw[S.push_get,if_neg (by omega)]⟩
         ·rintro b _ ⟨id,l2,ob,a,e2,c,d⟩
          have hid:id≠s.nx:=fun x=>by subst x;rw[hfrn]at a;cases a
          rw[S.push_get,if_neg hid]at c;exact⟨id,l2,ob,a,e2,c,d⟩
         ·rintro b _ ⟨id,l2,ob,z2,a,e2,c,d⟩
          have hid:id≠s.nx:=fun x=>by subst x;rw[hfrn]at a;cases a
          rw[S.push_get,if_neg hid]at c;exact⟨id,l2,ob,by rwa [S.push_lo]at z2,a,e2,c,d⟩
         ·intro id hlt hg2;rw[S.push_get,if_neg (by omega)];exact hg2
         ·intro id hlt;rw[S.push_get,if_neg (by omega)]
        have f2:=(f0.trans f1).trans (Fm.bind (hb:=hb) (l':=⟨l.blk,l.base,l.top⟩) hfrn hn (fun _ _=>rfl) (Nat.le_refl _)
         (.inr ⟨symRow m,l,.row e,by rw[S.push_lo];exact hlor,hi,rfl,by rw[S.push_get,if_neg hrne];exact hg,trivial⟩) rfl rfl rfl)
        exact f2.trans (Fm.forget (l:=l) (by rw[Inj.up_ne _ _ hrne];exact hi) (by rw[S.push_lo];exact hlor) hb)
   |_=>trivial
theorem doAppend_ok (h:SRel P ι s w) (hn:hb≤s.nx) (hlo:s.lo≤s.nx) {argT:Array TypeId} {ty e:TypeId} {z:Value} {size bytes:Nat} {y':Value} {new:List Value} {new':Array Value} {n:Nat}
 (hA:AppRun P argT ty e z size bytes w y' new' n) (hnew:VRelL ι new new'.toList) (hns:new.length=n*size) (hs0:size≠0) (hz:z.cells.size=size) {x x':Value} (hx:VRel ι x x'):
 ResPost P hb ι s w (Builtin.append_ argT ty #[x',y']) (doAppend s e size bytes x new n):=by
 unfold doAppend
 cases x with
 |slice base len cap=>
  simp only[]
  cases hc:Nat.ble (len+n) cap with
  |true=>
   simp only[cond_true]
   have hc':len+n≤cap:=Nat.le_of_ble_eq_true hc
   cases base with
   |none=>
    have e:=hx.nilslice_inv;subst e
    refine⟨ι,w,_,hA.in_ none len cap w hc' (fun a h=>by cases h) (fun _=>rfl),.nilslice _ _,h,Fm.refl _ _ _ _⟩
   |some a=>
    simp only[]
    cases hac:allCells new with
    |false=>trivial
    |true=>
     simp only[cond_true]
     cases hst:s.store a.block (a.off+len*size) new with
     |none=>trivial
     |some s'=>
      simp only[]
      obtain⟨l,off',c',hi,hnc,hcc,hex,hop,hoff,e⟩:=hx.slice_inv;subst e
      obtain⟨w',r1,r2,r3,_⟩:=store_rel (hb:=hb) h hi hst hnew hac
      refine⟨ι,w',_,hA.in_ (some ⟨l.blk,off',none⟩) len c' w' (by omega) ?_ (fun h=>by cases h),?_,r2,r3⟩
      ·rintro a' ha';cases ha'
       rw[Addr.add_none]
       by_cases h0:c'=0
       ·have h00:n=0:=by omega
        subst h00
        have:new'.toList=[]:=List.eq_nil_of_length_eq_zero (by rw[hnew.get_size,hns,Nat.zero_mul])
        rw[this]at r1⊢
        simpa[storeCells]using r1
       ·rw[hoff h0,Nat.add_assoc];exact r1
      ·obtain⟨ab,ao,asp⟩:=a
       exact .slice hi hc' (by omega) hex hop hoff
  |false=>
   simp only[cond_false]
   have hc':cap<len+n:=by
    rcases Nat.lt_or_ge cap (len+n)with x|x
    ·exact x
    ·rw[Nat.ble_eq_true_of_le x]at hc;cases hc
   cases hbd:Nat.ble ((len+n)*bytes) 1000000000&&Nat.ble (cap*bytes) 1000000000&&Nat.ble (len+n) 1000000000&&Nat.ble cap 1000000000 with
   |false=>trivial
   |true=>
    simp only[cond_true]
    simp only[Bool.and_eq_true,Nat.ble_eq]at hbd
    obtain⟨⟨⟨hb1,_⟩,hb3⟩,_⟩:=hbd
    have hout: ∀(base':Option Addr) (c':Nat) (old:List Value) (old':Array Value),VRelL ι old old'.toList→old.length=len*size→
     (∀w1,WSame w w1→(Builtin.firstCells size len (.slice base' len c')).run P w1= .ok old' w1)→c'<len+n→
     ∃nc d ex,len+n≤nc∧(old'++new'++ex).size=nc*size∧(Builtin.append_ argT ty #[.slice base' len c',y']).run P w=
      .ok (.slice (some ⟨w.heap.size,0,none⟩) (len+n) nc) { w with heap:=w.heap.push (.cells (old'++new'++ex) e),drawn:=d } :=by
     intro base' c' old old' ho hol hf hlt
     obtain⟨nc,d,h1,h2⟩:=hA.out base' len c' old' hf hlt hb1 hb3
     refine⟨nc,d,_,h1,?_,h2⟩
     have e1:old'.size=len*size:=by rw[←hol,←Array.length_toList,ho.get_size]
     have e2:new'.size=n*size:=by rw[←hns,←Array.length_toList,hnew.get_size]
     rw[Array.size_append,Array.size_append,e1,e2,zeroCells_size,hz,←Nat.add_mul,←Nat.add_mul]
     congr 1;omega
    have hnb: ∀(s1:S) (old:List Value) (old':Array Value) (nc d:Nat) (ex:Array Value) (base':Option Addr) (c':Nat) (q:Option Nat),VRelL ι old old'.toList→SRel P ι s1 w→Fm hb ι s w ι s1 w→s1.nx=s.nx→s1.lo=s.lo→
     (∀p,q=some p→ι p≠none∧ ∀o',s1.h.get p=some o'→ ∃bb:Blk,o'= .blk bb∧bb.st≠0)→
     len+n≤nc→(old'++new'++ex).size=nc*size→
     (Builtin.append_ argT ty #[.slice base' len c',y']).run P w=
      .ok (.slice (some ⟨w.heap.size,0,none⟩) (len+n) nc) { w with heap:=w.heap.push (.cells (old'++new'++ex) e),drawn:=d } →
     ResPost P hb ι s w (Builtin.append_ argT ty #[.slice base' len c',y']) (.val (openS size s.nx (len+n) (len+n)) (s1.push (.blk ⟨T.ofList (old++new) 0 .leaf,(old++new).length,e,q,0⟩))):=by
     intro s1 old old' nc d ex base' c' q ho h1 f1 nx1 lo1 hq hnc hsz hrun
     have hrel:VRelL ι (old++new) (old'++new').toList:=by simpa using ho.append hnew
     have hfr:ι s.nx=none:=h.fresh _ (Nat.le_refl _)
     have hpush:=WPush.mkD w (.cells (old'++new'++ex) e) d
     have hbl: ∀(id2:Nat) (l2:Loc),ι id2=some l2→l2.blk≠w.heap.size:=fun id2 l2 a e=>by have:=h.bound _ _ a;omega
     refine⟨ι.up s.nx ⟨w.heap.size,0,nc*size⟩,_,_,hrun,?_,?_,?_⟩
     ·refine .slice (Inj.up_self _ _ _) (Nat.le_refl _) hnc (by intro h;cases h) ?_ (fun _=>rfl)
      intro z' hz' _
      cases hz'
      simp
     ·refine(h1.prepush _).bind hfr (o:= .blk ⟨T.ofList (old++new) 0 .leaf,(old++new).length,e,q,0⟩) (by rw[S.push_get,nx1,if_pos rfl]) (by rw[S.push_nx,nx1];omega) ?_ hpush.other (by rw[hpush.size];omega) (by rw[hpush.size];exact Nat.lt_succ_self _) hpush.at_ ?_ ?_
      ·intro p hp
       simp only[Par]at hp
       obtain⟨a,b⟩:=hq p hp
       refine⟨a,fun o' ho'=>b o' ?_⟩
       rw[S.push_get,if_neg (fun e=>a (by rw[e,nx1];exact hfr))]at ho';exact ho'
      ·have:=newB_out (P:=P) (ι:=ι) (e:=e) (extra:=ex) w.heap.size hrel
       rw[hsz]at this
       exact(blk_of_newB this).mono (Ext.up _ hfr)
      ·intro id2 l2 o2 a b _
       exact absurd b (hbl id2 l2 a)
     ·refine(f1.trans (Fm.prepush h1 (by rw[nx1];exact hn) (by rw[nx1,lo1];exact hlo) (.blk ⟨T.ofList (old++new) 0 .leaf,(old++new).length,e,q,0⟩))).trans ?_
      exact Fm.bind hfr hn hpush.other (by rw[hpush.size];omega) (.inl (Nat.le_refl _)) hpush.os hpush.out hpush.tape
    cases base with
    |none=>
     have e:=hx.nilslice_inv;subst e
     simp only[]
     cases hl0:Nat.beq len 0 with
     |false=>trivial
     |true=>
      simp only[cond_true]
      have hl0':len=0:=Nat.eq_of_beq_eq_true hl0
      subst hl0'
      obtain⟨nc,d,ex,q1,q2,q3⟩:=hout none cap [] #[] .nil (by simp) (fun w1 _=>rfl) hc'
      have:=hnb s [] #[] nc d ex none cap none .nil h (Fm.refl _ _ _ _) rfl rfl (fun p hp=>by cases hp) q1 q2 q3
      simpa[newB]using this
    |some a=>
     obtain⟨l,off',c',hi,hnc,hcc,hex,hop,hoff,ee⟩:=hx.slice_inv;subst ee
     simp only[]
     cases hld:s.load a.block a.off (len*size)with
     |none=>trivial
     |some old=>
      simp only[]
      obtain⟨old',o1,o2,o3⟩:=load_run (cap:=c') h hi hld (by omega) hoff
      have o4:old.length=len*size:=by rw[←o2,←Array.length_toList,o1.get_size]
      cases hsp:a.spot with
      |none=>
       simp only[]
       have hcc':=hex hsp;subst hcc'
       obtain⟨nc,d,ex,q1,q2,q3⟩:=hout (some ⟨l.blk,off',none⟩) _ old old' o1 o4 o3 hc'
       exact hnb s old old' nc d ex _ _ none o1 h (Fm.refl _ _ _ _) rfl rfl (fun p hp=>by cases hp) q1 q2 q3
      |some zz=>
       simp only[]
       cases hbk:s.blk? a.block with
       |none=>trivial
       |some bk=>
        obtain⟨c,m,e',p,st⟩:=bk
        simp only[]
        cases hcond:Nat.beq st 0&&Nat.beq m (a.off+len*size)&&Nat.beq zz size&&Nat.beq e e'&&allCells new&&Nat.ble s.lo a.block with
        |false=>trivial
        |true=>
         simp only[cond_true]
         simp only[Bool.and_eq_true,Nat.beq_eq,Nat.ble_eq]at hcond
         obtain⟨⟨⟨⟨⟨rfl,rfl⟩,rfl⟩,rfl⟩,hac⟩,hlo2⟩:=hcond
         cases hk:s.kill p with
         |none=>trivial
         |some s1=>
          simp only[]
          rw[S.blk?_eq]at hbk
          obtain⟨k1,k2,k3,k4,k5,k6,k7⟩:=h.killed (hb:=hb) (x:=⟨c,_,e,p,0⟩) (by rw[hi];simp) hbk rfl hk
          obtain⟨cells,fr,h1,hsz,htop,h4,hfr⟩:=h.row hi hbk (by omega)
          rw[k3]
          have hne:s.nx≠a.block:=fun x=>by rw[←x,h.fresh _ (Nat.le_refl _)]at hi;cases hi
          have hfrn:ι s.nx=none:=h.fresh _ (Nat.le_refl _)
          rcases Nat.lt_or_ge c' (len+n)with hout'|hin'
          ·
           obtain⟨nc,d,ex,q1,q2,q3⟩:=hout (some ⟨l.blk,off',none⟩) _ old old' o1 o4 o3 hout'
           have hput:WPut w w l.blk (.cells cells e fr):=⟨h1,fun _ _=>rfl,rfl,rfl,rfl,rfl⟩
           refine hnb (s1.put a.block (.blk ⟨c,_,e,none,1⟩)) old old' nc d ex _ _ (some a.block) o1 ?_ ?_ (by rw[S.put_nx,k3]) (by rw[S.put_lo,k4]) ?_ q1 q2 q3
           ·exact k1.put hi k5 (fun q=>by simp[Par]) (fun id2 l2 o2 a b' c' d=>k6 id2 l l2 o2 hi a b' c' d) k7 hput (.blk hsz htop h4 hfr)
           ·exact k2.trans (Fm.put hi k5 (by simp[NotHole]) (by rw[k4];exact hlo2) hput)
           ·rintro p' hp';cases hp'
            refine⟨by rw[hi];simp,fun o' ho'=>?_⟩
            rw[S.put_get,if_pos rfl]at ho';cases ho'
            exact⟨_,rfl,by simp⟩
          ·
           have hc0:c'≠0:=by omega
           have hroom:=hop _ hsp hc0
           have hoff':=hoff hc0
           have hneed:(len+n)*zz≤c'*zz:=Nat.mul_le_mul_right _ hin'
           rw[Nat.add_mul]at hneed
           have hnl:new'.toList.length=n*zz:=by rw[hnew.get_size,hns]
           obtain⟨w',r1,r2⟩:=run_storeCells_any (P:=P) (b:=l.blk) (off:=off'+len*zz) new'.toList 0 cells w h1 (by rw[hsz];exact hfr.or) (by omega) (allCells_one hac hnew)
           simp only[Nat.add_zero]at r2
           have hS1:=k1.put hi k5 (o:= .blk ⟨c,a.off+len*zz,e,none,1⟩) (fun q=>by simp[Par]) (fun id2 l2 o2 a b' c' d=>k6 id2 l l2 o2 hi a b' c' d) k7 r2
            (.blk (by rw[setAll_size];exact hsz) htop (fun i v hv hn=>by
             rw[setAll_get _ _ _ _ (by omega),if_neg (by omega)]
             exact h4 i v hv hn) hfr)
           have hF1:=k2.trans (Fm.put (hb:=hb) hi k5 (o:= .blk ⟨c,a.off+len*zz,e,none,1⟩) (by simp[NotHole]) (by rw[k4];exact hlo2) r2)
           generalize hs2:s1.put a.block (.blk ⟨c,a.off+len*zz,e,none,1⟩)=s2 at hS1 hF1⊢
           have hnx2:s2.nx=s.nx:=by rw[←hs2,S.put_nx,k3]
           have hlo2':s2.lo=s.lo:=by rw[←hs2,S.put_lo,k4]
           have hg2:s2.h.get a.block=some (.blk ⟨c,a.off+len*zz,e,none,1⟩):=by rw[←hs2,S.put_get,if_pos rfl]
           have hg3: ∀id,id≠a.block→s2.h.get id=s1.h.get id:=fun id hid=>by rw[←hs2,S.put_get,if_neg hid]
           have hlast:l.blk<w'.heap.size:=by rw[r2.size];exact h.bound _ _ hi
           refine⟨ι.up s.nx ⟨l.blk,l.base+a.off,l.top⟩,w',_,hA.in_ (some ⟨l.blk,off',none⟩) len c' w' hin' ?_ (fun h=>by cases h),?_,?_,?_⟩
           ·rintro a' ha';cases ha'
            rw[Addr.add_none];exact r1
           ·refine .slice (l:=⟨l.blk,l.base+a.off,l.top⟩) (Inj.up_self _ _ _) (Nat.le_refl _) hin' (by intro h;cases h) ?_ (fun _=>by simp[hoff'])
            intro z' hz' _
            cases hz'
            simpa using hroom
           ·refine(hS1.prepush _).bind hfrn (o:= .blk ⟨T.ofList (old++new) 0 .leaf,(old++new).length,e,some a.block,0⟩) (by rw[S.push_get,hnx2,if_pos rfl]) (by rw[S.push_nx,hnx2];omega) ?_ (fun _ _=>rfl) (Nat.le_refl _) hlast r2.at_ ?_ ?_
            ·rintro p' hp'
             simp only[Par,Option.some.injEq]at hp';subst hp'
             refine⟨by rw[hi];simp,fun o' ho'=>?_⟩
             rw[S.push_get,if_neg (by rw[hnx2];exact Ne.symm hne),hg2]at ho';cases ho'
             exact⟨_,rfl,by simp⟩
            ·refine ORel.mono (Ext.up _ hfrn) ?_
             have hol:old'.toList.length=len*zz:=by simpa using o2
             refine .blk (by rw[setAll_size];exact hsz) (by simp only[List.length_append];omega) ?_ hfr
             intro i v hv hil
             rw[T.get_ofList]at hv
             simp only[Nat.zero_le,true_and,Nat.zero_add]at hv
             rw[if_pos hil]at hv
             simp only[Nat.sub_zero]at hv
             simp only[List.length_append]at hil
             dsimp only
             rw[setAll_get _ _ _ _ (by omega)]
             by_cases hi2:i<old.length
             ·rw[if_neg (by omega)]
              rw[List.getElem?_append_left hi2]at hv
              obtain⟨_,_,hl3⟩:=loadS h hi hld
              obtain⟨v',x1,x2⟩:=hl3 cells e fr h1 i v hv
              exact⟨v',by rw[Nat.add_assoc];exact x1,x2⟩
             ·rw[List.getElem?_append_right (by omega)]at hv
              rw[if_pos (by omega)]
              obtain⟨v',x1,x2⟩:=hnew.get hv
              exact⟨v',by rw[←x1];congr 1;omega,x2⟩
            ·intro id2 l2 o2 ha hb2 hg
             have hid:id2≠s.nx:=fun x=>by rw[x,hfrn]at ha;cases ha
             rw[S.push_get,if_neg (by rw[hnx2];exact hid)]at hg
             by_cases e2:id2=a.block
             ·subst e2;exact .inr rfl
             ·rw[hg3 id2 e2]at hg
              exact .inl (k6 id2 l l2 o2 hi e2 ha hb2 hg)
           ·refine(hF1.trans (Fm.prepush hS1 (by rw[hnx2];exact hn) (by rw[hnx2,hlo2'];exact hlo) (.blk ⟨T.ofList (old++new) 0 .leaf,(old++new).length,e,some a.block,0⟩))).trans ?_
            refine Fm.bind hfrn hn (fun _ _=>rfl) (Nat.le_refl _) (.inr ⟨a.block,l,(.blk ⟨c,a.off+len*zz,e,none,1⟩),by rw[S.push_lo,hlo2'];exact hlo2,hi,rfl,by rw[S.push_get,if_neg (by rw[hnx2];exact Ne.symm hne)];exact hg2,by simp[NotHole]⟩) rfl rfl rfl
 |chan q=>
  cases q with
  |none=>trivial
  |some m=>exact doAppendR_ok h hn hlo hA hnew hz hx
 |_=>trivial
theorem strBytes_app {ι:Inj} (b:ByteArray):VRelL ι (strBytes b.data.toList) (((b.extract 0 b.size).data.map fun x=>Value.int .u8 x.toNat).toList):=by
 have h: ∀l:List UInt8,VRelL ι (strBytes l) (l.map fun x=>Value.int .u8 x.toNat):=by
  intro l
  induction l with
  |nil=>exact .nil
  |cons a l ih=>exact .cons (.int _ _) ih
 have e:(b.extract 0 b.size).data=b.data:=by simp[ByteArray.extract_zero_size]
 rw[e]
 simpa using h b.data.toList
theorem srcOf_ok (h:SRel P ι s w) {size:Nat} {y y':Value} {new:List Value} {n:Nat} (hs:srcOf s size y=some (new,n)) (hy:VRel ι y y'):
 ∃new':Array Value,VRelL ι new new'.toList∧new.length=n*size∧(Builtin.lenOf y').run P w= .ok n w∧ ∀w1,WSame w w1→(Builtin.firstCells size n y').run P w1= .ok new' w1:=by
 cases y with
 |slice a k c=>
  cases a with
  |none=>
   simp only[srcOf]at hs
   cases hb:Nat.beq k 0 with
   |false=>simp[hb]at hs
   |true=>
    simp only[hb,cond_true,Option.some.injEq,Prod.mk.injEq]at hs
    obtain⟨rfl,rfl⟩:=hs
    have:=Nat.eq_of_beq_eq_true hb;subst this
    have:=hy.nilslice_inv;subst this
    exact⟨#[],.nil,by simp,by simp[Builtin.lenOf],fun _ _=>by simp[Builtin.firstCells]⟩
  |some a=>
   simp only[srcOf]at hs
   cases hl:s.load a.block a.off (k*size)with
   |none=>simp[hl]at hs
   |some l0=>
    simp only[hl,Option.some.injEq,Prod.mk.injEq]at hs
    obtain⟨rfl,rfl⟩:=hs
    obtain⟨l,off',c',hi,hnc,hcc,hex,hop,hoff,e⟩:=hy.slice_inv;subst e
    obtain⟨old',o1,o2,o3⟩:=load_run (cap:=c') h hi hl (by omega) hoff
    exact⟨old',o1,by rw[←o2,←Array.length_toList,o1.get_size],by simp[Builtin.lenOf],o3⟩
 |string b=>
  simp only[srcOf]at hs
  cases hb1:Nat.beq size 1 with
  |false=>simp[hb1]at hs
  |true=>
  simp only[hb1,cond_true,Option.some.injEq,Prod.mk.injEq]at hs
  obtain⟨rfl,rfl⟩:=hs
  have:=hy.string_inv;subst this
  have:=Nat.eq_of_beq_eq_true hb1;subst this
  have hr:=strBytes_app (ι:=ι) b
  exact⟨_,hr,by rw[hr.length];simp,by simp[Builtin.lenOf],fun _ _=>by simp[Builtin.firstCells]⟩
 |_=>simp[srcOf]at hs
theorem ResPost.hd {r:Sem Value} {ρ:Operand→Value} {x:OR} (h:ResPost P hb ι s w r x) (he: ∀v w',r.run P w= .ok v w'→(execOp ρ o).run P w= .ok (.value v) w'):HdPost P hb ι s w ρ o x:=by
 cases x with
 |val v s'=>
  obtain⟨ι',w',v',a,b,c,d⟩:=h
  exact⟨ι',w',v',.inl (he _ _ a),b,c,d⟩
 |bad n=>trivial
 |_=>exact False.elim h
theorem ok_append {c:Call} (ho:o.op= .call c) (hc:c.callee= .builtin .append):RunOk P o (appendR P c):=by
 unfold appendR
 cases ht:c.argTypes[0]? with
 |none=>exact RunOk.no _ _
 |some t=>
  cases ha:c.args.toList with
  |nil=>exact RunOk.no _ _
  |cons x l=>
   cases l with
   |nil=>exact RunOk.no _ _
   |cons y l=>
    cases l with
    |cons _ _=>exact RunOk.no _ _
    |nil=>
     simp only[]
     cases hse:sliceElem P t with
     |none=>exact RunOk.no _ _
     |some e=>
      simp only[]
      cases hi:P.info? e with
      |none=>exact RunOk.no _ _
      |some i=>
       simp only[]
       cases hz:i.zero with
       |none=>exact RunOk.no _ _
       |some z=>
        simp only[]
        cases hk:plainV z&&Nat.beq z.cells.size i.size&&!Nat.beq i.size 0&&!Nat.beq i.bytes 0&&opdOk x&&opdOk y&&typeOk P c.argTypes[1]? with
        |false=>exact RunOk.no _ _
        |true=>
         simp only[cond_true]
         simp only[Bool.and_eq_true,Nat.beq_eq,Bool.not_eq_true']at hk
         obtain⟨⟨⟨⟨⟨⟨hpl,hzs⟩,hs0'⟩,_⟩,hx⟩,hy⟩,hty⟩:=hk
         have hs0:i.size≠0:=fun e=>by rw[e]at hs0';cases hs0'
         have hu:=sliceElem_eq hse
         have hsec:=second_of hty
         have hrun: ∀ρ w v w',(Builtin.append_ c.argTypes o.type #[ρ x,ρ y]).run P w= .ok v w'→(execOp ρ o).run P w= .ok (.value v) w':=by
          intro ρ w v w' h
          rw[call_builtin ho hc,args_of ha]
          simp[builtin,h]
         cases hint:isIntT P c.argTypes[1]? with
         |true=>
          rw[hint]at hsec
          intro hb ι s w g ρ hS hn hlo hr
          have hrx:VRel ι (ev g x) (ρ x):=hr x (by simp[ho,Op.operands,Call.operands,hc,args_of ha]) hx
          have hry:VRel ι (ev g y) (ρ y):=hr y (by simp[ho,Op.operands,Call.operands,hc,args_of ha]) hy
          simp only[]
          cases he:ev g y with
          |int kk k=>
           simp only[he]
           cases hcd:inR 0 1000000 k&&Nat.ble (k.toNat*i.bytes) 1000000000 with
           |false=>trivial
           |true=>
            simp only[cond_true]
            simp only[inR,Bool.and_eq_true,decide_eq_true_eq,Nat.ble_eq]at hcd
            obtain⟨⟨h0,h1⟩,h2⟩:=hcd
            obtain⟨n,rfl⟩:=Int.eq_ofNat_of_zero_le h0
            have hnm:n≤1000000:=by omega
            simp only[Int.toNat_natCast]at h2⊢
            rw[he]at hry
            have e1:=hry.int_inv
            have hzc:(Builtin.zeroCells z.cells n).toList=repL n z.cells.toList:=zeroCells_eq n (by rw[hzs];exact hs0)
            refine ResPost.hd (doAppend_ok (new':=Builtin.zeroCells z.cells n) hS hn hlo (z:=z) (y':=ρ y) ⟨?_,?_⟩ ?_ ?_ hs0 hzs hrx) (hrun ρ w)
            ·intro base len cap w' q1 q2 q3
             rw[e1]
             exact run_append_in0 ht hu hi hz hsec hnm h2 q1 hs0 q2 q3
            ·intro base len cap old q1 q2 q3 q4
             rw[e1]
             exact run_append_out0 ht hu hi hz hsec hnm h2 hs0 q1 q2 q3 q4
            ·rw[hzc];exact repL_rel n (plain_cells hpl ι)
            ·rw[repL_length,Array.length_toList,hzs]
          |_=>simp only[he];trivial
         |false=>
          rw[hint]at hsec
          intro hb ι s w g ρ hS hn hlo hr
          have hrx:VRel ι (ev g x) (ρ x):=hr x (by simp[ho,Op.operands,Call.operands,hc,args_of ha]) hx
          have hry:VRel ι (ev g y) (ρ y):=hr y (by simp[ho,Op.operands,Call.operands,hc,args_of ha]) hy
          simp only[]
          cases hsr:srcOf s i.size (ev g y)with
          |none=>trivial
          |some nk=>
           obtain⟨new,n⟩:=nk
           simp only[]
           obtain⟨new',q1,q2,q3,q4⟩:=srcOf_ok hS hsr hry
           refine ResPost.hd (doAppend_ok (new':=new') hS hn hlo (z:=z) (y':=ρ y) ⟨?_,?_⟩ q1 q2 hs0 hzs hrx) (hrun ρ w)
           ·intro base len cap w' r1 r2 r3
            exact run_append_in ht hu hi hsec q3 (q4 w (WSame.refl w)) r1 r2 r3
           ·intro base len cap old r1 r2 r3 r4
            exact run_append_out ht hu hi hz hsec q3 q4 r1 r2 r3 r4
end
end Go.AM
namespace Go.AM
noncomputable section
variable {P:Program} {o:Oper} {ι:Inj} {s:S} {w w':World} {hb:Nat}
theorem delK_spec {kk:KeyKind} {k:Value} (h0:keyOk kk k=true): ∀ {es es2:List (Value×Value)},delK kk k es=some es2→(∀p∈es,keyOk kk p.1=true)→
 (es2=es∧ ∀p∈es,p.1≠k)∨(∃a u b,es=a++(k,u)::b∧es2=a++b)
 |[],es2,h,_=>by simp only[delK,Option.some.injEq]at h;subst h;exact .inl ⟨rfl,by simp⟩
 |(k',v')::es,es2,h,hk=>by
  obtain⟨b,_,e2,e3,e4⟩:=key_spec h0 (hk (k',v') (by simp))
  simp only[delK,e2]at h
  cases b with
  |true=>
   simp only[Option.some.injEq]at h;subst h
   have:=e3.1 rfl
   subst this
   exact .inr ⟨[],v',es,rfl,rfl⟩
  |false=>
   simp only[]at h
   cases hp:delK kk k es with
   |none=>simp[hp]at h
   |some l=>
    simp only[hp,Option.some.injEq]at h;subst h
    rcases delK_spec h0 hp (fun p hp=>hk p (by simp[hp]))with⟨a,b⟩|⟨a,u,b,c,d⟩
    ·refine .inl ⟨by rw[a],fun p hp=>?_⟩
     rcases List.mem_cons.1 hp with rfl|hm
     ·exact fun e=>(e4 rfl).ne e.symm
     ·exact b p hm
    ·exact .inr ⟨(k',v')::a,u,b,by rw[c];rfl,by rw[d];rfl⟩
def delObj (res:Option (Nat×Value)) (es':Array MapEntry) (clk:Nat):Obj:=
 match res with
 |some (i,_)=> .map (es'.eraseIdxIfInBounds i) clk
 |none=> .map es' clk
theorem map_del_rel {kk:KeyKind} {k:Value} (h0:keyOk kk k=true) {es es2:List (Value×Value)} (hp:delK kk k es=some es2) (hks: ∀p∈es,keyOk kk p.1=true) {es':Array MapEntry} {lst:List MapEntry} {clk:Nat}
 (hperm:lst.Perm es'.toList) (hr:EsRel ι es lst) (hpw:es.Pairwise (fun a b=>KeyNe a.1 b.1)) (hb: ∀e∈es'.toList,e.born<clk) (hnd:(es'.toList.map (·.born)).Nodup)
 {kt:TypeId} (hkk:keyKind P kt=some kk) (w:World) (l:Loc):
 ∃res,(Instr.findKey kt k es'.toList).run P w= .ok res w∧ORel P ι l (.map es2 clk) (delObj res es' clk):=by
 rcases run_findKey hkk h0 hperm hr hpw hks w with⟨u,j,e,hm,hj,hke,hue,hrun⟩|⟨hno,hno',hrun⟩
 ·refine⟨some (j,e.val),hrun,?_⟩
  rcases delK_spec h0 hp hks with⟨_,hne⟩|⟨a,u2,b,e1,e2⟩
  ·exact absurd rfl (hne _ hm)
  ·subst e1;subst e2
   obtain⟨la,e0,lb,q1,q2,q3,q4,q5⟩:=hr.split
   have hk0:e0.key=k:=keyOk_vrel h0 q3
   have hmem:e∈lst:=hperm.mem_iff.2 (List.mem_of_getElem? hj)
   have hee:e=e0:=pairwise_key_eq hpw hr hks hmem (by rw[q1];simp) hke hk0
   subst hee
   simp only[delObj]
   have hjlt:j<es'.toList.length:=by
    rcases Nat.lt_or_ge j es'.toList.length with x|x
    ·exact x
    ·rw[List.getElem?_eq_none x]at hj;cases hj
   have hsplit:es'.toList=es'.toList.take j++e::es'.toList.drop (j+1):=by
    rw[List.getElem?_eq_getElem hjlt]at hj
    have:es'.toList[j]=e:=by simpa using hj
    rw[←this,←List.drop_eq_getElem_cons hjlt,List.take_append_drop]
   have hmod:(es'.eraseIdxIfInBounds j).toList=es'.toList.take j++es'.toList.drop (j+1):=by
    rw[Array.eraseIdxIfInBounds_eq]
    have:j<es'.size:=by simpa using hjlt
    rw[dif_pos this,Array.toList_eraseIdx,List.eraseIdx_eq_take_drop_succ]
   refine .map (lst:=la++lb) ?_ (q2.append q5) ?_ ?_ ?_
   ·rw[hmod]
    have hp2:(la++e::lb).Perm (es'.toList.take j++e::es'.toList.drop (j+1)):=by rw[←hsplit,←q1];exact hperm
    exact List.Perm.cons_inv ((List.perm_middle.symm.trans hp2).trans List.perm_middle)
   ·exact hpw.sublist (List.Sublist.append (List.Sublist.refl _) (List.sublist_cons_self _ _))
   ·intro e2 he2
    rw[hmod]at he2
    rcases List.mem_append.1 he2 with x|x
    ·exact hb e2 (List.mem_of_mem_take x)
    ·exact hb e2 (List.mem_of_mem_drop x)
   ·rw[hmod]
    rw[hsplit]at hnd
    refine hnd.sublist ?_
    rw[List.map_append,List.map_append]
    exact List.Sublist.append (List.Sublist.refl _) (by simp)
 ·refine⟨none,hrun,?_⟩
  rcases delK_spec h0 hp hks with⟨rfl,_⟩|⟨a,u2,b,e1,_⟩
  ·exact .map hperm hr hpw hb hnd
  ·exact absurd rfl (hno (k,u2) (by rw[e1];simp))
theorem ok_delete {c:Call} (ho:o.op= .call c) (hc:c.callee= .builtin .delete):RunOk P o (builtinR P .delete c):=by
 simp only[builtinR]
 cases ht:c.argTypes[0]? with
 |none=>exact RunOk.no _ _
 |some t=>
  cases ha:c.args.toList with
  |nil=>exact RunOk.no _ _
  |cons m l=>
   cases l with
   |nil=>exact RunOk.no _ _
   |cons k l=>
    cases l with
    |cons _ _=>exact RunOk.no _ _
    |nil=>
     simp only[]
     cases hu:P.underlying t with
     |none=>exact RunOk.no _ _
     |some d=>
      cases d with
      |map kt et=>
       simp only[]
       cases hkk:keyKind P kt with
       |none=>exact RunOk.no _ _
       |some kk=>
        simp only[]
        cases hx:opdOk m&&opdOk k with
        |false=>exact RunOk.no _ _
        |true=>
         simp only[Bool.and_eq_true]at hx
         intro hb ι s w g ρ hS hn hlo hr
         have hrm:VRel ι (ev g m) (ρ m):=hr m (by simp[ho,Op.operands,Call.operands,hc,args_of ha]) hx.1
         have hrk:VRel ι (ev g k) (ρ k):=hr k (by simp[ho,Op.operands,Call.operands,hc,args_of ha]) hx.2
         simp only[]
         cases he:ev g m with
         |map r=>
          cases r with
          |none=>simp only[];trivial
          |some r=>
           simp only[]
           rw[he]at hrm
           obtain⟨l,hi,e⟩:=hrm.map_inv
           cases hg:s.h.get r with
           |none=>trivial
           |some ob=>
            cases ob with
            |map es clk=>
             simp only[]
             cases hcd:keyOk kk (ev g k)&&Nat.ble s.lo r&&firstOk kk es with
             |false=>trivial
             |true=>
              simp only[cond_true]
              simp only[Bool.and_eq_true,Nat.ble_eq]at hcd
              cases hp:delK kk (ev g k) es with
              |none=>trivial
              |some es2=>
               simp only[]
               obtain⟨es',lst,h1,h2,h3,h4,h5,h6⟩:=hS.mapAt hi hg
               have hks: ∀p∈es,keyOk kk p.1=true:=keys_ok h4 (by
                intro p l el;subst el;exact hcd.2)
               have ek:=keyOk_vrel hcd.1.1 hrk
               obtain⟨res,f1,f2⟩:=map_del_rel (P:=P) hcd.1.1 hp hks h2 h3 h4 h5 h6 hkk w l
               obtain⟨s1,s2⟩:=setObj_run (P:=P) (o1:=delObj res es' clk) h1 (by intro c e f h;cases h)
               refine⟨ι,_,.tuple #[],.inl ?_,.tuple .nil,hS.putO hi hg (by intro b h;cases h) (by intro p;simp[Par]) s2 f2,Fm.put hi hg trivial hcd.1.2 s2⟩
               rw[call_builtin ho hc,args_of ha]
               have hrun:(Builtin.delete_ c.argTypes o.type #[ρ m,ρ k]).run P w= .ok (.tuple #[]) { w with heap:=w.heap.setIfInBounds l.blk (delObj res es' clk) } :=by
                simp only[Builtin.delete_,ht,e,ek]
                cases res with
                |none=>
                 simp only[delObj]at s1⊢
                 simp[run_underlying hu,run_getObj_map h1,run_checkKey hkk _ _ _ hcd.1.1,f1,s1]
                |some q=>
                 obtain⟨i,v⟩:=q
                 simp only[delObj]at s1⊢
                 simp[run_underlying hu,run_getObj_map h1,run_checkKey hkk _ _ _ hcd.1.1,f1,s1]
               simp[builtin,hrun]
            |_=>trivial
         |_=>simp only[];trivial
      |_=>exact RunOk.no _ _
theorem copy_src (h:SRel P ι s w) {size n:Nat} {y y':Value} {new:List Value} {k:Nat} (hs:srcOf s size (cutV n y)=some (new,k)) (hy:VRel ι y y'):
 ∃(len:Nat) (new':Array Value),VRelL ι new new'.toList∧new.length=k*size∧(Builtin.lenOf y').run P w= .ok len w∧Nat.min len n=k∧(Builtin.firstCells size k y').run P w= .ok new' w:=by
 cases y with
 |slice a m c=>
  simp only[cutV]at hs
  cases hb:Nat.ble m n with
  |true=>
   simp only[hb,cond_true]at hs
   have hle:=Nat.le_of_ble_eq_true hb
   obtain⟨new',q1,q2,q3,q4⟩:=srcOf_ok h hs hy
   have hlen:(Builtin.lenOf y').run P w= .ok m w:=by
    cases a with
    |none=>have:=hy.nilslice_inv;subst this;simp[Builtin.lenOf]
    |some a=>obtain⟨l,off',c',_,_,_,_,_,_,e⟩:=hy.slice_inv;subst e;simp[Builtin.lenOf]
   have hk:m=k:=by rw[q3]at hlen;cases hlen;rfl
   subst hk
   exact⟨m,new',q1,q2,hlen,Nat.min_eq_left hle,q4 w (WSame.refl w)⟩
  |false=>
   simp only[hb,cond_false]at hs
   have hlt:n<m:=by
    rcases Nat.lt_or_ge n m with x|x
    ·exact x
    ·rw[Nat.ble_eq_true_of_le x]at hb;cases hb
   cases a with
   |none=>
    simp only[srcOf]at hs
    cases hz:Nat.beq n 0 with
    |false=>simp[hz]at hs
    |true=>
     simp only[hz,cond_true,Option.some.injEq,Prod.mk.injEq]at hs
     obtain⟨rfl,rfl⟩:=hs
     have:=Nat.eq_of_beq_eq_true hz;subst this
     have:=hy.nilslice_inv;subst this
     exact⟨m,#[],.nil,by simp,by simp[Builtin.lenOf],Nat.min_eq_right (Nat.zero_le _),by simp[Builtin.firstCells]⟩
   |some a=>
    obtain⟨l,off',c',hi,hnc,hcc,hex,hop,hoff,e⟩:=hy.slice_inv;subst e
    simp only[srcOf]at hs
    cases hl:s.load a.block a.off (n*size)with
    |none=>simp[hl]at hs
    |some l0=>
     simp only[hl,Option.some.injEq,Prod.mk.injEq]at hs
     obtain⟨rfl,rfl⟩:=hs
     obtain⟨old',o1,o2,o3⟩:=load_run (cap:=c') h hi hl (by omega) hoff
     refine⟨m,old',o1,by rw[←o2,←Array.length_toList,o1.length],by simp[Builtin.lenOf],Nat.min_eq_right (by omega),?_⟩
     have:=o3 w (WSame.refl w)
     simpa[Builtin.firstCells]using this
 |string b=>
  simp only[cutV]at hs
  cases hb:Nat.ble b.size n with
  |true=>
   simp only[hb,cond_true]at hs
   obtain⟨new',q1,q2,q3,q4⟩:=srcOf_ok h hs hy
   have:=hy.string_inv;subst this
   have hlen:(Builtin.lenOf (.string b)).run P w= .ok b.size w:=by simp[Builtin.lenOf]
   have hk:b.size=k:=by rw[q3]at hlen;cases hlen;rfl
   exact⟨b.size,new',q1,q2,hlen,by rw[←hk];exact Nat.min_eq_left (Nat.le_of_ble_eq_true hb),q4 w (WSame.refl w)⟩
  |false=>simp[hb,srcOf]at hs
 |_=>simp[cutV,srcOf]at hs
theorem store_nil_off {a:Addr} :(storeCells a []).run P w= .ok () w:=rfl
theorem ok_copy {c:Call} (ho:o.op= .call c) (hc:c.callee= .builtin .copy):RunOk P o (builtinR P .copy c):=by
 simp only[builtinR]
 cases ht:c.argTypes[0]? with
 |none=>exact RunOk.no _ _
 |some t=>
  cases ha:c.args.toList with
  |nil=>exact RunOk.no _ _
  |cons x l=>
   cases l with
   |nil=>exact RunOk.no _ _
   |cons y l=>
    cases l with
    |cons _ _=>exact RunOk.no _ _
    |nil=>
     simp only[]
     cases hse:sliceElem P t with
     |none=>exact RunOk.no _ _
     |some e=>
      simp only[]
      cases hz:szOf P e with
      |none=>exact RunOk.no _ _
      |some z=>
       simp only[]
       cases hx:opdOk x&&opdOk y with
       |false=>exact RunOk.no _ _
       |true=>
        simp only[Bool.and_eq_true]at hx
        intro hb ι s w g ρ hS hn hlo hr
        have hrx:VRel ι (ev g x) (ρ x):=hr x (by simp[ho,Op.operands,Call.operands,hc,args_of ha]) hx.1
        have hry:VRel ι (ev g y) (ρ y):=hr y (by simp[ho,Op.operands,Call.operands,hc,args_of ha]) hx.2
        simp only[]
        unfold copyV
        cases he:ev g x with
        |slice base n cap=>
         cases base with
         |none=>trivial
         |some a=>
          simp only[]
          cases hsr:srcOf s z (cutV n (ev g y))with
          |none=>trivial
          |some q=>
           obtain⟨l,k⟩:=q
           simp only[]
           cases hac:allCells l with
           |false=>trivial
           |true=>
            simp only[cond_true]
            cases hst:s.store a.block a.off l with
            |none=>trivial
            |some s'=>
             simp only[]
             rw[he]at hrx
             obtain⟨lc,off',c',hi,hnc,hcc,hex,hop,hoff,e1⟩:=hrx.slice_inv
             obtain⟨len,new',q1,q0,q2,q3,q4⟩:=copy_src hS hsr hry
             obtain⟨w',r1,r2,r3,_⟩:=store_rel (hb:=hb) hS hi hst q1 hac
             refine⟨ι,w',goInt k,.inl ?_,.int _ _,r2,r3⟩
             rw[call_builtin ho hc,args_of ha]
             have hrun:(Builtin.copy_ c.argTypes o.type #[ρ x,ρ y]).run P w= .ok (goInt k) w':=by
              have hu:=sliceElem_eq hse
              have hst2:(storeCells ⟨lc.blk,off',none⟩ new'.toList).run P w= .ok () w':=by
               by_cases h0:c'=0
               ·have hk0:k=0:=by
                 rw[←q3];have:n=0:=by omega
                 subst this;exact Nat.min_eq_right (Nat.zero_le _)
                have hnil:new'.toList=[]:=by
                 have:=q1.length
                 rw[q0,hk0]at this
                 simpa using this.symm
                rw[hnil]at r1⊢
                simpa[storeCells]using r1
               ·rw[hoff h0];exact r1
              simp only[Builtin.copy_,ht,e1]
              simp[run_underlying hu,q2,q3,run_sizeOf' hz,q4,hst2]
             simp[builtin,hrun]
        |_=>trivial
end
end Go.AM
namespace Go.AM
noncomputable section
variable {P:Program} {o:Oper} {ι:Inj} {s:S} {w w':World} {hb:Nat}
theorem ok_entry {t:TypeId} {m k:Operand} (ho:o.op= .mapEntry t m k):RunOk P o (entryR P t m k):=by
 unfold entryR
 cases hx:opdOk m&&opdOk k with
 |false=>exact RunOk.no _ _
 |true=>
  simp only[Bool.and_eq_true]at hx
  simp only[cond_true]
  cases hu:P.underlying t with
  |none=>exact RunOk.no _ _
  |some d=>
   cases d with
   |map kt et=>
    simp only[]
    cases hkk:keyKind P kt with
    |none=>exact RunOk.no _ _
    |some kk=>
     cases hz:zeroOf P et with
     |none=>exact RunOk.no _ _
     |some z=>
      simp only[]
      cases hp:plainV z&&notTup z with
      |false=>exact RunOk.no _ _
      |true=>
       simp only[Bool.and_eq_true]at hp
       intro hb ι s w g ρ hS hn hlo hr
       have hrm:=hr m (by simp[ho,Op.operands]) hx.1
       have hrk:=hr k (by simp[ho,Op.operands]) hx.2
       cases he:ev g m with
       |map r=>
        cases r with
        |none=>simp only[he];trivial
        |some r=>
         simp only[he]
         rw[he]at hrm
         obtain⟨l,hi,e⟩:=hrm.map_inv
         cases hg:s.h.get r with
         |none=>trivial
         |some ob=>
          cases ob with
          |map es clk=>
           simp only[]
           cases hc:keyOk kk (ev g k)&&Nat.ble s.lo r with
           |false=>trivial
           |true=>
            simp only[cond_true]
            simp only[Bool.and_eq_true,Nat.ble_eq]at hc
            cases hput:putK kk (ev g k) z es with
            |none=>trivial
            |some q=>
             obtain⟨nw,es2⟩:=q
             cases nw with
             |false=>trivial
             |true=>
              simp only[]
              obtain⟨es',lst,h1,h2,h3,h4,h5,h6⟩:=hS.mapAt hi hg
              have ek:=keyOk_vrel hc.1 hrk
              have hks:=keys_ok (kk:=kk) h4 (putK_first hput)
              rcases putK_spec hc.1 hput hks with⟨_,e1,hne⟩|⟨x,_⟩
              ·subst e1
               rcases run_findKey hkk hc.1 h2 h3 h4 hks w with⟨u,j,e0,hm,_⟩|⟨_,_,hrun⟩
               ·exact absurd rfl (hne _ hm).ne
               ·have hn0: ∀c e f,Obj.map es' clk≠ .cells c e f:=by intro c e f h;cases h
                obtain⟨r1,r2⟩:=setObj_run (P:=P) (o1:= .map (es'.push { key:=ev g k,val:=z,born:=clk }) (clk+1)) h1 hn0
                have hkv:VRel ι (ev g k) (ev g k):=by rw[ek]at hrk;exact hrk
                have hzv:VRel ι z z:= .plainV hp.1
                refine⟨ι,_,.tuple #[z,goInt clk],.inl ?_,.tuple (.cons hzv (.cons (.int _ _) .nil)),hS.putO hi hg (by intro b h;cases h) (by intro p;simp[Par]) r2 ?_,Fm.put hi hg trivial hc.2 r2⟩
                ·simp only[execOp,ho,e,ek,Instr.mapEntry,Sem.run_bind,run_underlying hu,Result.andThen_ok,run_getObj_map h1,run_checkKey hkk _ _ _ hc.1,hrun,run_zeroValue' hz,r1,Sem.run_pure]
                ·refine .mapS (lst:=lst) (e0:= { key:=ev g k,val:=z,born:=clk }) ?_ (h3.append (.cons hkv hzv .nil)) rfl rfl ?_ ?_ ?_
                 ·rw[Array.toList_push];exact h2.append_right _
                 ·rw[List.pairwise_append]
                  exact⟨h4,by simp,fun a ha b hb=>by simp at hb;subst hb;exact(hne a ha).symm⟩
                 ·intro e he
                  rw[Array.toList_push]at he
                  rcases List.mem_append.1 he with x|x
                  ·have:=h5 e x;omega
                  ·simp at x;subst x;simp
                 ·rw[Array.toList_push,List.map_append,List.nodup_append]
                  refine⟨h6,by simp,?_⟩
                  intro a ha b hb'
                  simp at hb';subst hb'
                  obtain⟨e,he,rfl⟩:=List.mem_map.1 ha
                  have:=h5 e he;omega
              ·cases x
          |_=>trivial
       |_=>simp only[he];trivial
   |_=>exact RunOk.no _ _
theorem setLast_append (x:Value): ∀(l:List (Value×Value)) (k z:Value),setLast x (l++[(k,z)])=l++[(k,x)]
 |[],k,z=>rfl
 |[q],k,z=>rfl
 |q::p::l,k,z=>by
  have:=setLast_append x (p::l) k z
  simp only[List.cons_append]at this⊢
  simp only[setLast,this]
theorem EsRel.last {ι:Inj} : ∀ {es:List (Value×Value)} {lst:List MapEntry} {e0:MapEntry},EsRel ι es (lst++[e0])→ ∃es0 k z,es=es0++[(k,z)]∧EsRel ι es0 lst∧VRel ι k e0.key∧VRel ι z e0.val
 |es,[],e0,h=>by
  cases h with
  |cons a b c=>cases c;exact⟨[],_,_,rfl,.nil,a,b⟩
 |es,f::lst,e0,h=>by
  cases h with
  |cons a b c=>
   obtain⟨es0,k,z,e,r1,r2,r3⟩:=EsRel.last c
   subst e
   exact⟨_::es0,k,z,rfl,.cons a b r1,r2,r3⟩
theorem ok_entryStore {t:TypeId} {m st x:Operand} (ho:o.op= .entryStore t m st x):RunOk P o (entryStR m st x):=by
 unfold entryStR
 cases hx:opdOk m&&opdOk st&&opdOk x with
 |false=>exact RunOk.no _ _
 |true=>
  simp only[Bool.and_eq_true]at hx
  intro hb ι s w g ρ hS hn hlo hr
  have hrm:=hr m (by simp[ho,Op.operands]) hx.1.1
  have hrs:=hr st (by simp[ho,Op.operands]) hx.1.2
  have hrx:=hr x (by simp[ho,Op.operands]) hx.2
  cases he:ev g m with
  |map r=>
   cases r with
   |none=>simp only[he];trivial
   |some r=>
    cases hes:ev g st with
    |int kd nn=>
     cases kd with
     |i64=>
      simp only[he,hes]
      rw[he]at hrm;rw[hes]at hrs
      obtain⟨l,hi,e⟩:=hrm.map_inv
      have es:=hrs.int_inv
      cases hg:s.h.get r with
      |none=>trivial
      |some ob=>
       cases ob with
       |mapS ents clk b k=>
        simp only[]
        cases hc:decide (nn=Int.ofNat b)&&notTup (ev g x)&&Nat.ble s.lo r with
        |false=>trivial
        |true=>
         simp only[cond_true]
         simp only[Bool.and_eq_true,decide_eq_true_eq,Nat.ble_eq]at hc
         obtain⟨⟨hnb,hnt⟩,hlo2⟩:=hc
         obtain⟨o',h1,h2⟩:=hS.obj r l _ hi hg
         cases h2 with
         |mapS q1 q2 q3 q4 q5 q6 q7=>
          rename_i es' lst e0
          subst q4
          obtain⟨es0,k0,z0,q8,r1,r2,r3⟩:=q2.last
          subst q8
          rw[setLast_append]
          have hmem:e0∈es'.toList:=q1.mem_iff.1 (by simp)
          have hfind: ∃j,es'.findIdx? (fun e=>(e.born:Int)==nn)=some j∧es'[j]? =some e0:=by
           have key: ∀l:List MapEntry,e0∈l→(l.map (·.born)).Nodup→ ∃j,l.findIdx? (fun e=>(e.born:Int)==nn)=some j∧l[j]? =some e0:=by
            intro l
            induction l with
            |nil=>intro h;simp at h
            |cons a l ih=>
             intro h hnd
             simp only[List.map_cons,List.nodup_cons,List.mem_map,not_exists,not_and]at hnd
             rcases List.mem_cons.1 h with rfl|h
             ·refine⟨0,?_,rfl⟩
              have:(((e0.born:Int))==nn)=true:=by rw[hnb];simp
              simp[List.findIdx?_cons,this]
             ·obtain⟨j,a1,a2⟩:=ih h hnd.2
              have hne:(((a.born:Int))==nn)=false:=by
               rw[hnb]
               simp only[beq_eq_false_iff_ne,ne_eq]
               intro x
               have:a.born=e0.born:=by have x2:((a.born:Nat):Int)=((e0.born:Nat):Int):=x;omega
               exact hnd.1 e0 h this.symm
              exact⟨j+1,by simp[List.findIdx?_cons,hne,a1],by simpa using a2⟩
           obtain⟨j,a1,a2⟩:=key es'.toList hmem q7
           exact⟨j,by have:=(List.findIdx?_toArray (l:=es'.toList) (p:=fun e:MapEntry=>(e.born:Int)==nn));simp only[Array.toArray_toList]at this;rw[this];exact a1,by simpa using a2⟩
          obtain⟨j,f1,f2⟩:=hfind
          have hn0: ∀c e f,Obj.map es' clk≠ .cells c e f:=by intro c e f h;cases h
          obtain⟨u1,u2⟩:=setObj_run (P:=P) (o1:= .map (es'.modify j fun e=> { e with val:=ρ x }) clk) h1 hn0
          refine⟨ι,_,undef,.inr ⟨?_,rfl⟩,.tuple .nil,hS.putO hi hg (by intro b h;cases h) (by intro p;simp[Par]) u2 ?_,Fm.put hi hg trivial hlo2 u2⟩
          ·have hrun:(Instr.entryStore t (.map (some l.blk)) (.int .i64 nn) (ρ x)).run P w= .ok () { w with heap:=w.heap.setIfInBounds l.blk (.map (es'.modify j fun e=> { e with val:=ρ x }) clk) } :=by
            simp only[Instr.entryStore,Sem.run_bind,run_getObj_map h1,Result.andThen_ok,asInt,asIntOf,Sem.run_pure,f1]
            exact u1
           simp only[execOp,ho,e,es,Sem.run_bind,hrun,Result.andThen_ok,Sem.run_pure]
          ·have hjlt:j<es'.toList.length:=by
            rcases Nat.lt_or_ge j es'.toList.length with y|y
            ·exact y
            ·have:es'.toList[j]? =none:=List.getElem?_eq_none y
             rw[Array.getElem?_toList,f2]at this;cases this
           have hje:es'.toList[j]=e0:=by
            have:es'.toList[j]? =some e0:=by rw[Array.getElem?_toList];exact f2
            rw[List.getElem?_eq_getElem hjlt]at this;simpa using this
           have hsplit:es'.toList=es'.toList.take j++e0::es'.toList.drop (j+1):=by
            rw[←hje,←List.drop_eq_getElem_cons hjlt,List.take_append_drop]
           have hmod:(es'.modify j fun e=> { e with val:=ρ x }).toList=es'.toList.take j++ { e0 with val:=ρ x } ::es'.toList.drop (j+1):=by
            rw[Array.toList_modify,List.modify_eq_take_cons_drop hjlt,hje]
           refine .map (lst:=lst++[{ e0 with val:=ρ x }]) ?_ (r1.append (.cons ?_ hrx .nil)) ?_ ?_ ?_
           ·rw[hmod]
            have hp2:(lst++[e0]).Perm (es'.toList.take j++e0::es'.toList.drop (j+1)):=by rw[←hsplit];exact q1
            have hp3:(e0::lst).Perm (e0::(es'.toList.take j++es'.toList.drop (j+1))):=((List.perm_append_singleton e0 lst).symm.trans hp2).trans List.perm_middle
            exact(List.perm_append_singleton _ lst).trans ((List.Perm.cons _ (List.Perm.cons_inv hp3)).trans List.perm_middle.symm)
           ·exact r2
           ·rw[List.pairwise_append]at q5⊢
            refine⟨q5.1,by simp,fun a ha b hb=>?_⟩
            simp at hb;subst hb
            exact q5.2.2 a ha (k0,z0) (by simp)
           ·intro e2 he2
            rw[hmod]at he2
            rcases List.mem_append.1 he2 with y|y
            ·exact q6 e2 (List.mem_of_mem_take y)
            ·rcases List.mem_cons.1 y with rfl|y
             ·exact q6 e0 hmem
             ·exact q6 e2 (List.mem_of_mem_drop y)
           ·rw[hmod]
            rw[hsplit]at q7
            simpa using q7
       |_=>trivial
     |_=>simp only[he,hes];trivial
    |_=>simp only[he,hes];trivial
  |_=>simp only[he];trivial
end
end Go.AM
namespace Go.AM
noncomputable section
variable {P:Program}
theorem ok_builtin {o:Oper} {c:Call} {b:Builtin} (ho:o.op= .call c) (hc:c.callee= .builtin b):RunOk P o (builtinR P b c):=by
 cases b with
 |append=>exact ok_append ho hc
 |cap=>exact ok_cap ho hc
 |copy=>exact ok_copy ho hc
 |delete=>exact ok_delete ho hc
 |recover=>exact ok_recover ho hc
 |min=>exact ok_minmax false rfl ho hc
 |max=>exact ok_minmax true rfl ho hc
 |len=>
  simp only[builtinR]
  cases ht:c.argTypes[0]? with
  |none=>exact RunOk.no _ _
  |some t=>
   cases ha:c.args.toList with
   |nil=>exact RunOk.no _ _
   |cons x l=>
    cases l with
    |cons _ _=>exact RunOk.no _ _
    |nil=>
     simp only[]
     cases hu:P.underlying t with
     |none=>exact RunOk.no _ _
     |some d=>
      simp only[]
      cases hx:opdOk x with
      |false=>exact RunOk.no _ _
      |true=>
       simp only[cond_true]
       cases d with
       |map k e=>exact ok_lenMap ho hc ht ha hu hx
       |_=>exact ok_lenPu ho hc ht ha hu hx (by intro k e h;cases h)
 |_=>exact RunOk.no _ _
theorem cr_ok (o:Oper):RunOk P o (cr P o.op):=by
 cases h:o.op with
 |move x=>exact ok_move h
 |assign x=>exact ok_assign h
 |pick c a b=>exact ok_pick h
 |alloc e=>exact ok_alloc h
 |box e x=>exact ok_box h
 |build t parts=>exact ok_build h
 |buildSlice t len parts=>exact ok_buildSlice h
 |load t a=>exact ok_load h
 |store t a x=>exact ok_store h
 |nilCheck x=>exact ok_nilCheck h
 |binOp op t x y n=>exact ok_binOp h
 |unOp op t x=>exact ok_unOp h
 |convert a b x=>exact ok_convert h
 |makeInterface t x=>exact ok_makeInterface h
 |makeFunc a b c=>exact ok_makeFunc h
 |makeMap t r=>exact ok_makeMap h
 |makeSlice t l c=>exact ok_makeSlice h
 |slice t x lo hi mx=>exact ok_slice h
 |fieldAddr t x f=>exact ok_fieldAddr h
 |field t x f=>exact ok_field h
 |indexAddr t x i=>exact ok_indexAddr h
 |index t x i=>exact ok_index h
 |lookup t x k ok=>exact ok_lookup h
 |mapUpdate t m k x=>exact ok_mapR (.inl h)
 |insert t m k x=>exact ok_mapR (.inr h)
 |mapEntry t m k=>exact ok_entry h
 |entryStore t m k x=>exact ok_entryStore h
 |range t x=>exact ok_range h
 |next it str=>exact ok_next h
 |typeAssert x t a ok=>exact ok_typeAssert h
 |extract t i=>exact ok_extract h
 |defer c=>exact ok_defer h
 |panic x=>exact ok_panic h
 |call c=>
  show RunOk P o (callR P c)
  cases hc:c.callee with
  |builtin b=>simp only[callR,hc];exact ok_builtin h hc
  |invoke a b=>simp only[callR,hc];exact RunOk.no _ _
  |value f=>exact ok_callV h hc
 |_=>exact RunOk.no _ _
end
end Go.AM
namespace Go.AM
noncomputable section
variable {P:Program}
structure KR where
 k:CallKind
 r:Option Nat
abbrev mkF (fn:FuncId) (kind:KR) (tmps:Array Value) (ds:List Deferred) (todo:List Item):Frame:=
 { fn,tmps,todo,defers:=ds,mode:= .run,kind:=kind.k,roundOf:=kind.r }
def bs (fn:FuncId) (kind:KR):Frame:=mkF fn kind #[] [] []
theorem at_eq (fn:FuncId) (kind:KR) (tmps:Array Value) (ds:List Deferred) (todo:List Item):(bs fn kind).atR ⟨tmps,ds⟩ todo=mkF fn kind tmps ds todo:=rfl
def pt (tmps:Array Value) (dst:Option Tmp) (v:Value):Array Value:=match dst with|some d=>tmps.setIfInBounds d v|none=>tmps
theorem pt_size (tmps:Array Value) (dst:Option Tmp) (v:Value):(pt tmps dst v).size=tmps.size:=by cases dst<;>simp[pt]
theorem put_eq (tmps:Array Value) (ds:List Deferred) (dst:Option Tmp) (v:Value):(Act.mk tmps ds).put dst v=⟨pt tmps dst v,ds⟩:=by cases dst<;>rfl
def rho (tmps:Array Value):Operand→Value:=(Act.mk tmps []).eval
theorem rho_eq (tmps:Array Value) (ds:List Deferred):(Act.mk tmps ds).eval=rho tmps:=by funext x;cases x<;>rfl
theorem TmpRel.rho {ι:Inj} {g:T Value} {tmps:Array Value} (h:TmpRel ι g tmps) (xs:List Operand):ORho ι g (rho tmps) xs:=by
 intro x _ hok
 cases x with
 |tmp t=>exact h t
 |const v=>exact .plainV hok
 |func f=>exact .func .nil .nil
 |global _=>cases hok
theorem TmpRel.putD {ι:Inj} {g:T Value} {tmps:Array Value} {nt:Nat} (h:TmpRel ι g tmps) (hn:tmps.size=nt) {dst:Option Tmp} (hd:dstOk nt dst=true) {v v':Value} (hv:VRel ι v v'):
 TmpRel ι (putD g dst v) (pt tmps dst v'):=by
 cases dst with
 |none=>exact h
 |some d=>exact h.set (by rw[hn];simpa[dstOk]using hd) hv
theorem mkCl_cases (nt:Nat) (all:Array Oper) (o:Oper):mkCl P nt all o=⟨rdNo,none,.no⟩∨
 ∃gd,mkCl P nt all o=⟨cr P o.op,o.dst,gd⟩∧mkGd all o.guard=some gd∧dstOk nt o.dst=true∧gdOk nt gd=true:=by
 unfold mkCl
 cases h:mkGd all o.guard with
 |none=>exact .inl rfl
 |some gd=>
  simp only[]
  cases hk:dstOk nt o.dst&&gdOk nt gd with
  |false=>exact .inl rfl
  |true=>simp only[Bool.and_eq_true]at hk;exact .inr ⟨gd,rfl,rfl,hk.1,hk.2⟩
theorem VRel.tuple_ex {ι:Inj} {xs:Array Value} {v:Value} (h:VRel ι (.tuple xs) v): ∃xs',v= .tuple xs':=by cases h;exact⟨_,rfl⟩
theorem gd_rel' {all:Array Oper} {o:Oper} {gd:Gd} {nt:Nat} {ι:Inj} {g:T Value} {tmps:Array Value} {b:Bool} (hm:mkGd all o.guard=some gd) (hok:gdOk nt gd=true) (hn:tmps.size=nt)
 (h: ∀d w,gd= .on d w→VRel ι (ev g (.tmp d)) (tmps.getD d undef)) (hg:gdT gd g=some b):Region.wanted o (yielded all tmps)=b:=by
 unfold mkGd at hm
 unfold Region.wanted
 cases hgu:o.guard with
 |none=>
  simp only[hgu,Option.some.injEq]at hm;subst hm
  simp only[gdT,Option.some.injEq]at hg;subst hg;rfl
 |some jw=>
  obtain⟨j,w⟩:=jw
  simp only[hgu]at hm
  cases hj:all[j]? with
  |none=>simp[hj]at hm
  |some oj=>
   simp only[hj]at hm
   cases hd:oj.dst with
   |none=>simp[hd]at hm
   |some d=>
    simp only[hd,Option.some.injEq]at hm;subst hm
    simp only[gdT]at hg
    have hr:=h d w rfl
    have hdn:d<tmps.size:=by rw[hn];simpa[gdOk]using hok
    have hy:tmps[d]? =some (tmps.getD d undef):=by simp[Array.getD,hdn]
    cases he:ev g (.tmp d)with
    |bool x=>
     rw[he]at hr hg
     simp only[Option.some.injEq]at hg;subst hg
     have e1:=hr.bool_inv
     rw[e1]at hy
     simp[yielded,hj,hd,hy]
    |tuple xs=>
     rw[he]at hr hg
     simp only[Option.some.injEq]at hg;subst hg
     obtain⟨xs',e1⟩:=hr.tuple_ex
     rw[e1]at hy
     simp[yielded,hj,hd,hy]
    |_=>rw[he]at hg;cases hg
theorem gd_rel {all:Array Oper} {o:Oper} {gd:Gd} {nt:Nat} {ι:Inj} {g:T Value} {tmps:Array Value} {b:Bool} (hm:mkGd all o.guard=some gd) (hok:gdOk nt gd=true) (hn:tmps.size=nt)
 (h:TmpRel ι g tmps) (hg:gdT gd g=some b):Region.wanted o (yielded all tmps)=b:=gd_rel' hm hok hn (fun d _ _=>h d) hg
section
variable {fn:FuncId} {kind:KR} {tmps:Array Value} {ds:List Deferred} {all:Array Oper} {i:Nat} {L:List Nat} {k:List Item} {cs:List Frame} {w w':World} {o:Oper}
theorem st_skip (ho:all[i]? =some o) (hw:Region.wanted o (yielded all tmps)=false):
 Go.step P (lone (mkF fn kind tmps ds (.inRegion all (i::L)::k)) cs w)= .next (lone (mkF fn kind (pt tmps o.dst undef) ds (.inRegion all L::k)) cs w):=by
 have:=stepR_op_skip (P:=P) (b:=bs fn kind) (a:=⟨tmps,ds⟩) (k:=k) (cs:=cs) (w:=w) (ops:=all) (i:=i) (rest:=L) (by simp[ho,hw])
 rw[put_eq,ho]at this
 exact this
theorem apply_bare {fr:Frame} {cs:List Frame} {x y:Sem Next} (h:x.run P w=y.run P w):(stepG.apply P true fr cs none x w).bare=(stepG.apply P true fr cs none y w).bare:=by
 simp only[stepG.apply,Sem.runT_eq,h,GStep.bare_after,if_true]
theorem stR (ho:all[i]? =some o) (hw:Region.wanted o (yielded all tmps)=true):
 stepG P true { frame:=mkF fn kind tmps ds (.inRegion all (i::L)::k),callers:=cs,status:= .running,dying:=none } w=
  stepG.apply P true (mkF fn kind tmps ds (.inRegion all (i::L)::k)) cs none (o.semAt kind.r (rho tmps)) w:=by
 have:=stepGR_op (P:=P) (b:=bs fn kind) (a:=⟨tmps,ds⟩) (k:=k) (cs:=cs) (w:=w) (ops:=all) (i:=i) (rest:=L) ho hw
 rw[rho_eq]at this
 exact this
theorem stB (ho:all[i]? =some o) (hw:Region.wanted o (yielded all tmps)=true) (hd: ∀d w',(execOp (rho tmps) o).run P w≠ .ok (.defer d) w'):
 (stepG P true { frame:=mkF fn kind tmps ds (.inRegion all (i::L)::k),callers:=cs,status:= .running,dying:=none } w).bare=
  (stepG.apply P true (mkF fn kind tmps ds (.inRegion all (i::L)::k)) cs none (execOp (rho tmps) o) w).bare:=by
 rw[stR ho hw]
 refine apply_bare ?_
 by_cases hc: ∃c,o.op= .defer c
 ·obtain⟨c,hc⟩:=hc
  unfold Oper.semAt
  cases kind.r with
  |none=>rfl
  |some l=>
   simp only[hc]
   simp only[execOp,hc]at hd⊢
   cases hr:(resolve (rho tmps) c o.type).run P w with
   |ok d w1=>exact absurd (by simp[hr]) (hd d w1)
   |halt x w1=>simp[hr,Result.andThen]
 ·rw[Oper.semAt_eq _ _ _ (fun c h=>hc ⟨c,h⟩)]
theorem fin_eq (ho:all[i]? =some o) (v:Value) (dd:List Deferred):(mkF fn kind tmps dd (.inRegion all (i::L)::k)).finish v=mkF fn kind (pt tmps o.dst v) dd (.inRegion all L::k):=by
 have:=Frame.finish_atR (bs fn kind) ⟨tmps,dd⟩ all i L k v
 rw[put_eq,ho]at this
 exact this
theorem st_value (ho:all[i]? =some o) (hw:Region.wanted o (yielded all tmps)=true) {v:Value}
 (hr:(execOp (rho tmps) o).run P w= .ok (.value v) w'∨((execOp (rho tmps) o).run P w= .ok .skip w'∧v=undef)):
 Go.step P (lone (mkF fn kind tmps ds (.inRegion all (i::L)::k)) cs w)= .next (lone (mkF fn kind (pt tmps o.dst v) ds (.inRegion all L::k)) cs w'):=by
 rw[←fin_eq ho]
 rcases hr with hr|⟨hr,rfl⟩
 ·exact step_lone_go (by rw[stB ho hw (by rw[hr];intro _ _ h;cases h)];simp[stepG.apply,hr])
 ·exact step_lone_go (by rw[stB ho hw (by rw[hr];intro _ _ h;cases h)];simp[stepG.apply,hr])
theorem st_enter (ho:all[i]? =some o) (hw:Region.wanted o (yielded all tmps)=true) {f:FuncId} {args:Array Value}
 (hr:(execOp (rho tmps) o).run P w= .ok (.enter f args) w'):
 Go.step P (lone (mkF fn kind tmps ds (.inRegion all (i::L)::k)) cs w)= .next (lone (Frame.enter P f args .normal) (mkF fn kind tmps ds (.inRegion all (i::L)::k)::cs) w'):=
 step_lone_go (by rw[stB ho hw (by rw[hr];intro _ _ h;cases h)];simp[stepG.apply,hr])
theorem st_round (ho:all[i]? =some o) (hw:Region.wanted o (yielded all tmps)=true) {l:Nat} {f:FuncId} {t:Array Value} {a b:Code}
 (hr:(execOp (rho tmps) o).run P w= .ok (.round l f t a b) w'):
 Go.step P (lone (mkF fn kind tmps ds (.inRegion all (i::L)::k)) cs w)= .next (lone (Frame.round l f t a b .normal) (mkF fn kind tmps ds (.inRegion all (i::L)::k)::cs) w'):=
 step_lone_go (by rw[stB ho hw (by rw[hr];intro _ _ h;cases h)];simp[stepG.apply,hr])
theorem st_defer (hk:kind.r=none) (ho:all[i]? =some o) (hw:Region.wanted o (yielded all tmps)=true) {d:Deferred}
 (hr:(execOp (rho tmps) o).run P w= .ok (.defer d) w'):
 Go.step P (lone (mkF fn kind tmps ds (.inRegion all (i::L)::k)) cs w)= .next (lone (mkF fn kind (pt tmps o.dst undef) (d::ds) (.inRegion all L::k)) cs w'):=by
 rw[←fin_eq ho]
 exact step_lone_go (by rw[stR ho hw,hk,Oper.semAt_none];simp only[stepG.apply,Sem.runT_eq,hr,GStep.bare_after];rfl)
theorem st_panic (ho:all[i]? =some o) (hw:Region.wanted o (yielded all tmps)=true) {v:Value}
 (hr:(execOp (rho tmps) o).run P w= .halt (.panic v) w'):
 Go.step P (lone (mkF fn kind tmps ds (.inRegion all (i::L)::k)) cs w)= .next (lone ((mkF fn kind tmps ds (.inRegion all (i::L)::k)).raise [{ v,recovered:=false }]) cs w'):=
 step_lone_go (by rw[stB ho hw (by rw[hr];intro _ _ h;cases h)];simp[stepG.apply,hr])
theorem st_recover (hk:kind.r=none) (ho:all[i]? =some o) (hw:Region.wanted o (yielded all tmps)=true)
 (hr:(execOp (rho tmps) o).run P w= .ok .recover w'):
 Go.step P (lone (mkF fn kind tmps ds (.inRegion all (i::L)::k)) cs w)=
  .next (match tryRecover (mkF fn kind tmps ds (.inRegion all (i::L)::k)) cs with
   |some (v,cs')=>lone (mkF fn kind (pt tmps o.dst v) ds (.inRegion all L::k)) cs' w'
   |none=>lone (mkF fn kind (pt tmps o.dst .nilIface) ds (.inRegion all L::k)) cs w'):=by
 cases ht:tryRecover (mkF fn kind tmps ds (.inRegion all (i::L)::k)) cs with
 |some p=>
  obtain⟨v,cs'⟩:=p
  simp only[]
  rw[←fin_eq ho]
  exact step_lone_go (by rw[stB ho hw (by rw[hr];intro _ _ h;cases h)];simp[stepG.apply,hr,ht,hk])
 |none=>
  simp only[]
  rw[←fin_eq ho]
  exact step_lone_go (by rw[stB ho hw (by rw[hr];intro _ _ h;cases h)];simp[stepG.apply,hr,ht,hk])
end
theorem mkCls_drop (nt:Nat) (all:Array Oper): ∀(l:List Oper),mkCls P nt all l=l.map (mkCl P nt all)
 |[]=>rfl
 |o::l=>by simp[mkCls,mkCls_drop nt all l]
theorem drop_cons {all:Array Oper} {j:Nat} {o:Oper} (h:all[j]? =some o):all.toList.drop j=o::all.toList.drop (j+1):=by
 have hj:j<all.toList.length:=by
  rcases Nat.lt_or_ge j all.size with x|x
  ·simpa using x
  ·simp[Array.getElem?_eq_none x]at h
 rw[List.drop_eq_getElem_cons hj]
 congr 1
 rw[Array.getElem?_eq_getElem (by simpa using hj)]at h
 simpa using h
structure AtOp (P:Program) (ι:Inj) (s:S) (w:World) (all:Array Oper) (tmps:Array Value) (i:Nat) (o:Oper) (r:OR):Prop where
 op:all[i]? =some o
 wanted:Region.wanted o (yielded all tmps)=true
 post: ∀hb,hb≤s.nx→HdPost P hb ι s w (rho tmps) o r
 noval: ∀v s',r≠ .val v s'
structure OpsRun (P:Program) (hb:Nat) (fn:FuncId) (kind:KR) (ds:List Deferred) (all:Array Oper) (nt:Nat) (k:List Item) (cs:List Frame)
 (ι:Inj) (s:S) (w:World) (m:Machine) (g':T Value) (s':S) (ι':Inj) (w':World) (tmps':Array Value) (todo:List Item):Prop where
 steps:Steps P m (lone (mkF fn kind tmps' ds todo) cs w')
 tmps:TmpRel ι' g' tmps'
 size:tmps'.size=nt
 srel:SRel P ι' s' w'
 fm:Fm hb ι s w ι' s' w'
def OpsPost (P:Program) (hb:Nat) (fn:FuncId) (kind:KR) (ds:List Deferred) (all:Array Oper) (nt:Nat) (k:List Item) (cs:List Frame) (ι:Inj) (s:S) (w:World) (m:Machine):RR→Prop
 | .fin g' s'=> ∃ι' w' tmps',OpsRun P hb fn kind ds all nt k cs ι s w m g' s' ι' w' tmps' k
 | .at_ l' g' s' r=> ∃ι' w' tmps' j o,OpsRun P hb fn kind ds all nt k cs ι s w m g' s' ι' w' tmps' (.inRegion all (j::List.range' (j+1) (all.size - (j+1)))::k)∧
  l'=⟨cr P o.op,o.dst,(l'.head?.map (·.gd)).getD .no⟩::mkCls P nt all (all.toList.drop (j+1))∧dstOk nt o.dst=true∧AtOp P ι' s' w' all tmps' j o r
 | .bad _=>True
theorem OpsPost.of_steps {hb:Nat} {fn:FuncId} {kind:KR} {ds:List Deferred} {all:Array Oper} {nt:Nat} {k:List Item} {cs:List Frame} {ι ι1:Inj} {s s1:S} {w w1:World} {m m1:Machine} {r:RR}
 (h:Steps P m m1) (f:Fm hb ι s w ι1 s1 w1) (k':OpsPost P hb fn kind ds all nt k cs ι1 s1 w1 m1 r):OpsPost P hb fn kind ds all nt k cs ι s w m r:=by
 cases r with
 |fin g s=>obtain⟨a,b,c,d⟩:=k';exact⟨a,b,c,h.trans d.steps,d.tmps,d.size,d.srel,f.trans d.fm⟩
 |at_ l g s r=>obtain⟨a,b,c,j,o,d,e⟩:=k';exact⟨a,b,c,j,o,⟨h.trans d.steps,d.tmps,d.size,d.srel,f.trans d.fm⟩,e⟩
 |bad=>trivial
theorem hd_noval {r:OR} (h: ∀v s,r≠ .val v s) {α:Type} (f:Value→S→α) (x:OR→α):(match r with| .val v s=>f v s|r'=>x r')=x r:=by
 cases r<;>first|rfl|exact absurd rfl (h _ _)
theorem sim_ops {hb:Nat} {fn:FuncId} {kind:KR} {ds:List Deferred} {all:Array Oper} {nt:Nat} {k:List Item} {cs:List Frame} :
 ∀(n j:Nat),j+n=all.size→ ∀(g:T Value) (s:S) (ι:Inj) (w:World) (tmps:Array Value),TmpRel ι g tmps→tmps.size=nt→SRel P ι s w→hb≤s.nx→s.lo≤s.nx→
  OpsPost P hb fn kind ds all nt k cs ι s w (lone (mkF fn kind tmps ds (.inRegion all (List.range' j n)::k)) cs w) (runOps (mkCls P nt all (all.toList.drop j)) g s):=by
 intro n
 induction n with
 |zero=>
  intro j hj g s ι w tmps ht hn hS hhb hlo
  have:all.toList.drop j=[]:=List.drop_eq_nil_of_le (by simp;omega)
  rw[this]
  exact⟨ι,w,tmps,.one (stepR_region_end (b:=bs fn kind) (a:=⟨tmps,ds⟩)),ht,hn,hS,Fm.refl _ _ _ _⟩
 |succ n ih=>
  intro j hj g s ι w tmps ht hn hS hhb hlo
  have hjl:j<all.size:=by omega
  obtain⟨o,ho⟩: ∃o,all[j]? =some o:=⟨_,Array.getElem?_eq_getElem hjl⟩
  rw[drop_cons ho]
  have hrg:List.range' j (n+1)=j::List.range' (j+1) n:=by simp[List.range'_succ]
  rw[hrg]
  have hnn:all.size - (j+1)=n:=by omega
  simp only[mkCls]
  rcases mkCl_cases (P:=P) nt all o with hc|⟨gd,hc,hm,hd,hgk⟩
  ·rw[hc];simp only[runOps,gdT,rdNo];trivial
  ·rw[hc]
   simp only[runOps]
   cases hgt:gdT gd g with
   |none=>trivial
   |some b=>
    have hw:=gd_rel hm hgk hn ht hgt
    cases b with
    |false=>
     simp only[]
     refine .of_steps (.one (st_skip ho hw)) (Fm.refl hb ι s w) ?_
     exact ih (j+1) (by omega) _ s ι w _ (ht.putD hn hd (.tuple .nil)) (by rw[pt_size];exact hn) hS hhb hlo
    |true=>
     simp only[]
     have hok:=cr_ok (P:=P) o
     have hrho:=ht.rho o.op.operands.toList
     cases hcr:cr P o.op with
     |pu f=>
      rw[hcr]at hok
      simp only[]
      cases hf:f g with
      |none=>trivial
      |some v=>
       simp only[]
       obtain⟨v',hv,hrun⟩:=hok ι g _ v hf hrho
       refine .of_steps (.one (st_value ho hw (.inl (hrun w)))) (Fm.refl hb ι s w) ?_
       exact ih (j+1) (by omega) _ s ι w _ (ht.putD hn hd hv) (by rw[pt_size];exact hn) hS hhb hlo
     |rd f=>
      rw[hcr]at hok
      simp only[]
      cases hf:f g s with
      |none=>trivial
      |some v=>
       simp only[]
       obtain⟨v',hv,hrun⟩:=hok ι s w g _ v hf hS hrho
       refine .of_steps (.one (st_value ho hw (.inl hrun))) (Fm.refl hb ι s w) ?_
       exact ih (j+1) (by omega) _ s ι w _ (ht.putD hn hd hv) (by rw[pt_size];exact hn) hS hhb hlo
     |al f=>
      rw[hcr]at hok
      simp only[]
      cases hf:f g with
      |none=>trivial
      |some om=>
       obtain⟨ob,mk⟩:=om
       simp only[]
       obtain⟨hp,hall⟩:=hok ι g _ ob mk hf hrho
       obtain⟨top,o',w',v',hpush,hrun,hrel⟩:=hall w
       have hfr:ι s.nx=none:=hS.fresh _ (Nat.le_refl _)
       have hx:=Ext.up ⟨w.heap.size,0,top⟩ hfr
       obtain⟨r1,r2⟩:=hrel _ s.nx hx (Inj.up_self _ _ _)
       have hF:=Fm.push (hb:=hb) (o:=ob) hS hhb hlo (top:=top) hpush
       refine .of_steps (.one (st_value ho hw (.inl hrun))) hF ?_
       exact ih (j+1) (by omega) _ _ _ _ _ ((ht.mono hx).putD hn hd r2) (by rw[pt_size];exact hn) (hS.push hp hpush r1) (by rw[S.push_nx];omega) (by rw[S.push_nx,S.push_lo];omega)
     |hd f=>
      rw[hcr]at hok
      simp only[]
      by_cases hval: ∃v s1,f g s= .val v s1
      ·obtain⟨v,s1,hf⟩:=hval
       rw[hf]
       simp only[]
       have hpost:=hok hb ι s w g _ hS hhb hlo hrho
       rw[hf]at hpost
       obtain⟨ι',w',v',hrun,hv,hS',hF⟩:=hpost
       refine .of_steps (.one (st_value ho hw hrun)) hF ?_
       have:=hF.nx;have:=hF.lo
       exact ih (j+1) (by omega) _ _ _ _ _ ((ht.mono hF.ext).putD hn hd hv) (by rw[pt_size];exact hn) hS' (by omega) (by omega)
      ·have hnv: ∀v s1,f g s≠ .val v s1:=fun v s1 h=>hval ⟨v,s1,h⟩
       have fin:OpsPost P hb fn kind ds all nt k cs ι s w (lone (mkF fn kind tmps ds (.inRegion all (j::List.range' (j+1) n)::k)) cs w)
        (.at_ (⟨.hd f,o.dst,gd⟩::mkCls P nt all (all.toList.drop (j+1))) g s (f g s)):=by
        refine⟨ι,w,tmps,j,o,⟨by rw[hnn];exact .refl _ _,ht,hn,hS,Fm.refl _ _ _ _⟩,?_,hd,ho,hw,?_,hnv⟩
        ·rw[hcr];rfl
        ·intro hb' hle
         exact hok hb' ι s w g _ hS hle hlo hrho
       cases hr:f g s with
       |val v s1=>exact absurd hr (hnv _ _)
       |_=>rw[hr]at fin;exact fin
end
end Go.AM
namespace Go.AM
noncomputable section
variable {P:Program}
def Bf (bs:List Nat) (i j:Nat):Bool:=Nat.testBit (bs.getD i 0) j
theorem testBit_two_pow' (a j:Nat):Nat.testBit (2 ^ a) j=decide (a=j):=Nat.testBit_two_pow ..
theorem befOf_spec {acc:List Nat} {j:Nat} : ∀(es:List Edge) (m:Nat),Nat.testBit (befOf acc es m) j=true↔
 (Nat.testBit m j=true∨ ∃e∈es,Region.binds .any e=true∧(j=e.on∨Bf acc e.on j=true))
 |[],m=>by simp[befOf]
 |e::es,m=>by
  simp only[befOf]
  rw[befOf_spec es]
  cases hb:Region.binds .any e with
  |false=>simp[hb]
  |true=>
   simp only[cond_true,List.mem_cons,exists_eq_or_imp,hb,true_and]
   have: ∀a b,Nat.lor a b=a|||b:=fun _ _=>rfl
   rw[this,this,Nat.testBit_or,Nat.testBit_or,testBit_two_pow']
   simp only[Bool.or_eq_true,decide_eq_true_eq,Bf]
   constructor
   ·rintro(((h|h)|h)|h)
    ·exact .inl h
    ·exact .inr (.inl (.inl h.symm))
    ·exact .inr (.inl (.inr h))
    ·exact .inr (.inr h)
   ·rintro(h|(h|h)|h)
    ·exact .inl (.inl (.inl h))
    ·exact .inl (.inl (.inr h.symm))
    ·exact .inl (.inr h)
    ·exact .inr h
theorem edgesOk_spec {i:Nat} : ∀ {es:List Edge},edgesOk i es=true→ ∀e∈es,Region.binds .any e=true→e.on<i
 |[],_,e,he,_=>by simp at he
 |a::es,h,e,he,hb=>by
  simp only[edgesOk,Bool.and_eq_true,Bool.or_eq_true,Bool.not_eq_true',Nat.blt_eq]at h
  rcases List.mem_cons.1 he with rfl|he
  ·rcases h.1 with x|x
   ·rw[x]at hb;cases hb
   ·exact x
  ·exact edgesOk_spec h.2 e he hb
theorem befs_spec: ∀ {ops:List Oper} {acc res:List Nat} {i:Nat},befs ops i acc=some res→acc.length=i→
 (∀k,k<i→res.getD k 0=acc.getD k 0)∧
 ∀k o,ops[k]? =some o→(∀e∈o.after.toList,Region.binds .any e=true→e.on<i+k)∧
  ∀j,Bf res (i+k) j=true↔ ∃e∈o.after.toList,Region.binds .any e=true∧(j=e.on∨Bf res e.on j=true)
 |[],acc,res,i,h,hl=>by
  simp only[befs,Option.some.injEq]at h;subst h
  exact⟨fun _ _=>rfl,fun k o hk=>by simp at hk⟩
 |o::ops,acc,res,i,h,hl=>by
  simp only[befs]at h
  cases he:edgesOk i o.after.toList with
  |false=>rw[he]at h;cases h
  |true=>
   rw[he]at h;simp only[cond_true]at h
   obtain⟨h1,h2⟩:=befs_spec h (by simp[hl])
   have hlow: ∀k,k<i→res.getD k 0=acc.getD k 0:=fun k hk=>by
    rw[h1 k (by omega)]
    simp[List.getD,List.getElem?_append_left (by omega:k<acc.length)]
   have hi:res.getD i 0=befOf acc o.after.toList 0:=by
    rw[h1 i (by omega)]
    simp[List.getD,←hl]
   refine⟨hlow,fun k o' hk=>?_⟩
   cases k with
   |zero=>
    simp only[List.getElem?_cons_zero,Option.some.injEq]at hk;subst hk
    refine⟨fun e hm hb=>edgesOk_spec he e hm hb,fun j=>?_⟩
    simp only[Nat.add_zero,Bf,hi]
    rw[befOf_spec]
    simp only[Nat.zero_testBit,Bool.false_eq_true,false_or]
    constructor
    ·rintro⟨e,a,b,c⟩
     refine⟨e,a,b,c.imp id fun x=>?_⟩
     rw[hlow _ (edgesOk_spec he e a b)];exact x
    ·rintro⟨e,a,b,c⟩
     refine⟨e,a,b,c.imp id fun x=>?_⟩
     rw[hlow _ (edgesOk_spec he e a b)]at x;exact x
   |succ k=>
    have:=h2 k o' (by simpa using hk)
    rw[show i+(k+1)=Nat.succ i+k by omega]
    exact this
theorem distinctD_spec: ∀ {ops:List Oper} {ds:List Tmp},distinctD ops ds=true→
 (∀(i:Nat) (o:Oper) (d:Tmp),ops[i]? =some o→o.dst=some d→d∉ds)∧ ∀(i j:Nat) (o o':Oper) (d:Tmp),ops[i]? =some o→ops[j]? =some o'→o.dst=some d→o'.dst=some d→i=j
 |[],ds,_=>⟨fun i o d h=>by simp at h,fun i j o o' d h=>by simp at h⟩
 |o::ops,ds,h=>by
  simp only[distinctD]at h
  cases hd:o.dst with
  |none=>
   rw[hd]at h
   obtain⟨h1,h2⟩:=distinctD_spec h
   refine⟨fun i o' d hi hd'=>?_,fun i j o1 o2 d hi hj h3 h4=>?_⟩
   ·cases i with
    |zero=>simp at hi;subst hi;rw[hd]at hd';cases hd'
    |succ i=>exact h1 i o' d (by simpa using hi) hd'
   ·cases i with
    |zero=>simp at hi;subst hi;rw[hd]at h3;cases h3
    |succ i=>
     cases j with
     |zero=>simp at hj;subst hj;rw[hd]at h4;cases h4
     |succ j=>rw[h2 i j o1 o2 d (by simpa using hi) (by simpa using hj) h3 h4]
  |some d0=>
   rw[hd]at h
   simp only[Bool.and_eq_true,Bool.not_eq_true',List.contains_eq_mem,decide_eq_false_iff_not]at h
   obtain⟨h1,h2⟩:=distinctD_spec h.2
   refine⟨fun i o' d hi hd'=>?_,fun i j o1 o2 d hi hj h3 h4=>?_⟩
   ·cases i with
    |zero=>simp at hi;subst hi;rw[hd]at hd';cases hd';exact h.1
    |succ i=>exact fun hm=>h1 i o' d (by simpa using hi) hd' (List.mem_cons_of_mem _ hm)
   ·cases i with
    |zero=>
     cases j with
     |zero=>rfl
     |succ j=>simp at hi;subst hi;rw[hd]at h3;cases h3;exact absurd (List.mem_cons_self) (h1 j o2 _ (by simpa using hj) h4)
    |succ i=>
     cases j with
     |zero=>simp at hj;subst hj;rw[hd]at h4;cases h4;exact absurd (List.mem_cons_self) (h1 i o1 _ (by simpa using hi) h3)
     |succ j=>rw[h2 i j o1 o2 d (by simpa using hi) (by simpa using hj) h3 h4]
theorem writer_spec: ∀ {ops:List Oper} {i w:Nat} {t:Tmp} {o:Oper},(∀(a b:Nat) (o o':Oper) (d:Tmp),ops[a]? =some o→ops[b]? =some o'→o.dst=some d→o'.dst=some d→a=b)→
 ops[w]? =some o→o.dst=some t→writer ops i t=some (i+w)
 |[],i,w,t,o,_,h,_=>by simp at h
 |a::ops,i,w,t,o,hd,h,ht=>by
  simp only[writer]
  cases w with
  |zero=>
   simp only[List.getElem?_cons_zero,Option.some.injEq]at h;subst h
   simp[ht]
  |succ w=>
   have h':ops[w]? =some o:=by simpa using h
   have ih:=writer_spec (i:=Nat.succ i) (fun a b o1 o2 d x y z u=>by
    have:=hd (a+1) (b+1) o1 o2 d (by simpa using x) (by simpa using y) z u
    omega) h' ht
   cases ha:a.dst with
   |none=>simp only[];rw[ih];congr 1;omega
   |some d=>
    simp only[]
    cases he:Nat.beq d t with
    |true=>
     have:=Nat.eq_of_beq_eq_true he;subst this
     have:=hd 0 (w+1) a o d rfl h ha ht
     omega
    |false=>simp only[cond_false];rw[ih];congr 1;omega
theorem readsOk_spec {ops:List Oper} {bs:List Nat} {i:Nat} {mv:Bool} : ∀ {ts:List Tmp},readsOk ops bs i mv ts=true→ ∀t∈ts,∀w,writer ops 0 t=some w→
 Bf bs i w=true∨(mv=true∧Bf bs w i=true)
 |[],_,t,h,_,_=>by simp at h
 |a::ts,h,t,hm,w,hw=>by
  simp only[readsOk,Bool.and_eq_true]at h
  rcases List.mem_cons.1 hm with rfl|hm
  ·rw[hw]at h
   simp only[Bool.or_eq_true,Bool.and_eq_true]at h
   exact h.1
  ·exact readsOk_spec h.2 t hm w hw
theorem allReadsOk_spec {all:Array Oper} {ops:List Oper} {bs:List Nat} : ∀ {l:List Oper} {i:Nat},allReadsOk all ops bs l i=true→ ∀k o,l[k]? =some o→readsOk ops bs (i+k) (isMv o.op) (reads o all)=true
 |[],i,_,k,o,h=>by simp at h
 |a::l,i,h,k,o,hk=>by
  simp only[allReadsOk,Bool.and_eq_true]at h
  cases k with
  |zero=>simp at hk;subst hk;exact h.1
  |succ k=>
   have:=allReadsOk_spec h.2 k o (by simpa using hk)
   rw[show i+(k+1)=Nat.succ i+k by omega];exact this
theorem hardsOf_spec: ∀ {l:List Cl} {i:Nat},(∀k c,l[k]? =some c→isHd c.r=true→i+k∈hardsOf l i)∧ ∀h∈hardsOf l i,i≤h∧ ∃c,l[h - i]? =some c∧isHd c.r=true
 |[],i=>⟨fun k c h=>by simp at h,fun h hm=>by simp[hardsOf]at hm⟩
 |c::l,i=>by
  obtain⟨h1,h2⟩:= @hardsOf_spec l (Nat.succ i)
  have key: ∀h∈hardsOf l (Nat.succ i),i≤h∧ ∃c',(c::l)[h - i]? =some c'∧isHd c'.r=true:=by
   intro h hm
   obtain⟨a,c',b,d⟩:=h2 h hm
   refine⟨by omega,c',?_,d⟩
   rw[show h - i=(h - Nat.succ i)+1 by omega];simpa using b
  simp only[hardsOf]
  cases hc:isHd c.r with
  |true=>
   simp only[cond_true]
   refine⟨fun k c' hk hh=>?_,fun h hm=>?_⟩
   ·cases k with
    |zero=>simp
    |succ k=>
     refine List.mem_cons_of_mem _ ?_
     rw[show i+(k+1)=Nat.succ i+k by omega]
     exact h1 k c' (by simpa using hk) hh
   ·rcases List.mem_cons.1 hm with rfl|hm
    ·exact⟨Nat.le_refl _,c,by simp,hc⟩
    ·exact key h hm
  |false=>
   simp only[cond_false]
   refine⟨fun k c' hk hh=>?_,key⟩
   cases k with
   |zero=>simp at hk;subst hk;rw[hc]at hh;cases hh
   |succ k=>
    rw[show i+(k+1)=Nat.succ i+k by omega]
    exact h1 k c' (by simpa using hk) hh
def soft (P:Program) (nt:Nat) (all:Array Oper) (i:Nat):Bool:=match all[i]? with|some o=>!isHd (mkCl P nt all o).r|none=>false
structure PF0 (P:Program) (nt:Nat) (all:Array Oper) (bs H:List Nat):Prop where
 bef: ∀i o j,all[i]? =some o→(Bf bs i j=true↔ ∃e∈o.after.toList,Region.binds .any e=true∧(j=e.on∨Bf bs e.on j=true))
 edge: ∀i o e,all[i]? =some o→e∈o.after.toList→Region.binds .any e=true→e.on<i
 out: ∀i j,all.size≤i→Bf bs i j=false
 dist: ∀(i j:Nat) (o o':Oper) (d:Tmp),all[i]? =some o→all[j]? =some o'→o.dst=some d→o'.dst=some d→i=j
 rds: ∀i o t,all[i]? =some o→t∈reads o all→ ∀w o',all[w]? =some o'→o'.dst=some t→Bf bs i w=true∨(isMv o.op=true∧Bf bs w i=true)
 hard: ∀i o,all[i]? =some o→isHd (mkCl P nt all o).r=true→i∈H
 hard': ∀i,i∈H→ ∃o,all[i]? =some o∧isHd (mkCl P nt all o).r=true
theorem PF0.lt {nt:Nat} {all:Array Oper} {bs H:List Nat} (h:PF0 P nt all bs H): ∀ {i j:Nat},Bf bs i j=true→j<i:=by
 intro i
 induction i using Nat.strongRecOn with
 |_ i ih=>
  intro j hj
  cases ho:all[i]? with
  |none=>rw[h.out i j (by
   rcases Nat.lt_or_ge i all.size with x|x;·simp[Array.getElem?_eq_getElem x]at ho
   ·exact x)]at hj;cases hj
  |some o=>
   obtain⟨e,a,b,c⟩:=(h.bef i o j ho).1 hj
   have he:=h.edge i o e ho a b
   rcases c with rfl|c
   ·exact he
   ·have:=ih e.on he c;omega
theorem PF0.tr {nt:Nat} {all:Array Oper} {bs H:List Nat} (h:PF0 P nt all bs H): ∀ {i j k:Nat},Bf bs i j=true→Bf bs j k=true→Bf bs i k=true:=by
 intro i
 induction i using Nat.strongRecOn with
 |_ i ih=>
  intro j k hj hk
  cases ho:all[i]? with
  |none=>rw[h.out i j (by
   rcases Nat.lt_or_ge i all.size with x|x;·simp[Array.getElem?_eq_getElem x]at ho
   ·exact x)]at hj;cases hj
  |some o=>
   obtain⟨e,a,b,c⟩:=(h.bef i o j ho).1 hj
   rw[h.bef i o k ho]
   refine⟨e,a,b,.inr ?_⟩
   rcases c with rfl|c
   ·exact hk
   ·exact ih e.on (h.edge i o e ho a b) c hk
structure PF (P:Program) (nt:Nat) (all:Array Oper) (X:Nat→List Nat) (bs H:List Nat):Prop where
 bef: ∀i o j,all[i]? =some o→Bf bs i j=true→(∃e∈o.after.toList,Region.binds .any e=true∧(j=e.on∨Bf bs e.on j=true))∨ ∃m∈X i,j=m∨Bf bs m j=true
 edge: ∀i o e,all[i]? =some o→e∈o.after.toList→Region.binds .any e=true→e.on<i
 tr: ∀ {i j k:Nat},Bf bs i j=true→Bf bs j k=true→Bf bs i k=true
 irr: ∀i,Bf bs i i=false
 lt: ∀ {i o j},all[i]? =some o→(soft P nt all i=true∨o.dst≠none)→Bf bs i j=true→j<i
 out: ∀i j,all.size≤i→Bf bs i j=false
 dist: ∀(i j:Nat) (o o':Oper) (d:Tmp),all[i]? =some o→all[j]? =some o'→o.dst=some d→o'.dst=some d→i=j
 rds: ∀i o t,all[i]? =some o→t∈reads o all→ ∀w o',all[w]? =some o'→o'.dst=some t→Bf bs i w=true∨(isMv o.op=true∧Bf bs w i=true)
 hard: ∀i o,all[i]? =some o→isHd (mkCl P nt all o).r=true→i∈H
 hard': ∀i,i∈H→ ∃o,all[i]? =some o∧isHd (mkCl P nt all o).r=true
 chain:chained bs H=true
theorem befs_length: ∀ {ops:List Oper} {acc res:List Nat} {i:Nat},befs ops i acc=some res→res.length=acc.length+ops.length
 |[],acc,res,i,h=>by simp only[befs,Option.some.injEq]at h;subst h;simp
 |o::ops,acc,res,i,h=>by
  simp only[befs]at h
  cases he:edgesOk i o.after.toList with
  |false=>rw[he]at h;cases h
  |true=>
   rw[he]at h;simp only[cond_true]at h
   have:=befs_length h
   simp at this⊢;omega
def dopsFrom (P:Program) (nt:Nat) (all:Array Oper) (bs H:List Nat) (j:Nat):List Dop:=mkDops bs H (all.toList.drop j) (mkCls P nt all (all.toList.drop j)) j
theorem befs_PF0 {nt:Nat} {all:Array Oper} {bs:List Nat} (hb:befs all.toList 0 []=some bs) (hd:distinctD all.toList []=true) (hr:allReadsOk all all.toList bs all.toList 0=true):
 PF0 P nt all bs (hardsOf (mkCls P nt all all.toList) 0):=by
  obtain⟨_,b2⟩:=befs_spec hb rfl
  obtain⟨_,d2⟩:=distinctD_spec hd
  obtain⟨e1,e2⟩:= @hardsOf_spec (mkCls P nt all all.toList) 0
  have tl: ∀i:Nat,all.toList[i]? =all[i]? :=fun i=>Array.getElem?_toList ..
  have hcl: ∀(i:Nat) (o:Oper),all[i]? =some o→(mkCls P nt all all.toList)[i]? =some (mkCl P nt all o):=by
   intro i o ho
   rw[mkCls_drop,List.getElem?_map,tl,ho];rfl
  refine⟨?_,?_,?_,?_,?_,?_,?_⟩
  ·intro i o j ho
   have:=(b2 i o (by rw[tl];exact ho)).2 j
   simpa using this
  ·intro i o e ho he hbd
   have:=(b2 i o (by rw[tl];exact ho)).1 e he hbd
   simpa using this
  ·intro i j hi
   have hl:=befs_length hb
   simp at hl
   have:bs.getD i 0=0:=by simp[List.getD,List.getElem?_eq_none (by omega:bs.length≤i)]
   simp only[Bf,this,Nat.zero_testBit]
  ·intro i j o o' d h1 h2 h3 h4
   exact d2 i j o o' d (by rw[tl];exact h1) (by rw[tl];exact h2) h3 h4
  ·intro i o t ho ht w o' hw hd'
   have h1:=allReadsOk_spec hr i o (by rw[tl];exact ho)
   rw[Nat.zero_add]at h1
   exact readsOk_spec h1 t ht w (by
    have:=writer_spec (i:=0) (fun a b o o' d=>d2 a b o o' d) (by rw[tl];exact hw) hd'
    simpa using this)
  ·intro i o ho hh
   have:=e1 i _ (hcl i o ho) hh
   simpa using this
  ·intro i hi
   obtain⟨_,c,h2,h3⟩:=e2 i hi
   simp only[Nat.sub_zero]at h2
   rw[mkCls_drop,List.getElem?_map,tl]at h2
   cases ho:all[i]? with
   |none=>simp[ho]at h2
   |some o=>simp[ho]at h2;subst h2;exact⟨o,rfl,h3⟩
theorem PF0.pf {nt:Nat} {all:Array Oper} {bs H:List Nat} (h:PF0 P nt all bs H) (hc:chained bs H=true):PF P nt all (fun _=>[]) bs H:=
 ⟨fun i o j ho hj=> .inl ((h.bef i o j ho).1 hj),h.edge,h.tr,fun i=>by
  cases hb:Bf bs i i with
  |false=>rfl
  |true=>have:=h.lt hb;omega,fun _ _ hj=>h.lt hj,h.out,h.dist,h.rds,h.hard,h.hard',hc⟩
theorem planOf_spec {nt:Nat} {all:Array Oper} {pl:Plan} (h:planOf P nt all=some pl):
 ∃bs H,PF P nt all (fun _=>[]) bs H∧pl=⟨dopsFrom P nt all bs H 0,pick (mkCls P nt all all.toList) H⟩:=by
 simp only[planOf]at h
 cases hb:befs all.toList 0 []with
 |none=>simp[hb]at h
 |some bs=>
  simp only[hb]at h
  cases hk:chained bs (hardsOf (mkCls P nt all all.toList) 0)&&distinctD all.toList []&&allReadsOk all all.toList bs all.toList 0 with
  |false=>rw[hk]at h;cases h
  |true=>
   rw[hk]at h;simp only[cond_true,Option.some.injEq]at h
   simp only[Bool.and_eq_true]at hk
   obtain⟨⟨hc,hd⟩,hr⟩:=hk
   exact⟨bs,hardsOf (mkCls P nt all all.toList) 0,(befs_PF0 hb hd hr).pf hc,by rw[←h];rfl⟩
def XOf (a b i:Nat):List Nat:=if i=b then[a]else[]
theorem notBit_spec {h:Nat} : ∀ {bs:List Nat},notBit h bs=true→ ∀i,Bf bs i h=false
 |[],_,i=>by simp[Bf]
 |b::l,hn,i=>by
  simp only[notBit,Bool.and_eq_true,Bool.not_eq_true']at hn
  cases i with
  |zero=>simpa[Bf]using hn.1
  |succ i=>simpa[Bf]using notBit_spec hn.2 i
theorem setNat_get: ∀(l:List Nat) (i k v:Nat),(setNat l i v).getD k 0=if k=i∧i<l.length then v else l.getD k 0
 |[],i,k,v=>by simp[setNat]
 |a::l,0,k,v=>by cases k<;>simp[setNat]
 |a::l,i+1,k,v=>by
  cases k with
  |zero=>simp[setNat]
  |succ k=>
   have:=setNat_get l i k v
   simp only[setNat,List.getD_cons_succ,this,List.length_cons,Nat.add_right_cancel_iff,Nat.add_lt_add_iff_right]
theorem addBef_ne {bs:List Nat} {a b i:Nat} (h:i≠b) (j:Nat):Bf (addBef bs a b) i j=Bf bs i j:=by
 simp only[Bf,addBef,setNat_get,h,false_and,if_false]
theorem addBef_self {bs:List Nat} {a b:Nat} (h:b<bs.length) (j:Nat):Bf (addBef bs a b) b j=true↔(Bf bs b j=true∨a=j∨Bf bs a j=true):=by
 have e: ∀x y,Nat.lor x y=x|||y:=fun _ _=>rfl
 simp only[Bf,addBef,setNat_get,h,and_self,if_true,e,Nat.testBit_or,testBit_two_pow',Bool.or_eq_true,decide_eq_true_eq,or_assoc]
theorem PF0.pfX {nt:Nat} {all:Array Oper} {bs H:List Nat} (h:PF0 P nt all bs H) {pre:List Nat} {a b:Nat} (hlen:bs.length=all.size) (hH: ∀i,i∈H↔i∈pre∨i=a∨i=b) (hab:a≠b) (hb:notBit b bs=true)
 (hdb: ∀o,all[b]? =some o→o.dst=none) (hc:chained (addBef bs a b) (pre++[a,b])=true):PF P nt all (XOf a b) (addBef bs a b) (pre++[a,b]):=by
 have hblt:b<bs.length:=by
  rw[hlen]
  obtain⟨o,ho,_⟩:=h.hard' b ((hH b).2 (.inr (.inr rfl)))
  rcases Nat.lt_or_ge b all.size with x|x
  ·exact x
  ·rw[Array.getElem?_eq_none x]at ho;cases ho
 have hself:=fun j=>addBef_self (a:=a) hblt j
 have hnb: ∀i,Bf (addBef bs a b) i b=true→False:=by
  intro i hi
  by_cases e:i=b
  ·subst e
   rcases (hself i).1 hi with x|x|x
   ·rw[notBit_spec hb]at x;cases x
   ·exact hab x
   ·rw[notBit_spec hb]at x;cases x
  ·rw[addBef_ne e,notBit_spec hb]at hi;cases hi
 have hmono: ∀ {i j},Bf bs i j=true→Bf (addBef bs a b) i j=true:=by
  intro i j hij
  by_cases e:i=b
  ·subst e;exact(hself j).2 (.inl hij)
  ·rw[addBef_ne e];exact hij
 refine⟨?_,h.edge,?_,?_,?_,?_,h.dist,?_,?_,?_,?_⟩
 ·intro i o j ho hj
  by_cases e:i=b
  ·subst e
   rcases (hself j).1 hj with x|x|x
   ·obtain⟨e,q1,q2,q3⟩:=(h.bef i o j ho).1 x
    exact .inl ⟨e,q1,q2,q3.imp id hmono⟩
   ·exact .inr ⟨a,by simp[XOf],.inl x.symm⟩
   ·exact .inr ⟨a,by simp[XOf],.inr (hmono x)⟩
  ·rw[addBef_ne e]at hj
   obtain⟨e,q1,q2,q3⟩:=(h.bef i o j ho).1 hj
   exact .inl ⟨e,q1,q2,q3.imp id hmono⟩
 ·intro i j k hij hjk
  have hjb:j≠b:=fun e=>by subst e;exact hnb i hij
  rw[addBef_ne hjb]at hjk
  by_cases e:i=b
  ·subst e
   rcases (hself j).1 hij with x|x|x
   ·exact hmono (h.tr x hjk)
   ·subst x;exact(hself k).2 (.inr (.inr hjk))
   ·exact(hself k).2 (.inr (.inr (h.tr x hjk)))
  ·rw[addBef_ne e]at hij
   exact hmono (h.tr hij hjk)
 ·intro i
  cases hi:Bf (addBef bs a b) i i with
  |false=>rfl
  |true=>
   exfalso
   by_cases e:i=b
   ·subst e;exact hnb i hi
   ·rw[addBef_ne e]at hi
    have:=h.lt hi;omega
 ·intro i o j ho hs hij
  by_cases e:i=b
  ·subst e
   rcases hs with x|x
   ·obtain⟨o',ho',hh⟩:=h.hard' i ((hH i).2 (.inr (.inr rfl)))
    simp[soft,ho',hh]at x
   ·exact absurd (hdb o ho) x
  ·rw[addBef_ne e]at hij;exact h.lt hij
 ·intro i j hi
  rw[addBef_ne (by omega)];exact h.out i j hi
 ·intro i o t ho ht w o' hw hd
  rcases h.rds i o t ho ht w o' hw hd with x|⟨x,y⟩
  ·exact .inl (hmono x)
  ·exact .inr ⟨x,hmono y⟩
 ·intro i o ho hh
  have:=(hH i).1 (h.hard i o ho hh)
  simpa using this
 ·intro i hi
  exact h.hard' i ((hH i).2 (by simpa using hi))
 ·exact hc
theorem noDst_spec {nt:Nat} {all:Array Oper} {i:Nat} (h:noDst (mkCls P nt all all.toList) i=true) (hh: ∃o,all[i]? =some o∧isHd (mkCl P nt all o).r=true): ∀o,all[i]? =some o→o.dst=none:=by
 intro o ho
 obtain⟨o',ho',hh⟩:=hh
 rw[ho]at ho';cases ho'
 have hc:(mkCls P nt all all.toList)[i]? =some (mkCl P nt all o):=by
  rw[mkCls_drop,List.getElem?_map,Array.getElem?_toList,ho];rfl
 unfold noDst at h
 rw[hc]at h
 simp only[]at h
 rcases mkCl_cases (P:=P) nt all o with e|⟨gd,e,_⟩
 ·rw[e]at hh;simp[isHd,rdNo]at hh
 ·rw[e]at h
  simp only[]at h
  cases hd:o.dst with
  |none=>rfl
  |some d=>rw[hd]at h;cases h
theorem last2_spec: ∀ {l pre:List Nat} {a b:Nat},last2 l=some (pre,a,b)→l=pre++[a,b]
 |[],_,_,_,h=>by simp[last2]at h
 |[_],_,_,_,h=>by simp[last2]at h
 |[x,y],_,_,_,h=>by simp only[last2,Option.some.injEq,Prod.mk.injEq]at h;obtain⟨rfl,rfl,rfl⟩:=h;rfl
 |x::y::z::l,pre,a,b,h=>by
  simp only[last2]at h
  cases h1:last2 (y::z::l)with
  |none=>simp[h1]at h
  |some q=>
   obtain⟨p,a',b'⟩:=q
   simp only[h1,Option.some.injEq,Prod.mk.injEq]at h
   obtain⟨rfl,rfl,rfl⟩:=h
   rw[last2_spec h1];rfl
theorem planX_spec {nt:Nat} {all:Array Oper} {A B:Plan} (h:planX P nt all=some (A,B)):
 ∃bs pre a b,a≠b∧PF P nt all (XOf a b) (addBef bs a b) (pre++[a,b])∧PF P nt all (XOf b a) (addBef bs b a) (pre++[b,a])∧
  A=⟨dopsFrom P nt all (addBef bs a b) (pre++[a,b]) 0,pick (mkCls P nt all all.toList) (pre++[a,b])⟩∧B=⟨dopsFrom P nt all (addBef bs b a) (pre++[b,a]) 0,pick (mkCls P nt all all.toList) (pre++[b,a])⟩:=by
 simp only[planX]at h
 cases hb:befs all.toList 0 []with
 |none=>simp[hb]at h
 |some bs=>
  simp only[hb]at h
  cases hl:last2 (hardsOf (mkCls P nt all all.toList) 0)with
  |none=>simp[hl]at h
  |some q=>
   obtain⟨pre,a,b⟩:=q
   simp only[hl]at h
   have hH:=last2_spec hl
   cases hk:Nat.blt a b&&notBit a bs&&notBit b bs&&noDst (mkCls P nt all all.toList) a&&noDst (mkCls P nt all all.toList) b&&distinctD all.toList []&&allReadsOk all all.toList bs all.toList 0&&
    chained (addBef bs a b) (pre++[a,b])&&chained (addBef bs b a) (pre++[b,a])with
   |false=>rw[hk]at h;cases h
   |true=>
    rw[hk]at h
    simp only[cond_true,Option.some.injEq,Prod.mk.injEq]at h
    simp only[Bool.and_eq_true,Nat.blt_eq]at hk
    obtain⟨⟨⟨⟨⟨⟨⟨⟨k1,k2⟩,k3⟩,k4⟩,k5⟩,k6⟩,k7⟩,k8⟩,k9⟩:=hk
    have h0:PF0 P nt all bs (pre++[a,b]):=hH▸befs_PF0 hb k6 k7
    have hlen:bs.length=all.size:=by have:=befs_length hb;simpa using this
    have hda:=noDst_spec k4 (h0.hard' a (by simp))
    have hdb:=noDst_spec k5 (h0.hard' b (by simp))
    exact⟨bs,pre,a,b,by omega,h0.pfX hlen (fun i=>by simp) (by omega) k3 hdb k8,h0.pfX hlen (fun i=>by simp[or_comm]) (by omega) k2 hda k9,h.1.symm,h.2.symm⟩
namespace PF
variable {nt:Nat} {all:Array Oper} {X:Nat→List Nat} {bs H:List Nat}
theorem chain_lt (h:PF P nt all X bs H): ∀ {k k' i i':Nat},k<k'→H[k]? =some i→H[k']? =some i'→Bf bs i' i=true:=by
 have key: ∀(l:List Nat),chained bs l=true→ ∀ {k k' i i':Nat},k<k'→l[k]? =some i→l[k']? =some i'→Bf bs i' i=true:=by
  intro l
  induction l with
  |nil=>intro _ k k' i i' _ hi;simp at hi
  |cons a l ih=>
   intro hc k k' i i' hlt hi hi'
   cases l with
   |nil=>
    cases k' with
    |zero=>omega
    |succ k'=>simp at hi'
   |cons b l=>
    simp only[chained,Bool.and_eq_true]at hc
    cases k' with
    |zero=>omega
    |succ k'=>
     simp only[List.getElem?_cons_succ]at hi'
     cases k with
     |zero=>
      simp only[List.getElem?_cons_zero,Option.some.injEq]at hi;subst hi
      cases k' with
      |zero=>simp only[List.getElem?_cons_zero,Option.some.injEq]at hi';subst hi';exact hc.1
      |succ k'=>
       have:=ih hc.2 (k:=0) (k':=k'+1) (by omega) rfl hi'
       exact h.tr this hc.1
     |succ k=>
      exact ih hc.2 (k:=k) (k':=k') (by omega) (by simpa using hi) hi'
 exact fun {k k' i i'} a b c=>key H h.chain a b c
theorem loOf_spec (h:PF P nt all X bs H) {i:Nat} : ∀ {k hh:Nat},H[k]? =some hh→(k<loOf (bs.getD i 0) H↔Bf bs i hh=true):=by
 have key: ∀(l:List Nat),(∀(k k' a b:Nat),k<k'→l[k]? =some a→l[k']? =some b→Bf bs b a=true)→ ∀ {k hh:Nat},l[k]? =some hh→(k<loOf (bs.getD i 0) l↔Bf bs i hh=true):=by
  intro l
  induction l with
  |nil=>intro _ k hh hk;simp at hk
  |cons a l ih=>
   intro hc k hh hk
   simp only[loOf]
   cases ha:Nat.testBit (bs.getD i 0) a with
   |false=>
    simp only[cond_false,Nat.not_lt_zero,false_iff]
    intro hb
    cases k with
    |zero=>simp at hk;subst hk;rw[Bf,ha]at hb;cases hb
    |succ k=>
     have:=h.tr hb (hc 0 (k+1) a hh (by omega) rfl hk)
     rw[Bf,ha]at this;cases this
   |true=>
    simp only[cond_true]
    cases k with
    |zero=>simp at hk;subst hk;simp[Bf];exact ha
    |succ k=>
     have:=ih (fun k k' x y hl hx hy=>hc (k+1) (k'+1) x y (by omega) (by simpa using hx) (by simpa using hy)) (k:=k) (hh:=hh) (by simpa using hk)
     rw[←this];omega
 exact fun {k hh} hk=>key H (fun k k' a b=>h.chain_lt) hk
theorem loOf_le (b:Nat): ∀l:List Nat,loOf b l≤l.length
 |[]=>Nat.le_refl _
 |a::l=>by
  simp only[loOf]
  cases Nat.testBit b a with
  |false=>simp
  |true=>simp[loOf_le b l]
theorem hiOf_spec {i:Nat} : ∀ {l:List Nat},∀hh,l[hiOf bs i l]? =some hh→Bf bs hh i=true
 |[],hh,h=>by simp at h
 |a::l,hh,h=>by
  simp only[hiOf]at h
  cases ha:Nat.testBit (bs.getD a 0) i with
  |true=>
   rw[ha]at h
   simp only[cond_true,List.getElem?_cons_zero,Option.some.injEq]at h;subst h
   exact ha
  |false=>
   rw[ha]at h
   simp only[cond_false,Nat.succ_eq_add_one,List.getElem?_cons_succ]at h
   exact hiOf_spec hh h
end PF
theorem dopsFrom_cons {nt:Nat} {all:Array Oper} {bs H:List Nat} {j:Nat} {o:Oper} (h:all[j]? =some o):
 dopsFrom P nt all bs H j=⟨mkCl P nt all o,isHd (mkCl P nt all o).r,loOf (bs.getD j 0) H,hiOf bs j H⟩::dopsFrom P nt all bs H (j+1):=by
 unfold dopsFrom
 rw[drop_cons h]
 simp only[mkCls,mkDops]
theorem dopsFrom_nil {nt:Nat} {all:Array Oper} {bs H:List Nat} {j:Nat} (h:all.size≤j):dopsFrom P nt all bs H j=[]:=by
 unfold dopsFrom
 rw[List.drop_eq_nil_of_le (by simpa using h)];rfl
theorem pick_spec {cs:List Cl} : ∀ {H:List Nat},(∀h∈H,∃c,cs[h]? =some c)→pick cs H=H.filterMap (cs[·]?)
 |[],_=>rfl
 |h::H,hc=>by
  obtain⟨c,e⟩:=hc h (List.mem_cons_self)
  simp[pick,e,pick_spec (fun x hx=>hc x (List.mem_cons_of_mem _ hx))]
inductive Lin (all:Array Oper) (X:Nat→List Nat):List Nat→(Nat→Bool)→Prop
 |nil {E:Nat→Bool} :(∀i,i<all.size→E i=true)→Lin all X [] E
 |cons {E:Nat→Bool} {i:Nat} {L:List Nat} {o:Oper} :all[i]? =some o→E i=false→(∀e∈o.after.toList,Region.binds .any e=true→E e.on=true)→(∀m∈X i,E m=true)→
  Lin all X L (fun j=>decide (j=i)||E j)→Lin all X (i::L) E
theorem Lin.congr {all:Array Oper} {X:Nat→List Nat} {L:List Nat} {E E':Nat→Bool} (h:Lin all X L E) (he: ∀i,E i=E' i):Lin all X L E':=by
 have:E=E':=funext he
 rw[←this];exact h
theorem lin_go {all:Array Oper} (hedge: ∀i o e,all[i]? =some o→e∈o.after.toList→Region.binds .any e=true→e.on<i):
 ∀(fuel t:Nat) (listed:Array Bool),listed.size=all.size→((List.range all.size).filter (fun i=>!listed.getD i true)).length=fuel→
  Lin all (fun _=>[]) (Region.linearise.go .any all fuel t listed []) (fun i=>listed.getD i false)
 |0,t,listed,hs,hf=>by
  refine .nil fun i hi=>?_
  have hnil:=List.eq_nil_of_length_eq_zero hf
  have:i∉(List.range all.size).filter (fun i=>!listed.getD i true):=by rw[hnil];simp
  rw[List.mem_filter]at this
  have hb:(!listed.getD i true)=false:=by
   cases hx:!listed.getD i true with
   |false=>rfl
   |true=>exact absurd ⟨List.mem_range.2 hi,hx⟩ this
  have hil:i<listed.size:=by omega
  simp only[Array.getD,hil,dite_true]at hb⊢
  simpa using hb
 |fuel+1,t,listed,hs,hf=>by
  rw[Region.linearise.go]
  generalize hrs:(List.range all.size).filter (fun i=>!listed.getD i true&&((all[i]?).map (·.after.all fun e=>!Region.binds .any e||listed.getD e.on false)).getD false)=rs
  have hne:rs≠[]:=by
   intro hnil
   have hall: ∀i,i<all.size→listed.getD i true=true:=by
    intro i
    induction i using Nat.strongRecOn with
    |_ i ih=>
     intro hi
     cases hx:listed.getD i true with
     |true=>rfl
     |false=>
      exfalso
      have:i∈rs:=by
       rw[←hrs,List.mem_filter]
       refine⟨List.mem_range.2 hi,?_⟩
       have ho:all[i]? =some all[i]:=Array.getElem?_eq_getElem hi
       simp only[hx,ho,Option.map_some,Option.getD_some,Bool.not_false,Bool.true_and]
       rw[Array.all_eq_true']
       intro e he
       cases hb:Region.binds .any e with
       |false=>rfl
       |true=>
        have hlt:=hedge i _ e ho (by simpa using he) hb
        have:=ih e.on hlt (by omega)
        have hel:e.on<listed.size:=by omega
        simp only[Array.getD,hel,dite_true]at this⊢
        simpa using this
      rw[hnil]at this;simp at this
   have:((List.range all.size).filter (fun i=>!listed.getD i true))=[]:=by
    rw[List.filter_eq_nil_iff]
    intro i hi
    simp[hall i (List.mem_range.1 hi)]
   rw[this]at hf;simp at hf
  have hlen:0<rs.length:=List.length_pos_iff.2 hne
  have hget:rs[t % rs.length]? =some (rs[t % rs.length]'(Nat.mod_lt _ hlen)):=List.getElem?_eq_getElem (Nat.mod_lt _ hlen)
  rw[hget]
  simp only[]
  rw[linearise_go_acc]
  generalize hi0:rs[t % rs.length]'(Nat.mod_lt _ hlen)=i
  have him:i∈rs:=by rw[←hi0];exact List.getElem_mem _
  rw[←hrs,List.mem_filter]at him
  obtain⟨hir,hcond⟩:=him
  have hil:i<all.size:=List.mem_range.1 hir
  have hils:i<listed.size:=by omega
  simp only[Bool.and_eq_true,Bool.not_eq_true']at hcond
  obtain⟨hl,hr⟩:=hcond
  have ho:all[i]? =some all[i]:=Array.getElem?_eq_getElem hil
  simp only[ho,Option.map_some,Option.getD_some]at hr
  rw[Array.all_eq_true']at hr
  simp only[List.reverse_cons,List.reverse_nil,List.nil_append,List.singleton_append]
  refine .cons ho ?_ ?_ (fun _ h=>by simp at h) ?_
  ·simp only[Array.getD,hils,dite_true]at hl⊢;exact hl
  ·intro e he hb
   have:=hr e (by simpa using he)
   simpa[hb]using this
  ·refine(lin_go hedge fuel (t / rs.length) (listed.setIfInBounds i true) (by simpa using hs) ?_).congr ?_
   ·
    have h1:((List.range all.size).filter (fun j=>!listed.getD j true)).length=fuel+1:=hf
    have hset: ∀j,j<all.size→(listed.setIfInBounds i true).getD j true=(decide (j=i)||listed.getD j true):=by
     intro j hj
     have hjs:j<listed.size:=by omega
     by_cases e:j=i
     ·subst e;simp[Array.getD,hjs]
     ·simp[Array.getD,hjs,Array.getElem_setIfInBounds,Ne.symm e,e]
    have h2:((List.range all.size).filter (fun j=>!(listed.setIfInBounds i true).getD j true))=((List.range all.size).filter (fun j=>!listed.getD j true)).filter (fun j=>!decide (j=i)):=by
     rw[List.filter_filter]
     refine List.filter_congr fun j hj=>?_
     rw[hset j (List.mem_range.1 hj)]
     simp
    rw[h2]
    have hnd:((List.range all.size).filter (fun j=>!listed.getD j true)).Nodup:=List.Nodup.sublist List.filter_sublist List.nodup_range
    have him2:i∈(List.range all.size).filter (fun j=>!listed.getD j true):=List.mem_filter.2 ⟨hir,by rw[hl];rfl⟩
    have h3:((List.range all.size).filter (fun j=>!listed.getD j true)).filter (fun j=>!decide (j=i))=((List.range all.size).filter (fun j=>!listed.getD j true)).erase i:=by
     rw[List.Nodup.erase_eq_filter hnd]
     refine List.filter_congr fun j _=>?_
     simp only[bne]
     congr 1
    rw[h3,List.length_erase_of_mem him2,h1];rfl
   ·intro j
    by_cases e:j=i
    ·subst e;simp[Array.getD,hils]
    ·by_cases hjs:j<listed.size
     ·simp[Array.getD,hjs,Array.getElem_setIfInBounds,Ne.symm e,e]
     ·simp[Array.getD,hjs,e]
theorem lin_schedule {all:Array Oper} (hedge: ∀i o e,all[i]? =some o→e∈o.after.toList→Region.binds .any e=true→e.on<i) (t:Nat):
 Lin all (fun _=>[]) (Region.schedule true all t) (fun _=>false):=by
 simp only[Region.schedule,Bool.true_or,if_true,Region.linearise]
 refine(lin_go hedge all.size t (Array.replicate all.size false) (by simp) ?_).congr ?_
 ·have:((List.range all.size).filter (fun i=>!(Array.replicate all.size false).getD i true))=List.range all.size:=by
   rw[List.filter_eq_self]
   intro i hi
   simp[Array.getD,List.mem_range.1 hi]
  rw[this];simp
 ·intro i
  simp[Array.getD]
theorem lin_done {all:Array Oper} {a b:Nat} {L:List Nat} {E:Nat→Bool} (h:Lin all (fun _=>[]) L E):E a=true→Lin all (XOf a b) L E:=by
 induction h with
 |nil hall=>exact fun _=> .nil hall
 |cons ho hE he hx hr ih=>
  intro ha
  refine .cons ho hE he ?_ (ih (by simp[ha]))
  intro m hm
  unfold XOf at hm
  split at hm
  ·simp at hm;subst hm;exact ha
  ·simp at hm
theorem lin_split {all:Array Oper} {a b:Nat} (hab:a≠b) {L:List Nat} {E:Nat→Bool} (h:Lin all (fun _=>[]) L E):Lin all (XOf a b) L E∨Lin all (XOf b a) L E:=by
 induction h with
 |nil hall=>exact .inl (.nil hall)
 |cons ho hE he hx hr ih=>
  rename_i E i L o
  by_cases e1:i=a
  ·subst e1
   exact .inl (.cons ho hE he (fun m hm=>by simp[XOf,hab]at hm) (lin_done hr (by simp)))
  ·by_cases e2:i=b
   ·subst e2
    exact .inr (.cons ho hE he (fun m hm=>by simp[XOf,e1]at hm) (lin_done hr (by simp)))
   ·rcases ih with x|x
    ·exact .inl (.cons ho hE he (fun m hm=>by simp[XOf,e2]at hm) x)
    ·exact .inr (.cons ho hE he (fun m hm=>by simp[XOf,e1]at hm) x)
end
end Go.AM
namespace Go.AM
noncomputable section
variable {P:Program}
def DV (g:T Value) (dst:Option Tmp) (v:Value):Prop:= ∀d,dst=some d→ev g (.tmp d)=v
theorem sameL_eq {f:Nat} (ih: ∀x y,sameV f x y=true→x=y): ∀ {l l':List Value},sameV.sameL f l l'=true→l=l'
 |[],[],_=>rfl
 |x::l,y::l',h=>by
  simp only[sameV.sameL,Bool.and_eq_true]at h
  rw[ih x y h.1,sameL_eq ih h.2]
 |[],_::_,h=>by simp[sameV.sameL]at h
 |_::_,[],h=>by simp[sameV.sameL]at h
theorem bytesEq_eq': ∀ {a b:List UInt8},bytesEq a b=true→a=b
 |[],[],_=>rfl
 |x::a,y::b,h=>by
  simp only[bytesEq]at h
  cases hb:Nat.beq x.toNat y.toNat with
  |false=>rw[hb]at h;cases h
  |true=>
   rw[hb]at h
   have e:x.toNat=y.toNat:=Nat.eq_of_beq_eq_true hb
   rw[UInt8.toNat_inj.1 e,bytesEq_eq' h]
 |[],_::_,h=>by simp[bytesEq]at h
 |_::_,[],h=>by simp[bytesEq]at h
theorem sameV_eq: ∀(f:Nat) (x y:Value),sameV f x y=true→x=y
 |0,x,y,h=>by simp[sameV]at h
 |f+1,x,y,h=>by
  have ihL:= @sameL_eq f (sameV_eq f)
  unfold sameV at h
  split at h
  ·simp at h;rw[h]
  ·simp only[Bool.and_eq_true,kindEq,decide_eq_true_eq]at h;rw[h.1,h.2]
  ·have:=bytesEq_eq' h
   congr 1
   exact ByteArray.ext (Array.toList_inj.1 this)
  ·rfl
  ·simp at h;rw[h]
  ·simp at h;rw[h.1,h.2]
  ·simp at h;rw[h.1.1,h.1.2,h.2]
  ·rfl
  ·simp at h;rw[h]
  ·rfl
  ·rfl
  ·simp only[Bool.and_eq_true,Nat.beq_eq]at h
   rw[h.1.1,Array.toList_inj.1 (ihL h.1.2),Array.toList_inj.1 (ihL h.2)]
  ·rw[Nat.eq_of_beq_eq_true h]
  ·simp only[Bool.and_eq_true,Nat.beq_eq]at h
   rw[h.1.1,Array.toList_inj.1 (ihL h.1.2),Array.toList_inj.1 (ihL h.2)]
  ·simp only[Bool.and_eq_true,Nat.beq_eq]at h
   rw[h.1,sameV_eq f _ _ h.2]
  ·rw[Array.toList_inj.1 (ihL h)]
  ·rw[Array.toList_inj.1 (ihL h)]
  ·cases h
theorem sameD_eq {g:T Value} {dst:Option Tmp} {v:Value} (h:sameD g dst v=true):DV g dst v:=by
 intro d hd
 subst hd
 exact(sameV_eq _ _ _ h).symm
theorem eqT_eq {α:Type} {f:α→α→Bool} (hf: ∀x y,f x y=true→x=y): ∀ {a b:T α},eqT f a b=true→a=b
 | .leaf,.leaf,_=>rfl
 | .node l v r,.node l' v' r',h=>by
  simp only[eqT,Bool.and_eq_true]at h
  have e1:=eqT_eq hf h.1.2
  have e2:=eqT_eq hf h.2
  have e3:v=v':=by
   have:=h.1.1
   cases v<;>cases v'<;>simp only[eqT.eqOpt]at this<;>first|rfl|(cases this;done)|rw[hf _ _ this]
  rw[e1,e2,e3]
 | .leaf,.node _ _ _,h=>by simp[eqT]at h
 | .node _ _ _,.leaf,h=>by simp[eqT]at h
theorem eqVal_eq (x y:Value) (h:eqVal x y=true):x=y:=by
 unfold eqVal at h
 split at h
 ·rfl
 ·exact sameV_eq _ _ _ h
theorem eqON_eq {x y:Option Nat} (h:eqON x y=true):x=y:=by
 cases x<;>cases y<;>simp only[eqON]at h<;>first|rfl|(cases h;done)|rw[Nat.eq_of_beq_eq_true h]
theorem eqEs_eq: ∀ {x y:List (Value×Value)},eqEs x y=true→x=y
 |[],[],_=>rfl
 |(k,v)::l,(k',v')::l',h=>by
  simp only[eqEs,Bool.and_eq_true]at h
  rw[eqVal_eq _ _ h.1.1,eqVal_eq _ _ h.1.2,eqEs_eq h.2]
 |[],_::_,h=>by simp[eqEs]at h
 |_::_,[],h=>by simp[eqEs]at h
theorem bytesEq_sound: ∀ {x y:List UInt8},bytesEq x y=true→x=y:=by
 intro x y h
 rw[bytesEq_eq]at h
 simpa using h
theorem eqO_eq (x y:AObj) (h:eqO x y=true):x=y:=by
 unfold eqO at h
 split at h<;>first|rfl|(cases h;done)|skip
 ·simp only[Bool.and_eq_true]at h
  obtain⟨⟨⟨⟨h1,h2⟩,h3⟩,h4⟩,h5⟩:=h
  rw[eqT_eq eqVal_eq h1,Nat.eq_of_beq_eq_true h2,Nat.eq_of_beq_eq_true h3,eqON_eq h4,Nat.eq_of_beq_eq_true h5]
 ·simp only[Bool.and_eq_true]at h
  rw[eqEs_eq h.1,Nat.eq_of_beq_eq_true h.2]
 ·simp only[Bool.and_eq_true]at h
  rw[eqEs_eq h.1,Nat.eq_of_beq_eq_true h.2]
 ·rw[Nat.eq_of_beq_eq_true h]
 ·simp only[Bool.and_eq_true]at h
  rw[eqT_eq eqVal_eq h.1,Nat.eq_of_beq_eq_true h.2]
 ·simp only[Bool.and_eq_true]at h
  rw[eqON_eq h.1,Nat.eq_of_beq_eq_true h.2]
 ·simp only[Bool.and_eq_true]at h
  rw[bytesEq_sound h.1.1,ByteArray.ext (Array.toList_inj.1 (bytesEq_sound h.1.2)),Nat.eq_of_beq_eq_true h.2]
theorem eqS'_eq {x y:S} (h:eqS' x y=true):x=y:=by
 obtain⟨a,b,c⟩:=x
 obtain⟨a',b',c'⟩:=y
 simp only[eqS',Bool.and_eq_true]at h
 rw[eqT_eq eqO_eq h.1.1,Nat.eq_of_beq_eq_true h.1.2,Nat.eq_of_beq_eq_true h.2]
section
variable (P:Program) (nt:Nat) (all:Array Oper) (bs H:List Nat)
def lof (i:Nat):Nat:=loOf (bs.getD i 0) H
def dnf (p j i:Nat):Bool:=soft P nt all i&&(decide (lof bs H i<p)||(decide (lof bs H i=p)&&decide (i<j)))
def OpF (ι:Inj) (g:T Value) (tmps:Array Value) (E dn:Nat→Bool) (i:Nat) (gi:T Value) (t:Tmp):Prop:=
 (∃w o,all[w]? =some o∧o.dst=some t∧Bf bs i w=true∧E w=false∧dn w=true∧ev gi (.tmp t)=ev g (.tmp t))∨
 (VRel ι (ev gi (.tmp t)) (tmps.getD t undef)∧ ∀w o,all[w]? =some o→o.dst=some t→E w=true∨Bf bs w i=true)
def Pend (hb:Nat) (ι:Inj) (s:S) (g:T Value) (tmps:Array Value) (E dn:Nat→Bool) (a:Nat→Option Nat) (i:Nat) (o:Oper):Prop:=
 ∃gd,mkCl P nt all o=⟨cr P o.op,o.dst,gd⟩∧mkGd all o.guard=some gd∧dstOk nt o.dst=true∧gdOk nt gd=true∧
  match cr P o.op with
  | .hd _=>False
  | .rd _=>True
  | .pu f=> ∃gi b,gdT gd gi=some b∧(b=false→DV g o.dst und)∧(b=true→ ∃v,f gi=some v∧DV g o.dst v)∧ ∀t∈reads o all,OpF all bs ι g tmps E dn i gi t
  | .al f=> ∃gi b,gdT gd gi=some b∧(b=false→DV g o.dst und)∧
   (b=true→ ∃ob mk id,f gi=some (ob,mk)∧DV g o.dst (mk id)∧a i=some id∧hb≤id∧ι id=none∧s.h.get id=some ob)∧ ∀t∈reads o all,OpF all bs ι g tmps E dn i gi t
structure Dr (hb:Nat) (ι:Inj) (s:S) (g:T Value) (tmps:Array Value) (E dn:Nat→Bool) (p:Nat) (a:Nat→Option Nat):Prop where
 ple:p≤H.length
 size:tmps.size=nt
 clo: ∀i j,E i=true→Bf bs i j=true→E j=true
 hrd: ∀k i,H[k]? =some i→(E i=true↔k<p)
 edn: ∀i,soft P nt all i=true→E i=true→dn i=true
 ein: ∀i,E i=true→i<all.size
 tmp: ∀t,(∀i o,all[i]? =some o→o.dst=some t→dn i=true→E i=true)→VRel ι (ev g (.tmp t)) (tmps.getD t undef)
 pend: ∀i o,all[i]? =some o→dn i=true→E i=false→Pend P nt all bs hb ι s g tmps E dn a i o
 alt: ∀i id,a i=some id→id<s.nx
 inj: ∀i j id,a i=some id→a j=some id→i=j
def RdF (g:T Value) (s:S) (p:Nat):Prop:= ∀i o f gd,all[i]? =some o→mkCl P nt all o=⟨.rd f,o.dst,gd⟩→lof bs H i≤p→p≤hiOf bs i H→
 ∃b,gdT gd g=some b∧(b=false→DV g o.dst und)∧(b=true→ ∃v,f g s=some v∧DV g o.dst v)
end
variable {nt:Nat} {all:Array Oper} {X:Nat→List Nat} {bs H:List Nat} {hb:Nat} {ι:Inj} {s:S} {g:T Value} {tmps:Array Value} {E dn:Nat→Bool} {p:Nat} {a:Nat→Option Nat} {w:World}
theorem dnf_soft {p j i:Nat} (h:dnf P nt all bs H p j i=true):soft P nt all i=true:=by
 simp only[dnf,Bool.and_eq_true]at h;exact h.1
theorem soft_some {i:Nat} (h:soft P nt all i=true): ∃o,all[i]? =some o∧isHd (mkCl P nt all o).r=false:=by
 unfold soft at h
 cases ho:all[i]? with
 |none=>simp[ho]at h
 |some o=>simp[ho]at h;exact⟨o,rfl,h⟩
theorem lof_le (hp:PF P nt all X bs H) {i j:Nat} (h:Bf bs i j=true):lof bs H j≤lof bs H i:=by
 rcases Nat.lt_or_ge (lof bs H i) (lof bs H j)with x|x
 ·exfalso
  have hlt:lof bs H i<H.length:=Nat.lt_of_lt_of_le x (PF.loOf_le _ _)
  have e:H[lof bs H i]? =some H[lof bs H i]:=List.getElem?_eq_getElem hlt
  have h1:=(hp.loOf_spec (i:=j) e).1 x
  have h2:=(hp.loOf_spec (i:=i) e).2 (hp.tr h h1)
  exact absurd h2 (Nat.lt_irrefl _)
 ·exact x
theorem ev_putD_ne {g:T Value} {dst:Option Tmp} {v:Value} {t:Tmp} (h:dst≠some t):ev (putD g dst v) (.tmp t)=ev g (.tmp t):=by
 cases dst with
 |none=>rfl
 |some d=>simp only[putD];rw[ev_set,if_neg (fun e=>h (by rw[e]))]
theorem ev_putD_eq {g:T Value} {dst:Option Tmp} {v:Value} :DV (putD g dst v) dst v:=by
 intro d hd;subst hd
 simp only[putD];rw[ev_set,if_pos rfl]
theorem reads_opd {o:Oper} {t:Tmp} (h:Operand.tmp t∈o.op.operands.toList):t∈reads o all:=by
 unfold reads
 refine List.mem_append.2 (.inl ?_)
 rw[List.mem_filterMap]
 exact⟨_,h,rfl⟩
theorem reads_gd {o:Oper} {d:Tmp} {b:Bool} (h:mkGd all o.guard=some (.on d b)):d∈reads o all:=by
 unfold reads
 refine List.mem_append.2 (.inr ?_)
 unfold mkGd at h
 cases hg:o.guard with
 |none=>simp[hg]at h
 |some jw=>
  obtain⟨j,w⟩:=jw
  simp only[hg]at h⊢
  cases hj:all[j]? with
  |none=>simp[hj]at h
  |some oj=>
   simp only[hj]at h⊢
   cases hd:oj.dst with
   |none=>simp[hd]at h
   |some d'=>simp[hd]at h;simp[h.1]
theorem Dr.exec (hp:PF P nt all X bs H) {j:Nat} (h:Dr P nt all bs H hb ι s g tmps E (dnf P nt all bs H p j) p a) {o:Oper} (ho:all[j]? =some o) (hs:soft P nt all j=true) (hlo:lof bs H j=p)
 {v:Value} {s':S} {a':Nat→Option Nat} (hnx:s.nx≤s'.nx) (hget: ∀id,id<s.nx→s'.h.get id=s.h.get id)
 (ha: ∀i,i≠j→a' i=a i) (haj:a' j=a j∨(a' j=some s.nx∧s.nx<s'.nx))
 (hpd:(∀t∈reads o all,OpF all bs ι (putD g o.dst v) tmps E (dnf P nt all bs H p (j+1)) j g t)→Pend P nt all bs hb ι s' (putD g o.dst v) tmps E (dnf P nt all bs H p (j+1)) a' j o):
 Dr P nt all bs H hb ι s' (putD g o.dst v) tmps E (dnf P nt all bs H p (j+1)) p a':=by
 have hEj:E j=false:=by
  cases hE:E j with
  |false=>rfl
  |true=>have:=h.edn j hs hE;simp[dnf,hs,hlo]at this
 have hjn:dnf P nt all bs H p (j+1) j=true:=by simp[dnf,hs,hlo]
 have hmono: ∀i,dnf P nt all bs H p j i=true→dnf P nt all bs H p (j+1) i=true:=by
  intro i hi
  simp only[dnf,Bool.and_eq_true,Bool.or_eq_true,decide_eq_true_eq]at hi⊢
  exact⟨hi.1,hi.2.imp id fun x=>⟨x.1,by omega⟩⟩
 have hback: ∀i,i≠j→dnf P nt all bs H p (j+1) i=true→dnf P nt all bs H p j i=true:=by
  intro i hne hi
  simp only[dnf,Bool.and_eq_true,Bool.or_eq_true,decide_eq_true_eq]at hi⊢
  exact⟨hi.1,hi.2.imp id fun x=>⟨x.1,by omega⟩⟩
 have hdn_ne: ∀i,dnf P nt all bs H p j i=true→i≠j:=by
  intro i hi e;subst e
  simp[dnf,hlo]at hi
 have hopf: ∀i gi t,i≠j→OpF all bs ι g tmps E (dnf P nt all bs H p j) i gi t→OpF all bs ι (putD g o.dst v) tmps E (dnf P nt all bs H p (j+1)) i gi t:=by
  intro i gi t _ hf
  rcases hf with⟨w,ow,x1,x2,x3,x4,x5,x6⟩|x
  ·refine .inl ⟨w,ow,x1,x2,x3,x4,hmono w x5,?_⟩
   rw[x6,ev_putD_ne]
   intro e
   exact hdn_ne w x5 (hp.dist w j ow o t x1 ho x2 e)
  ·exact .inr x
 have hreads: ∀t∈reads o all,OpF all bs ι (putD g o.dst v) tmps E (dnf P nt all bs H p (j+1)) j g t:=by
  intro t ht
  by_cases hw: ∃(w:Nat) (ow:Oper),all[w]? =some ow∧ow.dst=some t
  ·obtain⟨w,ow,hw1,hw2⟩:=hw
   have huni: ∀w' o',all[w']? =some o'→o'.dst=some t→w'=w:=fun w' o' x y=>hp.dist w' w o' ow t x hw1 y hw2
   rcases hp.rds j o t ho ht w ow hw1 hw2 with hb1|⟨_,hb1⟩
   ·
    have hne:w≠j:=fun e=>by have:=hp.irr j;rw[e]at hb1;rw[this]at hb1;cases hb1
    cases hEw:E w with
    |true=>
     refine .inr ⟨h.tmp t ?_,fun w' o' x y=> .inl (by rw[huni w' o' x y];exact hEw)⟩
     intro i o' x y _
     rw[huni i o' x y];exact hEw
    |false=>
     have hsw:soft P nt all w=true:=by
      cases hh:isHd (mkCl P nt all ow).r with
      |false=>simp[soft,hw1,hh]
      |true=>
       exfalso
       have hm:=hp.hard w ow hw1 hh
       obtain⟨k,hk,hk2⟩:=List.getElem_of_mem hm
       have e:H[k]? =some w:=by rw[List.getElem?_eq_getElem hk,hk2]
       have h1:=(hp.loOf_spec (i:=j) e).2 hb1
       have h2:=(h.hrd k w e).2 (by have:loOf (bs.getD j 0) H=p:=hlo;omega)
       rw[hEw]at h2;cases h2
     have hlw:=lof_le hp hb1
     have hlt:=hp.lt ho (.inl hs) hb1
     refine .inl ⟨w,ow,hw1,hw2,hb1,hEw,?_,?_⟩
     ·simp only[dnf,hsw,Bool.true_and,Bool.or_eq_true,Bool.and_eq_true,decide_eq_true_eq]
      omega
     ·rw[ev_putD_ne]
      intro e
      exact hne (hp.dist w j ow o t hw1 ho hw2 e)
   ·
    have hlt:=hp.lt hw1 (.inr (by rw[hw2];simp)) hb1
    have hlw:=lof_le hp hb1
    refine .inr ⟨h.tmp t ?_,fun w' o' x y=> .inr (by rw[huni w' o' x y];exact hb1)⟩
    intro i o' x y hdn
    rw[huni i o' x y]at hdn
    simp only[dnf,Bool.and_eq_true,Bool.or_eq_true,decide_eq_true_eq]at hdn
    omega
  ·refine .inr ⟨h.tmp t ?_,fun w' o' x y=>absurd ⟨w',o',x,y⟩ hw⟩
   intro i o' x y _
   exact absurd ⟨i,o',x,y⟩ hw
 refine⟨h.ple,h.size,h.clo,h.hrd,fun i x y=>hmono i (h.edn i x y),h.ein,?_,?_,?_,?_⟩
 ·intro t ht
  have hne:o.dst≠some t:=fun e=>by
   have:=ht j o ho e hjn
   rw[hEj]at this;cases this
  rw[ev_putD_ne hne]
  exact h.tmp t fun i o' x y z=>ht i o' x y (hmono i z)
 ·intro i o' hi hdn hE
  by_cases e:i=j
  ·subst e;rw[ho]at hi;cases hi
   exact hpd hreads
  ·have hdn':=hback i e hdn
   obtain⟨gd,q1,q2,q3,q4,q5⟩:=h.pend i o' hi hdn' hE
   have hdd: ∀x,DV g o'.dst x→DV (putD g o.dst v) o'.dst x:=by
    intro x hx d hd
    rw[ev_putD_ne (fun e'=>e (hp.dist i j o' o d hi ho hd e')),hx d hd]
   refine⟨gd,q1,q2,q3,q4,?_⟩
   cases hcr:cr P o'.op with
   |hd f=>rw[hcr]at q5;exact q5
   |rd f=>trivial
   |pu f=>
    rw[hcr]at q5
    obtain⟨gi,b,r1,r2,r3,r4⟩:=q5
    exact⟨gi,b,r1,fun x=>hdd _ (r2 x),fun x=>let ⟨u,y,z⟩:=r3 x;⟨u,y,hdd _ z⟩,fun t ht=>hopf i gi t e (r4 t ht)⟩
   |al f=>
    rw[hcr]at q5
    obtain⟨gi,b,r1,r2,r3,r4⟩:=q5
    refine⟨gi,b,r1,fun x=>hdd _ (r2 x),fun x=>?_,fun t ht=>hopf i gi t e (r4 t ht)⟩
    obtain⟨ob,mk,id,y1,y2,y3,y4,y5,y6⟩:=r3 x
    exact⟨ob,mk,id,y1,hdd _ y2,by rw[ha i e];exact y3,y4,y5,by rw[hget id (h.alt i id y3)];exact y6⟩
 ·intro i id hi
  by_cases e:i=j
  ·subst e
   rcases haj with x|⟨x,y⟩
   ·rw[x]at hi;have:=h.alt i id hi;omega
   ·rw[x]at hi;cases hi;exact y
  ·rw[ha i e]at hi;have:=h.alt i id hi;omega
 ·intro i k id hi hk
  by_cases e1:i=j
  ·by_cases e2:k=j
   ·rw[e1,e2]
   ·subst e1
    rw[ha k e2]at hk
    rcases haj with x|⟨x,y⟩
    ·rw[x]at hi;exact h.inj i k id hi hk
    ·rw[x]at hi;cases hi;have:=h.alt k _ hk;omega
  ·rw[ha i e1]at hi
   by_cases e2:k=j
   ·subst e2
    rcases haj with x|⟨x,y⟩
    ·rw[x]at hk;exact h.inj i k id hi hk
    ·rw[x]at hk;cases hk;have:=h.alt i _ hi;omega
   ·rw[ha k e2]at hk;exact h.inj i k id hi hk
theorem ph1_ok (hp:PF P nt all X bs H): ∀(n j:Nat),j+n=all.size→ ∀(g:T Value) (s:S) (a:Nat→Option Nat),Dr P nt all bs H hb ι s g tmps E (dnf P nt all bs H p j) p a→SRel P ι s w→hb≤s.nx→s.lo≤s.nx→
 ∀g' s',ph1 p (dopsFrom P nt all bs H j) g s=some (g',s')→
  ∃a',Dr P nt all bs H hb ι s' g' tmps E (dnf P nt all bs H p all.size) p a'∧SRel P ι s' w∧ ∀hb',hb'≤s.nx→Fm hb' ι s w ι s' w
 |0,j,hj,g,s,a,h,hS,_,_,g',s',hph=>by
  rw[dopsFrom_nil (by omega)]at hph
  simp only[ph1,Option.some.injEq,Prod.mk.injEq]at hph
  obtain⟨rfl,rfl⟩:=hph
  have:j=all.size:=by omega
  subst this
  exact⟨a,h,hS,fun hb' _=>Fm.refl _ _ _ _⟩
 |n+1,j,hj,g,s,a,h,hS,hhb,hlo,g',s',hph=>by
  have ho:all[j]? =some (all[j]'(by omega)):=Array.getElem?_eq_getElem (by omega)
  generalize all[j]'(by omega)=o at ho
  rw[dopsFrom_cons ho]at hph
  have hsk: ∀ {x:Bool},(!isHd (mkCl P nt all o).r&&Nat.beq (loOf (bs.getD j 0) H) p)=x→x=false→dnf P nt all bs H p j=dnf P nt all bs H p (j+1):=by
   rintro x hx rfl
   funext i
   have:soft P nt all j=!isHd (mkCl P nt all o).r:=by simp[soft,ho]
   simp only[dnf]
   by_cases e:i=j
   ·subst e
    rw[this]
    cases hh:isHd (mkCl P nt all o).r with
    |true=>simp
    |false=>
     rw[hh]at hx
     simp only[Bool.not_false,Bool.true_and]at hx
     have:lof bs H i≠p:=fun e=>by
      have h2:loOf (bs.getD i 0) H=p:=e
      rw[h2,Nat.beq_refl]at hx;cases hx
     simp[this]
   ·have:decide (i<j)=decide (i<j+1):=by
     have:i<j↔i<j+1:=by omega
     simp[this]
    rw[this]
  rcases mkCl_cases (P:=P) nt all o with hc|⟨gd,hc,hm,hd,hgk⟩
  ·cases hcond:(!isHd (mkCl P nt all o).r&&Nat.beq (loOf (bs.getD j 0) H) p)with
   |false=>
    have hph':ph1 p (dopsFrom P nt all bs H (j+1)) g s=some (g',s'):=by
     rw[hc]at hph hcond
     simp only[ph1]at hph
     rw[hcond]at hph;exact hph
    have:=hsk hcond rfl
    rw[this]at h
    exact ph1_ok hp n (j+1) (by omega) g s a h hS hhb hlo g' s' hph'
   |true=>
    rw[hc]at hph hcond
    simp only[ph1]at hph
    rw[hcond]at hph
    simp[gdT,rdNo]at hph
  ·cases hcond:(!isHd (mkCl P nt all o).r&&Nat.beq (loOf (bs.getD j 0) H) p)with
   |false=>
    have hph':ph1 p (dopsFrom P nt all bs H (j+1)) g s=some (g',s'):=by
     rw[hc]at hph hcond
     simp only[ph1]at hph
     rw[hcond]at hph;exact hph
    have:=hsk hcond rfl
    rw[this]at h
    exact ph1_ok hp n (j+1) (by omega) g s a h hS hhb hlo g' s' hph'
   |true=>
    have hsj:soft P nt all j=true:=by
     simp only[Bool.and_eq_true]at hcond
     simp only[soft,ho];exact hcond.1
    have hlj:lof bs H j=p:=by
     simp only[Bool.and_eq_true,Nat.beq_eq]at hcond
     exact hcond.2
    rw[hc]at hph hcond
    simp only[ph1]at hph
    rw[hcond]at hph
    simp only[cond_true]at hph
    have hfr:ι s.nx=none:=hS.fresh _ (Nat.le_refl _)
    cases hgt:gdT gd g with
    |none=>simp[hgt]at hph
    |some b=>
     cases b with
     |false=>
      simp only[hgt]at hph
      refine ph1_ok hp n (j+1) (by omega) _ s a ?_ hS hhb hlo g' s' hph
      refine h.exec hp ho hsj hlj (Nat.le_refl _) (fun _ _=>rfl) (fun _ _=>rfl) (.inl rfl) fun hr=>⟨gd,hc,hm,hd,hgk,?_⟩
      cases hcr:cr P o.op with
      |hd f=>rw[hcr]at hcond;simp[isHd]at hcond
      |rd f=>trivial
      |pu f=>exact⟨g,false,hgt,fun _=>ev_putD_eq,nofun,hr⟩
      |al f=>exact⟨g,false,hgt,fun _=>ev_putD_eq,nofun,hr⟩
     |true=>
      simp only[hgt]at hph
      cases hcr:cr P o.op with
      |hd f=>rw[hcr]at hcond;simp[isHd]at hcond
      |rd f=>
       simp only[hcr]at hph
       cases hf:f g s with
       |none=>simp[hf]at hph
       |some v=>
        simp only[hf]at hph
        refine ph1_ok hp n (j+1) (by omega) _ s a ?_ hS hhb hlo g' s' hph
        exact h.exec hp ho hsj hlj (Nat.le_refl _) (fun _ _=>rfl) (fun _ _=>rfl) (.inl rfl) fun hr=>⟨gd,hc,hm,hd,hgk,by rw[hcr];trivial⟩
      |pu f=>
       simp only[hcr]at hph
       cases hf:f g with
       |none=>simp[hf]at hph
       |some v=>
        simp only[hf]at hph
        refine ph1_ok hp n (j+1) (by omega) _ s a ?_ hS hhb hlo g' s' hph
        exact h.exec hp ho hsj hlj (Nat.le_refl _) (fun _ _=>rfl) (fun _ _=>rfl) (.inl rfl) fun hr=>⟨gd,hc,hm,hd,hgk,by
         rw[hcr];exact⟨g,true,hgt,nofun,fun _=>⟨v,hf,ev_putD_eq⟩,hr⟩⟩
      |al f=>
       simp only[hcr]at hph
       cases hf:f g with
       |none=>simp[hf]at hph
       |some om=>
        obtain⟨ob,mk⟩:=om
        simp only[hf]at hph
        have hD:Dr P nt all bs H hb ι (s.push ob) (putD g o.dst (mk s.nx)) tmps E (dnf P nt all bs H p (j+1)) p (fun i=>if i=j then some s.nx else a i):=by
         refine h.exec hp ho hsj hlj (by rw[S.push_nx];omega) (fun id hid=>by rw[S.push_get,if_neg (by omega)]) (fun i hi=>by simp[hi]) (.inr ⟨by simp,by rw[S.push_nx];omega⟩) fun hr=>⟨gd,hc,hm,hd,hgk,?_⟩
         rw[hcr]
         exact⟨g,true,hgt,nofun,fun _=>⟨ob,mk,s.nx,hf,ev_putD_eq,by simp,hhb,hfr,by rw[S.push_get,if_pos rfl]⟩,hr⟩
        obtain⟨a',r1,r2,r3⟩:=ph1_ok hp n (j+1) (by omega) _ _ _ hD (hS.prepush ob) (by rw[S.push_nx];omega) (by rw[S.push_nx,S.push_lo];omega) g' s' hph
        exact⟨a',r1,r2,fun hb' hle=>(Fm.prepush hS hle hlo ob).trans (r3 hb' (by rw[S.push_nx];omega))⟩
theorem ph2_ok {g:T Value} {s:S} : ∀(n j:Nat),j+n=all.size→ph2 p (dopsFrom P nt all bs H j) g s=true→
 ∀i o f gd,j≤i→all[i]? =some o→mkCl P nt all o=⟨.rd f,o.dst,gd⟩→lof bs H i≤p→p≤hiOf bs i H→
  ∃b,gdT gd g=some b∧(b=false→DV g o.dst und)∧(b=true→ ∃v,f g s=some v∧DV g o.dst v)
 |0,j,hj,_,i,o,f,gd,hji,ho,_,_,_=>by rw[Array.getElem?_eq_none (by omega)]at ho;cases ho
 |n+1,j,hj,hph,i,o,f,gd,hji,ho,hcl,hl,hh=>by
  have ho':all[j]? =some (all[j]'(by omega)):=Array.getElem?_eq_getElem (by omega)
  generalize all[j]'(by omega)=o1 at ho'
  rw[dopsFrom_cons ho']at hph
  by_cases e:i=j
  ·subst e
   rw[ho]at ho';cases ho'
   rw[hcl]at hph
   simp only[ph2,Bool.and_eq_true]at hph
   obtain⟨hph,_⟩:=hph
   have h1:(Nat.ble (loOf (bs.getD i 0) H) p&&Nat.ble p (hiOf bs i H))=true:=by
    simp only[Bool.and_eq_true,Nat.ble_eq];exact⟨hl,hh⟩
   rw[h1]at hph
   simp only[cond_true]at hph
   cases hgt:gdT gd g with
   |none=>simp[hgt]at hph
   |some b=>
    cases b with
    |false=>simp only[hgt]at hph;exact⟨false,rfl,fun _=>sameD_eq hph,nofun⟩
    |true=>
     simp only[hgt]at hph
     cases hf:f g s with
     |none=>simp[hf]at hph
     |some v=>simp only[hf]at hph;exact⟨true,rfl,nofun,fun _=>⟨v,rfl,sameD_eq hph⟩⟩
  ·refine ph2_ok n (j+1) (by omega) ?_ i o f gd (by omega) ho hcl hl hh
   generalize mkCl P nt all o1=c1 at hph
   obtain⟨r,d,gg⟩:=c1
   simp only[ph2,Bool.and_eq_true]at hph
   exact hph.2
end
end Go.AM
namespace Go.AM
noncomputable section
variable {P:Program} {nt:Nat} {all:Array Oper} {X:Nat→List Nat} {bs H:List Nat} {hb:Nat} {ι:Inj} {s:S} {g:T Value} {tmps:Array Value} {E dn:Nat→Bool} {p:Nat} {a:Nat→Option Nat} {w:World}
def up1 (E:Nat→Bool) (i:Nat):Nat→Bool:=fun j=>decide (j=i)||E j
theorem up1_self (E:Nat→Bool) (i:Nat):up1 E i i=true:=by simp[up1]
theorem up1_ne {E:Nat→Bool} {i j:Nat} (h:j≠i):up1 E i j=E j:=by simp[up1,h]
theorem up1_of {E:Nat→Bool} {i j:Nat} (h:E j=true):up1 E i j=true:=by simp[up1,h]
theorem up1_false {E:Nat→Bool} {i j:Nat} (h:up1 E i j=false):j≠i∧E j=false:=by
 simp[up1]at h;exact h
theorem pt_get {tmps:Array Value} {dst:Option Tmp} {v:Value} {t:Tmp} (h:dst≠some t):(pt tmps dst v).getD t undef=tmps.getD t undef:=by
 cases dst with
 |none=>rfl
 |some d=>
  have hne:t≠d:=fun e=>h (by rw[e])
  by_cases ht:t<tmps.size
  ·simp[pt,Array.getD,ht,Array.getElem_setIfInBounds,Ne.symm hne]
  ·simp[pt,Array.getD,ht]
theorem pt_self {tmps:Array Value} {d:Tmp} {v:Value} (h:d<tmps.size):(pt tmps (some d) v).getD d undef=v:=by
 simp[pt,Array.getD,h]
theorem Dr.conc (hp:PF P nt all X bs H) (h:Dr P nt all bs H hb ι s g tmps E dn p a) {i:Nat} {o:Oper} (ho:all[i]? =some o) (hd:dstOk nt o.dst=true) (hE:E i=false) (hrdy: ∀j,Bf bs i j=true→E j=true)
 {ι':Inj} {s':S} {g':T Value} {v':Value} {p':Nat} (hx:Ext ι ι') (hg: ∀t,o.dst≠some t→ev g' (.tmp t)=ev g (.tmp t)) (hgs:dn i=true→ ∀t,ev g' (.tmp t)=ev g (.tmp t))
 (hv: ∀d,o.dst=some d→VRel ι' (ev g' (.tmp d)) v') (hpl:p'≤H.length) (hhrd: ∀k j,H[k]? =some j→(up1 E i j=true↔k<p')) (hdn:soft P nt all i=true→dn i=true)
 (hal: ∀j id,j≠i→E j=false→a j=some id→ι id=none→ι' id=none∧s'.h.get id=s.h.get id) (hnx:s.nx≤s'.nx):
 Dr P nt all bs H hb ι' s' g' (pt tmps o.dst v') (up1 E i) dn p' a:=by
 have hlt: ∀d,o.dst=some d→d<tmps.size:=fun d e=>by
  rw[e]at hd;rw[h.size];simpa[dstOk]using hd
 refine⟨hpl,by rw[pt_size];exact h.size,?_,hhrd,?_,?_,?_,?_,fun i id x=>Nat.lt_of_lt_of_le (h.alt i id x) hnx,h.inj⟩
 ·intro x y hx hy
  by_cases e:x=i
  ·subst e;exact up1_of (hrdy y hy)
  ·rw[up1_ne e]at hx;exact up1_of (h.clo x y hx hy)
 ·intro x hs hx
  by_cases e:x=i
  ·subst e;exact hdn hs
  ·rw[up1_ne e]at hx;exact h.edn x hs hx
 ·intro x hx
  by_cases e:x=i
  ·subst e
   rcases Nat.lt_or_ge x all.size with y|y
   ·exact y
   ·rw[Array.getElem?_eq_none y]at ho;cases ho
  ·rw[up1_ne e]at hx;exact h.ein x hx
 ·intro t ht
  by_cases e:o.dst=some t
  ·rw[e,pt_self (hlt t e)];exact hv t e
  ·rw[pt_get e,hg t e]
   refine(h.tmp t fun x ox q1 q2 q3=>?_).mono hx
   have:=ht x ox q1 q2 q3
   by_cases e2:x=i
   ·subst e2;rw[ho]at q1;cases q1;exact absurd q2 e
   ·rwa [up1_ne e2]at this
 ·intro j oj hj hdj hEj
  obtain⟨hji,hEj'⟩:=up1_false hEj
  obtain⟨gd,q1,q2,q3,q4,q5⟩:=h.pend j oj hj hdj hEj'
  have hdd: ∀x,DV g oj.dst x→DV g' oj.dst x:=by
   intro x hxv d hdx
   rw[hg d (fun e=>hji (hp.dist j i oj o d hj ho hdx e)),hxv d hdx]
  have hopf: ∀gi t,OpF all bs ι g tmps E dn j gi t→OpF all bs ι' g' (pt tmps o.dst v') (up1 E i) dn j gi t:=by
   rintro gi t (⟨x,ox,x1,x2,x3,x4,x5,x6⟩|⟨x1,x2⟩)
   ·by_cases e:x=i
    ·subst e
     rw[ho]at x1;cases x1
     refine .inr ⟨?_,fun y oy y1 y2=> .inl ?_⟩
     ·rw[x2,pt_self (hlt t x2),x6,←hgs x5 t];exact hv t x2
     ·rw[hp.dist y x oy o t y1 ho y2 x2];exact up1_self _ _
    ·refine .inl ⟨x,ox,x1,x2,x3,by rw[up1_ne e];exact x4,x5,?_⟩
     rw[x6,hg t (fun e'=>e (hp.dist x i ox o t x1 ho x2 e'))]
   ·have hne:o.dst≠some t:=fun e=>by
     rcases x2 i o ho e with y|y
     ·rw[hE]at y;cases y
     ·have:=hrdy j y;rw[hEj']at this;cases this
    refine .inr ⟨by rw[pt_get hne];exact x1.mono hx,fun y oy y1 y2=>(x2 y oy y1 y2).imp up1_of id⟩
  refine⟨gd,q1,q2,q3,q4,?_⟩
  cases hcr:cr P oj.op with
  |hd f=>rw[hcr]at q5;exact q5
  |rd f=>trivial
  |pu f=>
   rw[hcr]at q5
   obtain⟨gi,b,r1,r2,r3,r4⟩:=q5
   exact⟨gi,b,r1,fun x=>hdd _ (r2 x),fun x=>let ⟨u,y,z⟩:=r3 x;⟨u,y,hdd _ z⟩,fun t ht=>hopf gi t (r4 t ht)⟩
  |al f=>
   rw[hcr]at q5
   obtain⟨gi,b,r1,r2,r3,r4⟩:=q5
   refine⟨gi,b,r1,fun x=>hdd _ (r2 x),fun x=>?_,fun t ht=>hopf gi t (r4 t ht)⟩
   obtain⟨ob,mk,id,y1,y2,y3,y4,y5,y6⟩:=r3 x
   obtain⟨z1,z2⟩:=hal j id hji hEj' y3 y5
   exact⟨ob,mk,id,y1,hdd _ y2,y3,y4,z1,by rw[z2];exact y6⟩
theorem ORho.of {ι:Inj} {gi:T Value} {o:Oper} {tmps:Array Value} (h: ∀t∈reads o all,VRel ι (ev gi (.tmp t)) (tmps.getD t undef)):ORho ι gi (rho tmps) o.op.operands.toList:=by
 intro x hx hok
 cases x with
 |tmp t=>exact h t (reads_opd hx)
 |const v=>exact .plainV hok
 |func f=>exact .func .nil .nil
 |global _=>cases hok
theorem Dr.reads (hp:PF P nt all X bs H) (h:Dr P nt all bs H hb ι s g tmps E dn p a) {i:Nat} {o:Oper} (ho:all[i]? =some o) (hmv:isMv o.op=false) (hrdy: ∀j,Bf bs i j=true→E j=true):
 ∀t∈reads o all,VRel ι (ev g (.tmp t)) (tmps.getD t undef):=by
 intro t ht
 refine h.tmp t fun w ow q1 q2 _=>?_
 rcases hp.rds i o t ho ht w ow q1 q2 with x|x
 ·exact hrdy w x
 ·rw[hmv]at x;cases x.1
theorem mv_of_rd {o:Op} {f:T Value→S→Option Value} (h:cr P o= .rd f):isMv o=false:=by
 cases o with
 |move x=>
  simp only[cr]at h
  cases hx:opdOk x<;>rw[hx]at h<;>simp[rdNo]at h
 |_=>rfl
theorem mv_of_hd {o:Op} {f:T Value→S→OR} (h:cr P o= .hd f):isMv o=false:=by
 cases o with
 |move x=>
  simp only[cr]at h
  cases hx:opdOk x<;>rw[hx]at h<;>simp[rdNo]at h
 |_=>rfl
section
variable {fn:FuncId} {kind:KR} {ds:List Deferred} {k:List Item} {cs:List Frame} {L:List Nat}
theorem pend_step (hp:PF P nt all X bs H) (h:Dr P nt all bs H hb ι s g tmps E (dnf P nt all bs H p all.size) p a) (hR:RdF P nt all bs H g s p) (hS:SRel P ι s w) {i:Nat} {o:Oper} (ho:all[i]? =some o)
 (hE:E i=false) (hrdy: ∀j,Bf bs i j=true→E j=true) (hdn:dnf P nt all bs H p all.size i=true):
 ∃ι' w' v',Go.step P (lone (mkF fn kind tmps ds (.inRegion all (i::L)::k)) cs w)= .next (lone (mkF fn kind (pt tmps o.dst v') ds (.inRegion all L::k)) cs w')∧
  Dr P nt all bs H hb ι' s g (pt tmps o.dst v') (up1 E i) (dnf P nt all bs H p all.size) p a∧SRel P ι' s w'∧Fm hb ι s w ι' s w':=by
 obtain⟨gd,q1,q2,q3,q4,q5⟩:=h.pend i o ho hdn hE
 have hsf:=dnf_soft hdn
 have hhrd: ∀k j,H[k]? =some j→(up1 E i j=true↔k<p):=by
  intro k j hk
  rw[←h.hrd k j hk]
  have hne:j≠i:=by
   intro e;subst e
   obtain⟨o',ho',hh⟩:=hp.hard' j (List.mem_of_getElem? hk)
   rw[ho]at ho';cases ho'
   simp[soft,ho,hh]at hsf
  rw[up1_ne hne]
 have hconc: ∀ {ι':Inj} {v':Value},Ext ι ι'→(∀d,o.dst=some d→VRel ι' (ev g (.tmp d)) v')→(∀j id,j≠i→E j=false→a j=some id→ι id=none→ι' id=none)→
  Dr P nt all bs H hb ι' s g (pt tmps o.dst v') (up1 E i) (dnf P nt all bs H p all.size) p a:=fun hx hv hal=>
  h.conc hp ho q3 hE hrdy hx (fun _ _=>rfl) (fun _ _=>rfl) hv h.ple hhrd (fun _=>hdn) (fun j id x y z u=>⟨hal j id x y z u,rfl⟩) (Nat.le_refl _)
 have hskip: ∀gi,gdT gd gi=some false→DV g o.dst und→(∀t∈reads o all,VRel ι (ev gi (.tmp t)) (tmps.getD t undef))→
  ∃ι' w' v',Go.step P (lone (mkF fn kind tmps ds (.inRegion all (i::L)::k)) cs w)= .next (lone (mkF fn kind (pt tmps o.dst v') ds (.inRegion all L::k)) cs w')∧
   Dr P nt all bs H hb ι' s g (pt tmps o.dst v') (up1 E i) (dnf P nt all bs H p all.size) p a∧SRel P ι' s w'∧Fm hb ι s w ι' s w':=by
  intro gi hg hD hr
  have hw:=gd_rel' q2 q4 h.size (fun d b e=>hr d (reads_gd (by rw[q2,e]))) hg
  refine⟨ι,w,undef,st_skip ho hw,hconc (Ext.refl _) (fun d hd=>by rw[hD d hd];exact .tuple .nil) (fun _ _ _ _ _ x=>x),hS,Fm.refl _ _ _ _⟩
 have hwant: ∀gi,gdT gd gi=some true→(∀t∈reads o all,VRel ι (ev gi (.tmp t)) (tmps.getD t undef))→Region.wanted o (yielded all tmps)=true:=by
  intro gi hg hr
  exact gd_rel' q2 q4 h.size (fun d b e=>hr d (reads_gd (by rw[q2,e]))) hg
 have hopf: ∀gi,(∀t∈reads o all,OpF all bs ι g tmps E (dnf P nt all bs H p all.size) i gi t)→ ∀t∈reads o all,VRel ι (ev gi (.tmp t)) (tmps.getD t undef):=by
  intro gi hf t ht
  rcases hf t ht with⟨x,ox,_,_,x3,x4,_⟩|⟨x,_⟩
  ·have:=hrdy x x3;rw[x4]at this;cases this
  ·exact x
 have hok:=cr_ok (P:=P) o
 cases hcr:cr P o.op with
 |hd f=>rw[hcr]at q5;exact q5.elim
 |rd f=>
  rw[hcr]at hok
  have hr:=h.reads hp ho (mv_of_rd hcr) hrdy
  have hlo:lof bs H i≤p:=by
   simp only[dnf,Bool.and_eq_true,Bool.or_eq_true,decide_eq_true_eq]at hdn;omega
  have hhi:p≤hiOf bs i H:=by
   rcases Nat.lt_or_ge (hiOf bs i H) p with x|x
   ·exfalso
    have hl:hiOf bs i H<H.length:=Nat.lt_of_lt_of_le x h.ple
    have e:H[hiOf bs i H]? =some H[hiOf bs i H]:=List.getElem?_eq_getElem hl
    have h1:=PF.hiOf_spec (bs:=bs) (i:=i) _ e
    have h2:=(h.hrd _ _ e).2 x
    have h3:=h.clo _ _ h2 h1
    rw[hE]at h3;cases h3
   ·exact x
  obtain⟨b,r1,r2,r3⟩:=hR i o f gd ho (by rw[q1,hcr]) hlo hhi
  cases b with
  |false=>exact hskip g r1 (r2 rfl) hr
  |true=>
   obtain⟨v,r4,r5⟩:=r3 rfl
   obtain⟨v',hv,hrun⟩:=hok ι s w g (rho tmps) v r4 hS (ORho.of hr)
   exact⟨ι,w,v',st_value ho (hwant g r1 hr) (.inl hrun),hconc (Ext.refl _) (fun d hd=>by rw[r5 d hd];exact hv) (fun _ _ _ _ _ x=>x),hS,Fm.refl _ _ _ _⟩
 |pu f=>
  rw[hcr]at hok q5
  obtain⟨gi,b,r1,r2,r3,r4⟩:=q5
  have hr:=hopf gi r4
  cases b with
  |false=>exact hskip gi r1 (r2 rfl) hr
  |true=>
   obtain⟨v,r5,r6⟩:=r3 rfl
   obtain⟨v',hv,hrun⟩:=hok ι gi (rho tmps) v r5 (ORho.of hr)
   exact⟨ι,w,v',st_value ho (hwant gi r1 hr) (.inl (hrun w)),hconc (Ext.refl _) (fun d hd=>by rw[r6 d hd];exact hv) (fun _ _ _ _ _ x=>x),hS,Fm.refl _ _ _ _⟩
 |al f=>
  rw[hcr]at hok q5
  obtain⟨gi,b,r1,r2,r3,r4⟩:=q5
  have hr:=hopf gi r4
  cases b with
  |false=>exact hskip gi r1 (r2 rfl) hr
  |true=>
   obtain⟨ob,mk,id,y1,y2,y3,y4,y5,y6⟩:=r3 rfl
   obtain⟨hpar,hall⟩:=hok ι gi (rho tmps) ob mk y1 (ORho.of hr)
   obtain⟨top,o',w',v',hpush,hrun,hrel⟩:=hall w
   have hx:=Ext.up ⟨w.heap.size,0,top⟩ y5
   obtain⟨z1,z2⟩:=hrel _ id hx (Inj.up_self _ _ _)
   refine⟨_,w',v',st_value ho (hwant gi r1 hr) (.inl hrun),hconc hx (fun d hd=>by rw[y2 d hd];exact z2) ?_,hS.adopt y5 y6 (h.alt i id y3) hpar hpush z1,Fm.adopt hS y5 y4 hpush⟩
   intro j id' hj _ haj hn
   rw[Inj.up_ne _ _ (fun e=>hj (h.inj j i id (by rw[←e];exact haj) y3))];exact hn
theorem Lin.ready (hp:PF P nt all X bs H) (h:Dr P nt all bs H hb ι s g tmps E dn p a) {i:Nat} {o:Oper} (ho:all[i]? =some o) (hl: ∀e∈o.after.toList,Region.binds .any e=true→E e.on=true) (hx: ∀m∈X i,E m=true):
 ∀j,Bf bs i j=true→E j=true:=by
 intro j hj
 rcases hp.bef i o j ho hj with⟨e,x1,x2,x3⟩|⟨m,x1,x3⟩
 ·have:=hl e x1 x2
  rcases x3 with rfl|x3
  ·exact this
  ·exact h.clo _ _ this x3
 ·have:=hx m x1
  rcases x3 with rfl|x3
  ·exact this
  ·exact h.clo _ _ this x3
theorem run_soft (hp:PF P nt all X bs H) (hR:RdF P nt all bs H g s p): ∀(L:List Nat) (E:Nat→Bool) (ι:Inj) (w:World) (tmps:Array Value),Lin all X L E→
 Dr P nt all bs H hb ι s g tmps E (dnf P nt all bs H p all.size) p a→SRel P ι s w→
 (∃ι' w' tmps',H[p]? =none∧Steps P (lone (mkF fn kind tmps ds (.inRegion all L::k)) cs w) (lone (mkF fn kind tmps' ds k) cs w')∧TmpRel ι' g tmps'∧tmps'.size=nt∧SRel P ι' s w'∧Fm hb ι s w ι' s w')∨
 (∃ι' w' tmps' E' i L' o,H[p]? =some i∧all[i]? =some o∧Lin all X (i::L') E'∧(∀j,Bf bs i j=true→E' j=true)∧E' i=false∧Lin all X L' (up1 E' i)∧
  Steps P (lone (mkF fn kind tmps ds (.inRegion all L::k)) cs w) (lone (mkF fn kind tmps' ds (.inRegion all (i::L')::k)) cs w')∧
  Dr P nt all bs H hb ι' s g tmps' E' (dnf P nt all bs H p all.size) p a∧SRel P ι' s w'∧Fm hb ι s w ι' s w'):=by
 intro L
 induction L with
 |nil=>
  intro E ι w tmps hl h hS
  cases hl with
  |nil hall=>
   have hnone:H[p]? =none:=by
    cases hp2:H[p]? with
    |none=>rfl
    |some i=>
     exfalso
     obtain⟨o,ho,_⟩:=hp.hard' i (List.mem_of_getElem? hp2)
     have hil:i<all.size:=by
      rcases Nat.lt_or_ge i all.size with x|x
      ·exact x
      ·rw[Array.getElem?_eq_none x]at ho;cases ho
     have:=(h.hrd p i hp2).1 (hall i hil)
     omega
   refine .inl ⟨ι,w,tmps,hnone,.one (stepR_region_end (b:=Go.AM.bs fn kind) (a:=⟨tmps,ds⟩)),?_,h.size,hS,Fm.refl _ _ _ _⟩
   intro t
   refine h.tmp t fun i o ho _ _=>hall i ?_
   rcases Nat.lt_or_ge i all.size with x|x
   ·exact x
   ·rw[Array.getElem?_eq_none x]at ho;cases ho
 |cons i L ih=>
  intro E ι w tmps hl h hS
  have hl0:=hl
  cases hl with
  |cons ho hE hedge hX hrest=>
   rename_i o
   have hrdy:=Lin.ready hp h ho hedge hX
   cases hs:soft P nt all i with
   |true=>
    have hle:lof bs H i≤p:=by
     rcases Nat.lt_or_ge p (lof bs H i)with x|x
     ·exfalso
      have hlt:p<H.length:=Nat.lt_of_lt_of_le x (PF.loOf_le _ _)
      have e:H[p]? =some H[p]:=List.getElem?_eq_getElem hlt
      have h1:=(hp.loOf_spec (i:=i) e).1 x
      have h2:=(h.hrd _ _ e).1 (hrdy _ h1)
      omega
     ·exact x
    have hil:i<all.size:=by
     rcases Nat.lt_or_ge i all.size with x|x
     ·exact x
     ·rw[Array.getElem?_eq_none x]at ho;cases ho
    have hdn:dnf P nt all bs H p all.size i=true:=by
     simp only[dnf,hs,Bool.true_and,Bool.or_eq_true,Bool.and_eq_true,decide_eq_true_eq];omega
    obtain⟨ι',w',v',h1,h2,h3,h4⟩:=pend_step (fn:=fn) (kind:=kind) (ds:=ds) (k:=k) (cs:=cs) (L:=L) hp h hR hS ho hE hrdy hdn
    rcases ih _ ι' w' _ hrest h2 h3 with⟨ι2,w2,t2,a0,a1,a2,a3,a4,a5⟩|⟨ι2,w2,t2,E2,i2,L2,o2,a1,a2,a3,a4,a5,a6,a7,a8,a9,a10⟩
    ·exact .inl ⟨ι2,w2,t2,a0,.head h1 a1,a2,a3,a4,h4.trans a5⟩
    ·exact .inr ⟨ι2,w2,t2,E2,i2,L2,o2,a1,a2,a3,a4,a5,a6,.head h1 a7,a8,a9,h4.trans a10⟩
   |false=>
    have hh:isHd (mkCl P nt all o).r=true:=by
     simp only[soft,ho]at hs
     simpa using hs
    have hm:=hp.hard i o ho hh
    obtain⟨kk,hk,hk2⟩:=List.getElem_of_mem hm
    have e:H[kk]? =some i:=by rw[List.getElem?_eq_getElem hk,hk2]
    have hnk: ¬kk<p:=fun x=>by rw[(h.hrd kk i e).2 x]at hE;cases hE
    have hkp:kk=p:=by
     rcases Nat.lt_or_ge p kk with x|x
     ·exfalso
      have e2:H[p]? =some (H[p]'(by omega)):=List.getElem?_eq_getElem (by omega)
      have h1:=hp.chain_lt x e2 e
      have h2:=(h.hrd _ _ e2).1 (hrdy _ h1)
      omega
     ·omega
    subst hkp
    exact .inr ⟨ι,w,tmps,E,i,L,o,e,ho,hl0,hrdy,hE,hrest,.refl _ _,h,hS,Fm.refl _ _ _ _⟩
end
end
end Go.AM
namespace Go.AM
noncomputable section
variable {P:Program}
def hsFrom (P:Program) (nt:Nat) (all:Array Oper) (H:List Nat) (p:Nat):List Cl:=pick (mkCls P nt all all.toList) (H.drop p)
variable {nt:Nat} {all:Array Oper} {X:Nat→List Nat} {bs H:List Nat} {hb:Nat} {ι:Inj} {s:S} {g:T Value} {tmps:Array Value} {E:Nat→Bool} {p:Nat} {a:Nat→Option Nat} {w:World}
theorem hsFrom_cons {i:Nat} {o:Oper} (h:H[p]? =some i) (ho:all[i]? =some o):hsFrom P nt all H p=mkCl P nt all o::hsFrom P nt all H (p+1):=by
 have hlt:p<H.length:=by
  rcases Nat.lt_or_ge p H.length with x|x
  ·exact x
  ·rw[List.getElem?_eq_none x]at h;cases h
 unfold hsFrom
 rw[List.drop_eq_getElem_cons hlt]
 rw[List.getElem?_eq_getElem hlt]at h
 simp only[Option.some.injEq]at h
 rw[h]
 have:(mkCls P nt all all.toList)[i]? =some (mkCl P nt all o):=by
  rw[mkCls_drop,List.getElem?_map,Array.getElem?_toList,ho];rfl
 simp only[pick,this]
theorem hsFrom_nil (h:H.length≤p):hsFrom P nt all H p=[]:=by
 unfold hsFrom;rw[List.drop_eq_nil_of_le h];rfl
theorem dnf_next:dnf P nt all bs H p all.size=dnf P nt all bs H (p+1) 0:=by
 funext i
 simp only[dnf]
 cases hs:soft P nt all i with
 |false=>rfl
 |true=>
  obtain⟨o,ho,_⟩:=soft_some hs
  have hil:i<all.size:=by
   rcases Nat.lt_or_ge i all.size with x|x
   ·exact x
   ·rw[Array.getElem?_eq_none x]at ho;cases ho
  have:(decide (lof bs H i<p)||(decide (lof bs H i=p)&&decide (i<all.size)))=(decide (lof bs H i<p+1)||(decide (lof bs H i=p+1)&&decide (i<0))):=by
   rw[Bool.eq_iff_iff]
   simp only[Bool.or_eq_true,Bool.and_eq_true,decide_eq_true_eq]
   omega
  rw[this]
def Before (P:Program) (nt:Nat) (all:Array Oper) (hb:Nat) (ι:Inj) (s:S) (g:T Value) (tmps:Array Value) (ops:List Dop) (p:Nat) (hs:List Cl) (L:List Nat):Prop:=
 ∃X bs H E a,PF P nt all X bs H∧ops=dopsFrom P nt all bs H 0∧hs=hsFrom P nt all H p∧Lin all X L E∧Dr P nt all bs H hb ι s g tmps E (dnf P nt all bs H p 0) p a
def Within (P:Program) (nt:Nat) (all:Array Oper) (hb:Nat) (ι:Inj) (s:S) (g:T Value) (tmps:Array Value) (ops:List Dop) (p:Nat) (hs:List Cl) (i:Nat) (L:List Nat) (o:Oper):Prop:=
 ∃X bs H E a gd,PF P nt all X bs H∧ops=dopsFrom P nt all bs H 0∧hs=⟨cr P o.op,o.dst,gd⟩::hsFrom P nt all H (p+1)∧H[p]? =some i∧all[i]? =some o∧dstOk nt o.dst=true∧
  isHd (cr P o.op)=true∧(∀j,Bf bs i j=true→E j=true)∧E i=false∧Lin all X L (up1 E i)∧Dr P nt all bs H hb ι s g tmps E (dnf P nt all bs H p all.size) p a
structure Fut (hb:Nat) (ι:Inj) (s:S) (ι':Inj) (s':S):Prop where
 ext:Ext ι ι'
 keep: ∀id,id<hb→ι id=none→ι' id=none∧s'.h.get id=s.h.get id
 nx:s.nx≤s'.nx
theorem Fut.refl (hb:Nat) (ι:Inj) (s:S):Fut hb ι s ι s:=⟨Ext.refl _,fun _ _ h=>⟨h,rfl⟩,Nat.le_refl _⟩
theorem Fm.fut {hb:Nat} {ι ι':Inj} {s s':S} {w w':World} (h:Fm hb ι s w ι' s' w'):Fut hb ι s ι' s':=⟨h.ext,h.keep,h.nx⟩
theorem Fut.trans {hb:Nat} {ι ι' ι'':Inj} {s s' s'':S} (h:Fut hb ι s ι' s') (k:Fut hb ι' s' ι'' s''):Fut hb ι s ι'' s'':=
 ⟨h.ext.trans k.ext,fun id hi hn=>let x:=h.keep id hi hn;let y:=k.keep id hi x.1;⟨y.1,y.2.trans x.2⟩,Nat.le_trans h.nx k.nx⟩
theorem Fut.weaken {hb hb':Nat} {ι ι':Inj} {s s':S} (h:Fut hb ι s ι' s') (hle:hb'≤hb):Fut hb' ι s ι' s':=⟨h.ext,fun id hi hn=>h.keep id (Nat.lt_of_lt_of_le hi hle) hn,h.nx⟩
theorem hdNotSoft {nt:Nat} {all:Array Oper} {i:Nat} {o:Oper} {gd:Gd} (ho:all[i]? =some o) (hc:mkCl P nt all o=⟨cr P o.op,o.dst,gd⟩) (hh:isHd (cr P o.op)=true):soft P nt all i=false:=by
 simp[soft,ho,hc,hh]
theorem mkCl_hd {nt:Nat} {all:Array Oper} {o:Oper} (hh:isHd (mkCl P nt all o).r=true):
 ∃gd,mkCl P nt all o=⟨cr P o.op,o.dst,gd⟩∧mkGd all o.guard=some gd∧dstOk nt o.dst=true∧gdOk nt gd=true∧isHd (cr P o.op)=true:=by
 rcases mkCl_cases (P:=P) nt all o with hc|⟨gd,hc,hm,hd,hg⟩
 ·rw[hc]at hh;simp[isHd,rdNo]at hh
 ·exact⟨gd,hc,hm,hd,hg,by rw[hc]at hh;exact hh⟩
theorem Dr.hard (hp:PF P nt all X bs H) (h:Dr P nt all bs H hb ι s g tmps E (dnf P nt all bs H p all.size) p a) {i:Nat} {o:Oper} (hi:H[p]? =some i) (ho:all[i]? =some o) (hd:dstOk nt o.dst=true)
 (hns:soft P nt all i=false) (hrdy: ∀j,Bf bs i j=true→E j=true) (hE:E i=false) {ι':Inj} {s':S} (hF:Fut s.nx ι s ι' s') {v v':Value} (hv:VRel ι' v v'):
 Dr P nt all bs H hb ι' s' (putD g o.dst v) (pt tmps o.dst v') (up1 E i) (dnf P nt all bs H (p+1) 0) (p+1) a:=by
 rw[←dnf_next]
 have hpl:p<H.length:=by
  rcases Nat.lt_or_ge p H.length with x|x
  ·exact x
  ·rw[List.getElem?_eq_none x]at hi;cases hi
 have hndn:dnf P nt all bs H p all.size i≠true:=fun x=>by rw[dnf_soft x]at hns;cases hns
 refine h.conc hp ho hd hE hrdy hF.ext (fun t ht=>ev_putD_ne ht) (fun x=>absurd x hndn) (fun d hdd=>by rw[ev_putD_eq d hdd];exact hv) (by omega) ?_ (fun x=>by rw[hns]at x;cases x) ?_ hF.nx
 ·intro kk j hk
  by_cases e:j=i
  ·subst e
   rw[up1_self]
   have:kk=p:=by
    rcases Nat.lt_trichotomy kk p with x|x|x
    ·have:=hp.chain_lt x hk hi;rw[hp.irr]at this;cases this
    ·exact x
    ·have:=hp.chain_lt x hi hk;rw[hp.irr]at this;cases this
   simp[this]
  ·rw[up1_ne e,h.hrd kk j hk]
   have:kk≠p:=fun x=>by subst x;rw[hi]at hk;cases hk;exact e rfl
   omega
 ·intro j id _ _ haj hn
  exact hF.keep id (h.alt j id haj) hn
theorem Within.finish {ops:List Dop} {hs:List Cl} {i:Nat} {L:List Nat} {o:Oper} (h:Within P nt all hb ι s g tmps ops p hs i L o) {ι':Inj} {s':S} (hF:Fut s.nx ι s ι' s') {v v':Value} (hv:VRel ι' v v'):
 ∃c hs',hs=c::hs'∧c.dst=o.dst∧Before P nt all hb ι' s' (putD g o.dst v) (pt tmps o.dst v') ops (p+1) hs' L:=by
 obtain⟨X,bs,H,E,a,gd,hp,h1,h2,h3,h4,h5,h6,h7,h8,h9,h10⟩:=h
 refine⟨_,_,h2,rfl,X,bs,H,up1 E i,a,hp,h1,rfl,h9,?_⟩
 refine h10.hard hp h3 h4 h5 ?_ h7 h8 hF hv
 obtain⟨o',ho',hh⟩:=hp.hard' i (List.mem_of_getElem? h3)
 rw[h4]at ho';cases ho'
 simp[soft,h4,hh]
theorem clearD_get {nt:Nat} {all:Array Oper} {bs H:List Nat} : ∀(n j:Nat),j+n=all.size→ ∀(g:T Value) (t:Tmp),
 ev (clearD (dopsFrom P nt all bs H j) g) (.tmp t)=ev g (.tmp t)∨ev (clearD (dopsFrom P nt all bs H j) g) (.tmp t)=poi
 |0,j,hj,g,t=>by rw[dopsFrom_nil (by omega)];exact .inl rfl
 |n+1,j,hj,g,t=>by
  have ho':all[j]? =some (all[j]'(by omega)):=Array.getElem?_eq_getElem (by omega)
  generalize all[j]'(by omega)=o1 at ho'
  rw[dopsFrom_cons ho']
  simp only[clearD]
  rcases clearD_get n (j+1) (by omega:j+1+n=all.size) (putD g (mkCl P nt all o1).dst poi) t with x|x
  ·rw[x]
   by_cases e:(mkCl P nt all o1).dst=some t
   ·exact .inr (ev_putD_eq t e)
   ·exact .inl (ev_putD_ne e)
  ·exact .inr x
theorem clearD_poi {nt:Nat} {all:Array Oper} {bs H:List Nat} : ∀(n j:Nat),j+n=all.size→ ∀(g:T Value) (t:Tmp),(∃i o,j≤i∧all[i]? =some o∧(mkCl P nt all o).dst=some t)→
 ev (clearD (dopsFrom P nt all bs H j) g) (.tmp t)=poi
 |0,j,hj,g,t,⟨i,o,h1,h2,_⟩=>by rw[Array.getElem?_eq_none (by omega)]at h2;cases h2
 |n+1,j,hj,g,t,⟨i,o,h1,h2,h3⟩=>by
  have ho':all[j]? =some (all[j]'(by omega)):=Array.getElem?_eq_getElem (by omega)
  generalize all[j]'(by omega)=o1 at ho'
  rw[dopsFrom_cons ho']
  simp only[clearD]
  by_cases e:i=j
  ·subst e
   rw[ho']at h2;cases h2
   rcases clearD_get (P:=P) (nt:=nt) (all:=all) (bs:=bs) (H:=H) n (i+1) (by omega) (putD g (mkCl P nt all o).dst poi) t with x|x
   ·rw[x];exact ev_putD_eq t h3
   ·exact x
  ·exact clearD_poi n (j+1) (by omega) _ t ⟨i,o,by omega,h2,h3⟩
theorem Within.clear {ops:List Dop} {hs:List Cl} {i:Nat} {L:List Nat} {o:Oper} (h:Within P nt all hb ι s g tmps ops p hs i L o):TmpRel ι (clearD ops g) tmps:=by
 obtain⟨X,bs,H,E,a,gd,hp,h1,h2,h3,h4,h5,h6,h7,h8,h9,h10⟩:=h
 subst h1
 intro t
 rcases clearD_get (P:=P) (nt:=nt) (all:=all) (bs:=bs) (H:=H) all.size 0 (by omega) g t with x|x
 ·by_cases e: ∃(j:Nat) (oj:Oper),all[j]? =some oj∧oj.dst=some t∧dnf P nt all bs H p all.size j=true∧E j=false
  ·obtain⟨j,oj,q1,q2,q3,q4⟩:=e
   obtain⟨gd',r1,_⟩:=h10.pend j oj q1 q3 q4
   rw[clearD_poi all.size 0 (by omega) g t ⟨j,oj,Nat.zero_le _,q1,by rw[r1];exact q2⟩]
   exact .poi _
  ·rw[x]
   refine h10.tmp t fun j oj q1 q2 q3=>?_
   cases hE:E j with
   |true=>rfl
   |false=>exact absurd ⟨j,oj,q1,q2,q3,hE⟩ e
 ·rw[x];exact .poi _
def DrawPost (P:Program) (hb:Nat) (fn:FuncId) (kind:KR) (ds:List Deferred) (all:Array Oper) (nt:Nat) (ops:List Dop) (k:List Item) (cs:List Frame) (ι:Inj) (s:S) (w:World) (m:Machine):DR→Prop
 | .fin g' s'=> ∃ι' w' tmps',OpsRun P hb fn kind ds all nt k cs ι s w m g' s' ι' w' tmps' k
 | .at_ p' hs' g' s' r=> ∃ι' w' tmps' i L o,Steps P m (lone (mkF fn kind tmps' ds (.inRegion all (i::L)::k)) cs w')∧SRel P ι' s' w'∧Fm hb ι s w ι' s' w'∧tmps'.size=nt∧
  Within P nt all hb ι' s' g' tmps' ops p' hs' i L o∧AtOp P ι' s' w' all tmps' i o r
 | .bad _=>True
theorem DrawPost.of_steps {fn:FuncId} {kind:KR} {ds:List Deferred} {ops:List Dop} {k:List Item} {cs:List Frame} {ι1:Inj} {s1:S} {w1:World} {m m1:Machine} {r:DR}
 (h:Steps P m m1) (f:Fm hb ι s w ι1 s1 w1) (k':DrawPost P hb fn kind ds all nt ops k cs ι1 s1 w1 m1 r):DrawPost P hb fn kind ds all nt ops k cs ι s w m r:=by
 cases r with
 |fin g s=>obtain⟨a,b,c,d⟩:=k';exact⟨a,b,c,h.trans d.steps,d.tmps,d.size,d.srel,f.trans d.fm⟩
 |at_ p l g s r=>obtain⟨a,b,c,i,L,o,d1,d2,d3,d4,d5,d6⟩:=k';exact⟨a,b,c,i,L,o,h.trans d1,d2,f.trans d3,d4,d5,d6⟩
 |bad=>trivial
theorem sim_draw {fn:FuncId} {kind:KR} {ds:List Deferred} {k:List Item} {cs:List Frame} {ops:List Dop} :
 ∀(hs:List Cl) (p:Nat) (g:T Value) (s:S) (ι:Inj) (w:World) (tmps:Array Value) (L:List Nat),Before P nt all hb ι s g tmps ops p hs L→SRel P ι s w→hb≤s.nx→s.lo≤s.nx→
  DrawPost P hb fn kind ds all nt ops k cs ι s w (lone (mkF fn kind tmps ds (.inRegion all L::k)) cs w) (runDraw ops p hs g s):=by
 intro hs
 induction hs with
 |nil=>
  intro p g s ι w tmps L hB hS hhb hlo
  obtain⟨X,bs,H,E,a,hp,h1,h2,h3,h4⟩:=hB
  simp only[runDraw]
  unfold phase
  cases hph:ph1 p ops g s with
  |none=>trivial
  |some gs=>
   obtain⟨g',s'⟩:=gs
   simp only[]
   cases hph2:ph2 p ops g' s' with
   |false=>trivial
   |true=>
    simp only[cond_true]
    rw[h1]at hph hph2
    obtain⟨a',r1,r2,r3⟩:=ph1_ok (p:=p) hp all.size 0 (by omega) g s a h4 hS hhb hlo g' s' hph
    have hR:RdF P nt all bs H g' s' p:=fun i o f gd x y z u=>ph2_ok all.size 0 (by omega) hph2 i o f gd (Nat.zero_le _) x y z u
    have hlen:H.length≤p:=by
     rcases Nat.lt_or_ge p H.length with x|x
     ·exfalso
      have e:H[p]? =some H[p]:=List.getElem?_eq_getElem x
      obtain⟨o,ho,_⟩:=hp.hard' _ (List.mem_of_getElem? e)
      rw[hsFrom_cons e ho]at h2;cases h2
     ·exact x
    rcases run_soft (fn:=fn) (kind:=kind) (ds:=ds) (k:=k) (cs:=cs) hp hR L E ι w tmps h3 r1 r2 with⟨ι2,w2,t2,a0,a1,a2,a3,a4,a5⟩|⟨ι2,w2,t2,E2,i2,L2,o2,a1,_⟩
    ·exact⟨ι2,w2,t2,a1,a2,a3,a4,(r3 hb hhb).trans a5⟩
    ·rw[List.getElem?_eq_none hlen]at a1;cases a1
 |cons c hs ih=>
  intro p g s ι w tmps L hB hS hhb hlo
  obtain⟨X,bs,H,E,a,hp,h1,h2,h3,h4⟩:=hB
  obtain⟨r,dst,gd⟩:=c
  simp only[runDraw]
  unfold phase
  cases hph:ph1 p ops g s with
  |none=>trivial
  |some gs=>
   obtain⟨g',s'⟩:=gs
   simp only[]
   cases hph2:ph2 p ops g' s' with
   |false=>trivial
   |true=>
    simp only[cond_true]
    rw[h1]at hph hph2
    obtain⟨a',r1,r2,r3⟩:=ph1_ok (p:=p) hp all.size 0 (by omega) g s a h4 hS hhb hlo g' s' hph
    have hR:RdF P nt all bs H g' s' p:=fun i o f gd x y z u=>ph2_ok all.size 0 (by omega) hph2 i o f gd (Nat.zero_le _) x y z u
    have hlt:p<H.length:=by
     rcases Nat.lt_or_ge p H.length with x|x
     ·exact x
     ·rw[hsFrom_nil x]at h2;cases h2
    have hF0:=r3 hb hhb
    have hnx':=hF0.nx
    have hlo':=hF0.lo
    rcases run_soft (fn:=fn) (kind:=kind) (ds:=ds) (k:=k) (cs:=cs) hp hR L E ι w tmps h3 r1 r2 with⟨ι2,w2,t2,a0,a1,a2,a3,a4,a5⟩|⟨ι2,w2,t2,E2,i,L2,o,a1,a2,a3,a4,a5,a6,a7,a8,a9,a10⟩
    ·
     rw[List.getElem?_eq_getElem hlt]at a0;cases a0
    ·obtain⟨o',ho',hh⟩:=hp.hard' i (List.mem_of_getElem? a1)
     rw[a2]at ho';cases ho'
     obtain⟨gd',q1,q2,q3,q4,q5⟩:=mkCl_hd hh
     rw[hsFrom_cons a1 a2,q1]at h2
     simp only[List.cons.injEq,Cl.mk.injEq]at h2
     obtain⟨⟨rfl,rfl,rfl⟩,h2⟩:=h2
     have hns:=hdNotSoft a2 q1 q5
     obtain⟨f,hf⟩: ∃f,cr P o.op= .hd f:=by
      cases hc:cr P o.op with
      |hd f=>exact⟨f,rfl⟩
      |_=>rw[hc]at q5;simp[isHd]at q5
     have hrd:=a8.reads hp a2 (mv_of_hd hf) a4
     cases hgt:gdT gd g' with
     |none=>trivial
     |some b=>
      have hw:=gd_rel' q2 q4 a8.size (fun d b e=>hrd d (reads_gd (by rw[q2,e]))) hgt
      cases b with
      |false=>
       simp only[]
       refine .of_steps (a7.trans (.one (st_skip a2 hw))) (hF0.trans a10) ?_
       have hx:=a10.nx
       have hy:=a10.lo
       refine ih (p+1) _ _ _ _ _ L2 ⟨X,bs,H,up1 E2 i,a',hp,h1,h2,a6,?_⟩ a9 (by omega) (by omega)
       exact a8.hard hp a1 a2 q3 hns a4 a5 (Fut.refl _ _ _) (.tuple .nil)
      |true=>
       rw[hf]
       simp only[]
       have hok:=cr_ok (P:=P) o
       rw[hf]at hok
       have hx:=a10.nx
       have hy:=a10.lo
       by_cases hval: ∃v s1,f g' s'= .val v s1
       ·obtain⟨v,s1,hfv⟩:=hval
        rw[hfv]
        simp only[]
        have hpost:=hok s'.nx ι2 s' w2 g' (rho t2) a9 (Nat.le_refl _) (by omega) (ORho.of hrd)
        rw[hfv]at hpost
        obtain⟨ι3,w3,v',hrun,hv,hS3,hF3⟩:=hpost
        refine .of_steps (a7.trans (.one (st_value a2 hw hrun))) ((hF0.trans a10).trans (hF3.weaken (by omega))) ?_
        have:=hF3.nx
        have:=hF3.lo
        refine ih (p+1) _ _ _ _ _ L2 ⟨X,bs,H,up1 E2 i,a',hp,h1,h2,a6,?_⟩ hS3 (by omega) (by omega)
        exact a8.hard hp a1 a2 q3 hns a4 a5 hF3.fut hv
       ·have hnv: ∀v s1,f g' s'≠ .val v s1:=fun v s1 h=>hval ⟨v,s1,h⟩
        have fin:DrawPost P hb fn kind ds all nt ops k cs ι s w (lone (mkF fn kind tmps ds (.inRegion all L::k)) cs w) (.at_ p (⟨.hd f,o.dst,gd⟩::hs) g' s' (f g' s')):=by
         refine⟨ι2,w2,t2,i,L2,o,a7,a9,hF0.trans a10,a8.size,⟨X,bs,H,E2,a',gd,hp,h1,by rw[hf,←h2],a1,a2,q3,q5,a4,a5,a6,a8⟩,a2,hw,?_,hnv⟩
         intro hb' hle
         exact hok hb' ι2 s' w2 g' (rho t2) a9 hle (by omega) (ORho.of hrd)
        cases hr:f g' s' with
        |val v s1=>exact absurd hr (hnv _ _)
        |_=>rw[hr]at fin;exact fin
end
end Go.AM
namespace Go.AM
noncomputable section
variable {P:Program}
inductive ItRel (P:Program) (nt:Nat) (ι:Inj):AItem→Item→Prop
 |code (c:Code):ItRel P nt ι (.code c) (.code c)
 |inBlock (id:Nat):ItRel P nt ι (.inBlock id) (.inBlock id)
 |inLoop (c:Code):ItRel P nt ι (.inLoop c) (.inLoop c)
 |inScope (c:Code):ItRel P nt ι (.inScope c) (.inScope c)
 |ops (all:Array Oper) (j:Nat):j≤all.size→ItRel P nt ι (.ops all (mkCls P nt all (all.toList.drop j))) (.inRegion all (List.range' j (all.size - j)))
 |inRF {l:Nat} {b:Loc} :ι l=some b→ItRel P nt ι (.inRF l) (.inRangeFunc b.blk)
 |endRF {l:Nat} {b:Loc} :ι l=some b→ItRel P nt ι (.endRF l) (.endRangeFunc b.blk)
 |beginRound:ItRel P nt ι .beginRound .beginRound
theorem ItRel.mono {nt:Nat} {ι ι':Inj} (h:Ext ι ι') {a:AItem} {b:Item} (r:ItRel P nt ι a b):ItRel P nt ι' a b:=by
 cases r with
 |code c=>exact .code c
 |inBlock c=>exact .inBlock c
 |inLoop c=>exact .inLoop c
 |inScope c=>exact .inScope c
 |ops a j h=>exact .ops a j h
 |inRF x=>exact .inRF (h _ _ x)
 |endRF x=>exact .endRF (h _ _ x)
 |beginRound=>exact .beginRound
inductive ItsRel (P:Program) (nt:Nat) (ι:Inj) (K:List Item):List AItem→List Item→Prop
 |nil:ItsRel P nt ι K [] K
 |cons {a:AItem} {b:Item} {l:List AItem} {l':List Item} :ItRel P nt ι a b→ItsRel P nt ι K l l'→ItsRel P nt ι K (a::l) (b::l')
theorem ItsRel.mono {nt:Nat} {ι ι':Inj} {K:List Item} (h:Ext ι ι'): ∀ {a:List AItem} {b:List Item},ItsRel P nt ι K a b→ItsRel P nt ι' K a b
 |_,_,.nil=> .nil
 |_,_,.cons x y=> .cons (x.mono h) (y.mono h)
theorem exit_rel {nt:Nat} {ι:Inj} {K:List Item} {id:Nat} : ∀ {a:List AItem} {b:List Item},ItsRel P nt ι K a b→ ∀a',exitA id a=some a'→ ∃b',exitTo id b=some b'∧ItsRel P nt ι K a' b'
 |_,_,.nil,a',h=>by simp[exitA]at h
 |_,_,.cons x y,a',h=>by
  cases x with
  |inBlock i=>
   simp only[exitA]at h
   cases hb:Nat.beq i id with
   |true=>
    rw[hb]at h;simp only[cond_true,Option.some.injEq]at h;subst h
    have:=Nat.eq_of_beq_eq_true hb
    exact⟨_,by simp[exitTo,this],y⟩
   |false=>
    rw[hb]at h;simp only[cond_false]at h
    obtain⟨b',h1,h2⟩:=exit_rel y a' h
    have hne:(i==id)=false:=by
     cases hh:(i==id)with
     |false=>rfl
     |true=>rw[beq_iff_eq.1 hh,Nat.beq_refl]at hb;cases hb
    exact⟨b',by simp[exitTo,hne,h1],h2⟩
  |code c=>obtain⟨b',h1,h2⟩:=exit_rel y a' (by simpa[exitA]using h);exact⟨b',by simp[exitTo,h1],h2⟩
  |inLoop c=>obtain⟨b',h1,h2⟩:=exit_rel y a' (by simpa[exitA]using h);exact⟨b',by simp[exitTo,h1],h2⟩
  |inScope c=>obtain⟨b',h1,h2⟩:=exit_rel y a' (by simpa[exitA]using h);exact⟨b',by simp[exitTo,h1],h2⟩
  |ops a j hj=>obtain⟨b',h1,h2⟩:=exit_rel y a' (by simpa[exitA]using h);exact⟨b',by simp[exitTo,h1],h2⟩
  |inRF e=>obtain⟨b',h1,h2⟩:=exit_rel y a' (by simpa[exitA]using h);exact⟨b',by simp[exitTo,h1],h2⟩
  |endRF e=>obtain⟨b',h1,h2⟩:=exit_rel y a' (by simpa[exitA]using h);exact⟨b',by simp[exitTo,h1],h2⟩
  |beginRound=>obtain⟨b',h1,h2⟩:=exit_rel y a' (by simpa[exitA]using h);exact⟨b',by simp[exitTo,h1],h2⟩
theorem exit_none {nt:Nat} {ι:Inj} {id:Nat} : ∀ {a:List AItem} {b:List Item},ItsRel P nt ι [] a b→exitA id a=none→exitTo id b=none
 |_,_,.nil,_=>rfl
 |_,_,.cons x y,h=>by
  cases x with
  |inBlock i=>
   simp only[exitA]at h
   cases hb:Nat.beq i id with
   |true=>rw[hb]at h;cases h
   |false=>
    rw[hb]at h;simp only[cond_false]at h
    have hne:(i==id)=false:=by
     cases hh:(i==id)with
     |false=>rfl
     |true=>rw[beq_iff_eq.1 hh,Nat.beq_refl]at hb;cases hb
    simp[exitTo,hne,exit_none y h]
  |code c=>simp[exitTo,exit_none y (by simpa[exitA]using h)]
  |inLoop c=>simp[exitTo,exit_none y (by simpa[exitA]using h)]
  |inScope c=>simp[exitTo,exit_none y (by simpa[exitA]using h)]
  |ops a j hj=>simp[exitTo,exit_none y (by simpa[exitA]using h)]
  |inRF e=>simp[exitTo,exit_none y (by simpa[exitA]using h)]
  |endRF e=>simp[exitTo,exit_none y (by simpa[exitA]using h)]
  |beginRound=>simp[exitTo,exit_none y (by simpa[exitA]using h)]
inductive RndRel (ι:Inj):Option Nat→Option Nat→Prop
 |none:RndRel ι .none .none
 |some {l:Nat} {b:Loc} :ι l= .some b→RndRel ι (.some l) (.some b.blk)
theorem RndRel.mono {ι ι':Inj} (h:Ext ι ι') {a b:Option Nat} (r:RndRel ι a b):RndRel ι' a b:=by
 cases r with
 |none=>exact .none
 |some x=>exact .some (h _ _ x)
theorem RndRel.isNone {ι:Inj} {b:Option Nat} (r:RndRel ι Option.none b):b=Option.none:=by cases r;rfl
inductive Body (P:Program) (ι:Inj) (s:S) (hb nt:Nat) (K:List Item) (g:T Value) (tmps:Array Value):List AItem→List Item→Prop
 |plain {todo:List AItem} {todo':List Item} :TmpRel ι g tmps→ItsRel P nt ι K todo todo'→Body P ι s hb nt K g tmps todo todo'
 |draw {all:Array Oper} {ops:List Dop} {p:Nat} {hs:List Cl} {L:List Nat} {k:List AItem} {k':List Item} :Before P nt all hb ι s g tmps ops p hs L→ItsRel P nt ι K k k'→
  Body P ι s hb nt K g tmps (.draw all ops p hs::k) (.inRegion all L::k')
structure Suf where
 K:List Item
 D:List Deferred
 kd:Option Bool
 me:Option (FuncId×Nat×CallKind)
inductive DefsTo (ι:Inj) (D:List Deferred):List ADef→List Deferred→Prop
 |nil:DefsTo ι D [] D
 |cons {d:ADef} {d':Deferred} {l:List ADef} {l':List Deferred} :DefRel ι d d'→DefsTo ι D l l'→DefsTo ι D (d::l) (d'::l')
theorem DefsTo.mono {ι ι':Inj} {D:List Deferred} (h:Ext ι ι'): ∀ {d:List ADef} {d':List Deferred},DefsTo ι D d d'→DefsTo ι' D d d'
 |_,_,.nil=> .nil
 |_,_,.cons a b=> .cons (a.mono h) (b.mono h)
def kindOf (d:Bool):CallKind:=if d then .deferred else .normal
structure Top (P:Program) (ι:Inj) (s:S) (sf:Suf) (hb:Nat) (fr:Fr) (fr':Frame):Prop where
 fn:fr'.fn=fr.fn
 func: ∃f,P.funcs[fr.fn]? =some f
 rnd:RndRel ι fr.rnd fr'.roundOf
 rk:fr.rnd≠none→fr'.kind= .normal
 kind:(∀d,sf.kd=some d→fr.isDef=d∧fr'.kind=kindOf d)∧ ∀q,sf.me=some q→fr.fn=q.1∧fr.nt=q.2.1∧fr'.kind=q.2.2
 size:fr'.tmps.size=fr.nt
 defers:DefsTo ι sf.D fr.defers fr'.defers
 mode:ModeRel ι fr.mode fr'.mode
 body:fr.mode= .run→Body P ι s hb fr.nt sf.K fr.g fr'.tmps fr.todo fr'.todo
 tmps:fr.mode≠ .run→TmpRel ι fr.g fr'.tmps
theorem Top.monoN {ι ι':Inj} {s s':S} {sf:Suf} {hb:Nat} {fr:Fr} {fr':Frame} (h:Top P ι s sf hb fr fr') (hx:Ext ι ι') (hm:fr.mode≠ .run):Top P ι' s' sf hb fr fr':=
 ⟨h.fn,h.func,h.rnd.mono hx,h.rk,h.kind,h.size,h.defers.mono hx,h.mode.mono hx,fun e=>absurd e hm,fun e=>(h.tmps e).mono hx⟩
def Wait (P:Program) (ι:Inj) (s:S) (sf:Suf) (hb hb':Nat) (c:Fr) (c':Frame):Prop:=
 ∀ι' s',Fut hb' ι s ι' s'→
  (∀v v' c1,VRel ι' v v'→finish c v=some c1→Top P ι' s' sf hb c1 (c'.finish v'))∧
  (∀ch ch',PanRel ι' ch ch'→Top P ι' s' sf hb (raise c ch) (c'.raise ch'))
structure Base where
 sf:Suf
 hb:Nat
 cs:List Frame
inductive Cal (P:Program) (B:Base) (ι:Inj) (s:S):Nat→Suf→List Fr→List Frame→Prop
 |base:Cal P B ι s B.hb B.sf [] B.cs
 |call {hb hb':Nat} {sf:Suf} {c:Fr} {c':Frame} {cs:List Fr} {cs':List Frame} :Cal P B ι s hb sf cs cs'→hb≤hb'→Wait P ι s sf hb hb' c c'→Cal P B ι s hb' ⟨[],[],some false,none⟩ (c::cs) (c'::cs')
 |dfr {hb hb':Nat} {sf:Suf} {c:Fr} {c':Frame} {cs:List Fr} {cs':List Frame} :Cal P B ι s hb sf cs cs'→hb≤hb'→c.mode≠ .run→Top P ι s sf hb c c'→Cal P B ι s hb' ⟨[],[],some true,none⟩ (c::cs) (c'::cs')
theorem Cal.mono {B:Base} {ι ι':Inj} {s s':S} {hb:Nat} {sf:Suf} {cs:List Fr} {cs':List Frame} (h:Cal P B ι s hb sf cs cs'):Fut hb ι s ι' s'→Cal P B ι' s' hb sf cs cs':=by
 induction h with
 |base=>intro _;exact .base
 |call h1 h2 h3 ih=>exact fun f=> .call (ih (f.weaken h2)) h2 (fun ι'' s'' f'=>h3 ι'' s'' (f.trans f'))
 |dfr h1 h2 h3 h4 ih=>exact fun f=> .dfr (ih (f.weaken h2)) h2 h3 (h4.monoN f.ext h3)
theorem Cal.le {B:Base} {ι:Inj} {s:S} {hb:Nat} {sf:Suf} {cs:List Fr} {cs':List Frame} (h:Cal P B ι s hb sf cs cs'):B.hb≤hb:=by
 induction h with
 |base=>exact Nat.le_refl _
 |call _ h2 _ ih=>omega
 |dfr _ h2 _ _ ih=>omega
structure Start extends World where
 pin:Nat→Option Nat
 pinL:Nat→Option Loc
def Start.of (w:World):Start:= { w with pin:=fun _=>none,pinL:=fun _=>none }
def Start.at (w:World) (σ:Nat→Option Loc):Start:= { w with pin:=fun _=>none,pinL:=σ }
structure Ini (w0:Start) (ι:Inj) (s:S) (w:World):Prop where
 size:w0.heap.size≤w.heap.size
 same: ∀b,b<w0.heap.size→w.heap[b]? =w0.heap[b]?
 own: ∀b,b<w0.heap.size→ ¬Owned ι s b
 out:w.output=w0.output
 os:w.os=w0.os
 tape:w.tape=w0.tape
 pin: ∀i v,w0.pin i=some v→ ∃l,ι i=some l∧l.base=v
 pinL: ∀i l,w0.pinL i=some l→ι i=some l
theorem Ini.fm {w0:Start} {ι ι':Inj} {s s':S} {w w':World} {hb:Nat} (h:Ini w0 ι s w) (f:Fm hb ι s w ι' s' w'):Ini w0 ι' s' w':=
 ⟨
  Nat.le_trans h.size f.size,fun b hb=>by rw[f.heap b (Nat.lt_of_lt_of_le hb h.size) (h.own b hb),h.same b hb],
  fun b hb ho=>h.own b hb (f.own b (Nat.lt_of_lt_of_le hb h.size) ho),by rw[f.out,h.out],by rw[f.os,h.os],by rw[f.tape,h.tape],fun i v hp=>let ⟨l,a,b⟩:=h.pin i v hp;⟨l,f.ext _ _ a,b⟩,fun i l hp=>f.ext _ _ (h.pinL i l hp)⟩
structure RSt (P:Program) (B:Base) (w0:Start) (ι:Inj) (hb:Nat) (sf:Suf) (fr:Fr) (rest:List Fr) (s:S) (top:Frame) (cs:List Frame) (w:World):Prop where
 cal:Cal P B ι s hb sf rest cs
 top:Top P ι s sf hb fr top
 srel:SRel P ι s w
 hb:hb≤s.nx
 lo:s.lo≤s.nx
 ini:Ini w0 ι s w
def CallsAt (P:Program) (f:FuncId) (args:Array Value) (w:World) (cs:List Frame) (R:Ending→World→Prop):Prop:=
 ∃e w' fr,R e w'∧Comes P (lone (Frame.enter P f args .normal) cs w) (lone fr cs w') e∧fr.fn=f∧fr.leaving P w' e
def KPost (P:Program) (f:FuncId) (ι:Inj) (s:S) (w:World) (args':Array Value) (cs:List Frame):KRes→Prop
 | .ret v s'=> ∃ι' w' v',VRel ι' v v'∧SRel P ι' s' w'∧Fm s.nx ι s w ι' s' w'∧CallsAt P f args' w cs fun e w''=>e= .returned v'∧w''=w'
 | .pan t v s'=> ∃ι' w' v',VRel ι' v v'∧SRel P ι' s' w'∧Fm s.nx ι s w ι' s' w'∧CallsAt P f args' w cs fun e w''=>e= .panicked [{ v:= .iface t v',recovered:=false,goexit:=false }]∧w''=w'
def KOk (P:Program) (w0:Start) (F:List Value→S→Option KRes) (f:FuncId):Prop:=
 ∀(cs:List Frame) args s r,F args s=some r→ ∀ι w (args':Array Value),Ini w0 ι s w→SRel P ι s w→s.lo≤s.nx→VRelL ι args args'.toList→KPost P f ι s w args' cs r
def KnownOk (P:Program) (K:Known) (w0:Start):Prop:= ∀f F,K f=some F→KOk P w0 F f
def ResPost' (P:Program) (B:Base) (w0:Start) (ι:Inj) (s:S) (w:World) (m:Machine):Res→Prop
 | .next ⟨frs,s'⟩=> ∃ι' hb sf fr rest top cs w',frs=fr::rest∧Steps P m (lone top cs w')∧RSt P B w0 ι' hb sf fr rest s' top cs w'∧Fm B.hb ι s w ι' s' w'
 | .idle fr s'=> ∃ι' top w',fr.todo=[]∧fr.mode= .run∧Steps P m (lone top B.cs w')∧RSt P B w0 ι' B.hb B.sf fr [] s' top B.cs w'∧Fm B.hb ι s w ι' s' w'
 | .stop fr s'=> ∃ι' top w',fr.defers=[]∧fr.mode≠ .run∧Steps P m (lone top B.cs w')∧RSt P B w0 ι' B.hb B.sf fr [] s' top B.cs w'∧Fm B.hb ι s w ι' s' w'
 | .upd fr s' r k x=> ∃ι' w' kind tmps ds todo all i L o,Steps P m (lone (mkF fr.fn kind tmps ds (.inRegion all (i::L)::todo)) B.cs w')∧RndRel ι' fr.rnd kind.r∧SRel P ι' s' w'∧s'.lo≤s'.nx∧B.hb≤s'.nx∧Ini w0 ι' s' w'∧Fm B.hb ι s w ι' s' w'∧
  AtOp P ι' s' w' all tmps i o (.upd r k x)∧Wait P ι' s' B.sf B.hb s'.nx fr (mkF fr.fn kind tmps ds (.inRegion all (i::L)::todo))
 | .bad _=>True
theorem ResPost'.of_steps {B:Base} {w0:Start} {ι ι1:Inj} {s s1:S} {w w1:World} {m m1:Machine} {r:Res} (h:Steps P m m1) (f:Fm B.hb ι s w ι1 s1 w1)
 (k:ResPost' P B w0 ι1 s1 w1 m1 r):ResPost' P B w0 ι s w m r:=by
 cases r with
 |next st=>
  obtain⟨frs,s'⟩:=st
  obtain⟨a1,a2,a3,a4,a5,a6,a7,a8,b1,b2,b3,b4⟩:=k
  exact⟨a1,a2,a3,a4,a5,a6,a7,a8,b1,h.trans b2,b3,f.trans b4⟩
 |idle fr s'=>
  obtain⟨a1,a2,a3,b0,b1,b2,b3,b4⟩:=k
  exact⟨a1,a2,a3,b0,b1,h.trans b2,b3,f.trans b4⟩
 |stop fr s'=>
  obtain⟨a1,a2,a3,b0,b1,b2,b3,b4⟩:=k
  exact⟨a1,a2,a3,b0,b1,h.trans b2,b3,f.trans b4⟩
 |upd fr s' r k x=>
  obtain⟨a1,a2,a3,a4,a5,a6,a7,a8,a9,a10,b1,b0,b2,b3,b4,b5,b6,b7⟩:=k
  exact⟨a1,a2,a3,a4,a5,a6,a7,a8,a9,a10,h.trans b1,b0,b2,b3,b4,b5,f.trans b6,b7⟩
 |bad=>trivial
theorem finfo_eq {f:FuncId} {nt:Nat} {c:Code} {rs:List ResultVar} (h:finfo P f=some ⟨nt,c,rs⟩): ∃fn,P.funcs[f]? =some fn∧fn.body=some c∧fn.ntmps=nt∧fn.results.toList=rs:=by
 unfold finfo at h
 cases hf:P.funcs[f]? with
 |none=>simp[hf]at h
 |some fn=>
  simp only[hf]at h
  cases hb:fn.body with
  |none=>simp[hb]at h
  |some c'=>simp[hb]at h;obtain⟨rfl,rfl,rfl⟩:=h;exact⟨fn,rfl,hb,rfl,rfl⟩
theorem enter_ok {f:FuncId} {args:List Value} {args':Array Value} {isDef:Bool} {n:Fr} (h:enter P f args isDef=some n) {ι:Inj} (hr:VRelL ι args args'.toList) (s:S) (hb:Nat):
 Top P ι s ⟨[],[],some isDef,none⟩ hb n (Frame.enter P f args' (kindOf isDef)):=by
 unfold enter at h
 cases hi:finfo P f with
 |none=>simp[hi]at h
 |some fi=>
  obtain⟨nt,c,rs⟩:=fi
  simp only[hi]at h
  cases hle:Nat.ble args.length nt with
  |false=>rw[hle]at h;cases h
  |true=>
   rw[hle]at h;simp only[cond_true,Option.some.injEq]at h;subst h
   have hle':args.length≤nt:=Nat.le_of_ble_eq_true hle
   obtain⟨fn,h1,h2,h3,_⟩:=finfo_eq hi
   have hlen:args.length=args'.size:=by rw[hr.length];simp
   have hT:TmpRel ι (T.ofList args 0 .leaf) (args'++Array.replicate (nt - args'.size) undef):=by
    intro t
    simp only[ev,T.get_ofList]
    simp only[Nat.zero_le,true_and,Nat.zero_add,Nat.sub_zero]
    by_cases ht:t<args.length
    ·rw[if_pos ht]
     have e:args[t]? =some (args[t]):=List.getElem?_eq_getElem ht
     rw[e]
     obtain⟨v',x1,x2⟩:=hr.get e
     have hlt:t<args'.size:=by rw[←hlen];exact ht
     have:(args'++Array.replicate (nt - args'.size) undef).getD t undef=v':=by
      rw[Array.getElem?_toList,Array.getElem?_eq_getElem hlt]at x1
      simp only[Option.some.injEq]at x1
      have hlt2:t<args'.size+(nt - args'.size):=Nat.lt_of_lt_of_le hlt (Nat.le_add_right _ _)
      simp[Array.getD,Array.getElem_append,hlt,x1,hlt2]
     rw[this];exact x2
    ·rw[if_neg ht]
     have hget:(T.leaf:T Value).get t=none:=rfl
     rw[hget]
     have:(args'++Array.replicate (nt - args'.size) undef).getD t undef=undef:=by
      by_cases h2:t<(args'++Array.replicate (nt - args'.size) undef).size
      ·simp only[Array.getD,h2,dite_true]
       have hge: ¬t<args'.size:=by rw[←hlen];exact ht
       simp[Array.getElem_append,hge]
      ·simp only[Array.getD,h2,dite_false]
     rw[this];exact .tuple .nil
   refine⟨rfl,⟨fn,h1⟩,.none,fun x=>absurd rfl x,⟨fun d hd=>by cases hd;exact⟨rfl,rfl⟩,nofun⟩,?_,.nil,.run,fun _=>?_,fun x=>absurd rfl x⟩
   ·simp only[Frame.enter,h1,h3,Option.map_some,Option.getD_some,Array.size_append,Array.size_replicate];omega
   ·refine .plain ?_ ?_
    ·simpa[Frame.enter,h1,h3]using hT
    ·simp only[Frame.enter,h1,Option.bind_some,h2,Option.getD_some]
     exact .cons (.code c) .nil
end
end Go.AM
namespace Go.AM
noncomputable section
variable {P:Program} {B:Base} {w0:Start} {ι:Inj} {s:S} {w:World} {hb:Nat} {sf:Suf} {K:Known}
theorem loadV_ok (hS:SRel P ι s w) {t:TypeId} {b off:Nat} {l:Loc} {v:Value} (hi:ι b=some l) (h:loadV P s t b off=some v):
 ∃v',VRel ι v v'∧(loadVar t ⟨l.blk,l.base+off,none⟩).run P w= .ok v' w:=by
 unfold loadV at h
 cases hag:aggB P t with
 |true=>
  rw[hag]at h;simp only[cond_true]at h
  obtain⟨d,hu⟩:=aggB_some hag
  cases hs:szOf P t with
  |none=>simp[hs]at h
  |some n=>
   simp only[hs]at h
   cases hl:s.load b off n with
   |none=>simp[hl]at h
   |some vs=>
    simp only[hl,Option.some.injEq]at h;subst h
    obtain⟨vs',h1,h2,h3⟩:=load_rel hS hi hl
    refine⟨.agg vs'.toArray,.agg (by simpa using h1),?_⟩
    have:=run_loadCells_list (P:=P) w ⟨l.blk,l.base+off,none⟩ vs' h3
    rw[h2]at this
    simp[loadVar,run_isAgg' hu,hag,run_sizeOf' hs,this]
 |false=>
  rw[hag]at h;simp only[cond_false]at h
  cases hu:P.underlying t with
  |none=>simp[hu]at h
  |some d=>
   simp only[hu]at h
   obtain⟨v',h1,h2⟩:=cell_rel hS hi h
   exact⟨v',h2,by simp[loadVar,run_isAgg' hu,hag,h1]⟩
def resOne (tmps:Array Value):ResultVar→Sem Value
 | .tmp t=>pure (tmps.getD t undef)
 | .cell a t=>do loadVar t (←asAddr (tmps.getD a undef))
theorem results_eq (f:Func) (tmps:Array Value):results f tmps=(f.results.mapM (resOne tmps)>>=fun vs=>pure (if h:vs.size=1 then vs[0]else .tuple vs)):=rfl
theorem resL_ok (hS:SRel P ι s w) {g:T Value} {tmps:Array Value} (ht:TmpRel ι g tmps): ∀ {rs:List ResultVar} {l:List Value},resL P g s rs=some l→
 ∃l',VRelL ι l l'∧(rs.mapM (resOne tmps)).run P w= .ok l' w
 |[],l,h=>by
  simp only[resL,Option.some.injEq]at h;subst h
  exact⟨[],.nil,by simp⟩
 | .tmp t::rs,l,h=>by
  simp only[resL]at h
  cases hr:resL P g s rs with
  |none=>simp[hr]at h
  |some r=>
   simp only[hr,Option.some.injEq]at h;subst h
   obtain⟨l',h1,h2⟩:=resL_ok hS ht hr
   exact⟨_,.cons (ht t) h1,by simp[List.mapM_cons,resOne,h2]⟩
 | .cell a t::rs,l,h=>by
  simp only[resL]at h
  have hta:=ht a
  cases he:ev g (.tmp a)with
  |pointer p=>
   cases p with
   |none=>simp[he]at h
   |some p=>
    simp only[he]at h
    cases hl:loadV P s t p.block p.off with
    |none=>simp[hl]at h
    |some v=>
     cases hr:resL P g s rs with
     |none=>simp[hl,hr]at h
     |some r=>
      simp only[hl,hr,Option.some.injEq]at h;subst h
      obtain⟨l',h1,h2⟩:=resL_ok hS ht hr
      rw[he]at hta
      obtain⟨lc,hi,e⟩:=hta.ptr_inv
      obtain⟨v',h3,h4⟩:=loadV_ok hS hi hl
      exact⟨_,.cons h3 h1,by simp[List.mapM_cons,resOne,e,asAddr,h2,h4]⟩
  |_=>simp[he]at h
theorem one_ok {ι:Inj} {l l':List Value} (h:VRelL ι l l'):VRel ι (one l) (if h:l'.toArray.size=1 then l'.toArray[0]else .tuple l'.toArray):=by
 cases h with
 |nil=>exact .tuple .nil
 |cons a b=>
  cases b with
  |nil=>simpa[one]using a
  |cons c d=>exact .tuple (.cons a (.cons c d))
theorem resV_ok (hS:SRel P ι s w) {g:T Value} {tmps:Array Value} (ht:TmpRel ι g tmps) {fn:FuncId} {v:Value} (h:resV P fn g s=some v):
 ∃f v',P.funcs[fn]? =some f∧VRel ι v v'∧(results f tmps).run P w= .ok v' w:=by
 unfold resV at h
 cases hi:finfo P fn with
 |none=>simp[hi]at h
 |some fi=>
  obtain⟨nt,c,rs⟩:=fi
  simp only[hi]at h
  obtain⟨f,h1,_,_,h4⟩:=finfo_eq hi
  cases hr:resL P g s rs with
  |none=>simp[hr]at h
  |some l=>
   simp only[hr,Option.some.injEq]at h;subst h
   rw[←h4]at hr
   obtain⟨l',h5,h6⟩:=resL_ok hS ht hr
   refine⟨f,_,h1,one_ok h5,?_⟩
   rw[results_eq]
   have:(f.results.mapM (resOne tmps)).run P w= .ok l'.toArray w:=by
    have e:f.results=f.results.toList.toArray:=by simp
    rw[e,List.mapM_toArray]
    simp only[map_eq_pure_bind,Sem.run_bind,h6,Result.andThen_ok,Sem.run_pure]
   simp only[Sem.run_bind,this,Result.andThen_ok,Sem.run_pure]
theorem Top.put {fr fr1:Fr} {c':Frame} (h:Top P ι s sf hb fr c') (he:fr1=fr):Top P ι s sf hb fr1 c':=he▸h
theorem finish_rnd {fr fr2:Fr} {v:Value} (h:finish fr v=some fr2):fr2.rnd=fr.rnd:=by
 unfold finish at h
 split at h<;>first|(cases h;done)|(simp only[Option.some.injEq]at h;subst h;rfl)
theorem setPs_rel: ∀ {ps:List Tmp} {args args':List Value} {g:T Value} {tmps:Array Value} {nt:Nat},VRelL ι args args'→args.length=ps.length→psOk nt ps=true→tmps.size=nt→TmpRel ι g tmps→
 TmpRel ι (setPs g ps args) ((ps.zip args').foldl (fun tmps (t,a)=>tmps.setIfInBounds t a) tmps)∧((ps.zip args').foldl (fun tmps (t,a)=>tmps.setIfInBounds t a) tmps).size=nt
 |[],_,_,_,_,_,h,_,_,hs,ht=>by cases h<;>exact⟨ht,hs⟩
 |p::ps,_,_,_,_,_,.nil,hl,_,_,_=>by simp at hl
 |p::ps,_,_,_,_,_,.cons a b,hl,hp,hs,ht=>by
  simp only[psOk,Bool.and_eq_true,Nat.blt_eq]at hp
  simp only[setPs,List.zip_cons_cons,List.foldl_cons]
  exact setPs_rel b (by simpa using hl) hp.2 (by simpa using hs) (ht.set (by rw[hs];exact hp.1) a)
theorem app_ok (hK:KnownOk P K w0) {fr:Fr} {cs:List Fr} {cs':List Frame} {r:OR} {kind:KR} {tmps:Array Value} {ds:List Deferred} {all:Array Oper} {i:Nat} {L:List Nat} {todo:List Item} {o:Oper}
 (hcal:Cal P B ι s hb sf cs cs') (hw:Wait P ι s sf hb s.nx fr (mkF fr.fn kind tmps ds (.inRegion all (i::L)::todo))) (hat:AtOp P ι s w all tmps i o r)
 (hkd: ∀d,sf.kd=some d→fr.isDef=d∧kind.k=kindOf d) (hrn:RndRel ι fr.rnd kind.r) (hS:SRel P ι s w) (hhb:hb≤s.nx) (hlo:s.lo≤s.nx) (hini:Ini w0 ι s w):
 ResPost' P B w0 ι s w (lone (mkF fr.fn kind tmps ds (.inRegion all (i::L)::todo)) cs' w) (app P K fr cs s r):=by
 have hpost:=hat.post s.nx (Nat.le_refl _)
 have hfin: ∀v,(mkF fr.fn kind tmps ds (.inRegion all (i::L)::todo)).finish v=mkF fr.fn kind (pt tmps o.dst v) ds (.inRegion all L::todo):=fun v=>fin_eq hat.op v ds
 cases r with
 |val v s'=>exact absurd rfl (hat.noval v s')
 |call f args=>
  obtain⟨hbo,args',hrun,hargs⟩:=hpost
  have hst:=st_enter (fn:=fr.fn) (kind:=kind) (ds:=ds) (L:=L) (k:=todo) (cs:=cs') hat.op hat.wanted hrun
  simp only[app]
  cases hk:askK K f args s with
  |some r=>
   have hF: ∃F,K f=some F∧F args s=some r:=by
    unfold askK at hk
    cases hkf:K f with
    |none=>simp[hkf]at hk
    |some F=>simp only[hkf]at hk;exact⟨F,rfl,hk⟩
   obtain⟨F,hkf,hF⟩:=hF
   have hp:=hK f F hkf (mkF fr.fn kind tmps ds (.inRegion all (i::L)::todo)::cs') args s r hF ι w args' hini hS hlo hargs
   cases r with
   |ret v s1=>
    simp only[]
    obtain⟨ι1,wk,v',hv,hS1,hF1,hcalls⟩:=hp
    obtain⟨e,w1,fr1,⟨rfl,rfl⟩,hcomes,_,hleave⟩:=hcalls
    have hl:=step_leave_returned (c:=mkF fr.fn kind tmps ds (.inRegion all (i::L)::todo)) (cs:=cs') hleave
    cases hfi:finish fr v with
    |none=>trivial
    |some fr2=>
     simp only[]
     have hFw:=hF1.weaken hhb
     have hnx:=hF1.nx
     have hlo1:=hF1.lo
     refine⟨ι1,hb,sf,fr2,cs,_,cs',_,rfl,.head hst (Steps.trans hcomes (.one hl)),⟨hcal.mono hFw.fut,?_,hS1,by omega,by omega,hini.fm hFw⟩,hFw.weaken hcal.le⟩
     exact(hw ι1 s1 hF1.fut).1 v v' fr2 hv hfi
   |pan t v s1=>
    simp only[]
    obtain⟨ι1,wk,v',hv,hS1,hF1,hcalls⟩:=hp
    obtain⟨e,w1,fr1,⟨rfl,rfl⟩,hcomes,_,hleave⟩:=hcalls
    have hl:=step_leave_panicked (c:=mkF fr.fn kind tmps ds (.inRegion all (i::L)::todo)) (cs:=cs') hleave
    have hFw:=hF1.weaken hhb
    have hnx:=hF1.nx
    have hlo1:=hF1.lo
    refine⟨ι1,hb,sf,_,cs,_,cs',_,rfl,.head hst (Steps.trans hcomes (.one hl)),⟨hcal.mono hFw.fut,?_,hS1,by omega,by omega,hini.fm hFw⟩,hFw.weaken hcal.le⟩
    exact(hw ι1 s1 hF1.fut).2 [⟨t,v,false⟩] _ (.cons hv .nil)
  |none=>
   simp only[]
   cases he:enter P f args false with
   |none=>trivial
   |some n=>
    simp only[]
    refine⟨ι,s.nx,_,n,fr::cs,_,_,w,rfl,.one hst,⟨.call hcal hhb hw,enter_ok he hargs s s.nx,hS,Nat.le_refl _,hlo,hini⟩,Fm.refl _ _ _ _⟩
 |round l args=>
  obtain⟨lb,args',hi,hargs,hrun⟩:=hpost
  simp only[app]
  cases hg:s.h.get l with
  |none=>trivial
  |some ob=>
   cases ob with
   |loop st pe fn0 nt0 g0 ps asg body de=>
    simp only[]
    cases hc:Nat.beq args.length ps.toList.length&&psOk nt0 ps.toList&&(P.funcs[fn0]?).isSome with
    |false=>trivial
    |true=>
     simp only[cond_true]
     simp only[Bool.and_eq_true,Nat.beq_eq]at hc
     obtain⟨o',ho1,ho2⟩:=hS.obj l lb _ hi hg
     cases ho2 with
     |loop hsz0 htm hde=>
      rename_i tmps0 ld
      have hlen:=hargs.length
      have hsz:args'.size=ps.size:=by
       have:=hc.1.1
       simp only[Array.length_toList]at this hlen
       omega
      have hget:(Instr.getLoop lb.blk).run P w= .ok { state:=st,pending:=pe,fn:=fn0,tmps:=tmps0,params:=ps,assign:=asg,body,defers:=ld.blk } w:=by
       have:(getObj lb.blk).run P w= .ok (.loop { state:=st,pending:=pe,fn:=fn0,tmps:=tmps0,params:=ps,assign:=asg,body,defers:=ld.blk }) w:=by simp only[getObj,Sem.run,ho1]
       simp only[Instr.getLoop,Sem.run_bind,this,Result.andThen_ok,Sem.run_pure]
      have hy:(Instr.yield lb.blk args').run P w= .ok (.round lb.blk fn0 ((ps.zip args').foldl (fun tmps (t,a)=>tmps.setIfInBounds t a) tmps0) asg body) w:=by
       simp only[Instr.yield,Sem.run_bind,hget,Result.andThen_ok,hsz,ne_eq,not_true_eq_false,if_false,Sem.run_pure]
      have hst:=st_round (fn:=fr.fn) (kind:=kind) (ds:=ds) (L:=L) (k:=todo) (cs:=cs') hat.op hat.wanted (hrun.trans hy)
      obtain⟨ff,hff⟩: ∃ff,P.funcs[fn0]? =some ff:=Option.isSome_iff_exists.1 hc.2
      have hT:=setPs_rel (ι:=ι) hargs (by simpa using hc.1.1) hc.1.2 hsz0 htm
      rw[←Array.toList_zip,Array.foldl_toList]at hT
      refine⟨ι,s.nx,⟨[],[],some false,none⟩,_,fr::cs,_,_,w,rfl,.one hst,⟨.call hcal hhb hw,?_,hS,Nat.le_refl _,hlo,hini⟩,Fm.refl _ _ _ _⟩
      exact⟨rfl,⟨ff,hff⟩,.some hi,fun _=>rfl,⟨fun d hd=>by cases hd;exact⟨rfl,rfl⟩,nofun⟩,hT.2,.nil,.run,
       fun _=> .plain hT.1 (.cons (.code asg) (.cons .beginRound (.cons (.code body) .nil))),fun x=>absurd rfl x⟩
   |_=>trivial
 |dfr f c a=>
  obtain⟨hbo,d,hrun,hd⟩:=hpost
  simp only[app]
  cases hfi:finish fr und with
  |none=>trivial
  |some fr2=>
   obtain⟨fn2,nt2,g2,todo2,ds2,m2,d2,r2⟩:=fr2
   cases r2 with
   |some _=>trivial
   |none=>
    simp only[]
    have hk0:kind.r=none:=by
     have e:=finish_rnd hfi
     simp only at e
     rw[←e]at hrn
     exact hrn.isNone
    have hst:=st_defer (fn:=fr.fn) (kind:=kind) (ds:=ds) (L:=L) (k:=todo) (cs:=cs') hk0 hat.op hat.wanted hrun
    have hT:=(hw ι s (Fut.refl _ _ _)).1 und undef _ (.tuple .nil) hfi
    rw[hfin]at hT
    refine⟨ι,hb,sf,_,cs,_,cs',w,rfl,.one hst,⟨hcal,?_,hS,hhb,hlo,hini⟩,Fm.refl _ _ _ _⟩
    exact⟨hT.fn,hT.func,hT.rnd,hT.rk,hT.kind,hT.size,.cons hd hT.defers,hT.mode,hT.body,hT.tmps⟩
 |rcv=>
  have hrun:(execOp (rho tmps) o).run P w= .ok .recover w:=hpost
  have hst0:=fun hk0=>st_recover (fn:=fr.fn) (kind:=kind) (ds:=ds) (L:=L) (k:=todo) (cs:=cs') hk0 hat.op hat.wanted hrun
  cases hcal0:hcal with
  |base=>
   obtain⟨fn,nt,g,td,dd,m,d,rn⟩:=fr
   simp only[app]
   cases d<;>cases rn<;>trivial
  |call h1 h2 h3=>
   have:=(hkd false rfl).1
   obtain⟨fn,nt,g,td,dd,m,d,rn⟩:=fr
   simp only at this;subst this
   simp only[app];trivial
  |dfr h1 h2 h3 h4=>
   rename_i hb1 sf1 c c' cs1 cs1'
   obtain⟨hd1,hd2⟩:=hkd true rfl
   obtain⟨fn,nt,g,td,dd,m,d,rn⟩:=fr
   simp only at hd1;subst hd1
   cases rn with
   |some _=>simp only[app];trivial
   |none=>
    have hst:=hst0 hrn.isNone
    obtain⟨cf,cn,cg,ct,cds,cm,cd,crd⟩:=c
    cases cm with
    |run=>exact absurd rfl h3
    |returning=>
     simp only[app]
     cases hfi:finish ⟨fn,nt,g,td,dd,m,true,none⟩ .nilIface with
     |none=>trivial
     |some fr2=>
      simp only[]
      have hm:=h4.mode
      have hm':c'.mode= .returning:=by
       generalize c'.mode=mm at hm
       cases hm;rfl
      have htr:tryRecover (mkF fn kind tmps ds (.inRegion all (i::L)::todo)) (c'::cs1')=none:=by
       simp[tryRecover,hd2,kindOf,hm']
      simp only[htr]at hst
      refine⟨ι,hb,_,fr2,_,_,_,w,rfl,.one hst,⟨hcal,?_,hS,hhb,hlo,hini⟩,Fm.refl _ _ _ _⟩
      have:=(hw ι s (Fut.refl _ _ _)).1 .nilIface .nilIface fr2 .nilIface hfi
      rw[hfin]at this;exact this
    |pan ch=>
     cases ch with
     |nil=>simp only[app];trivial
     |cons e older=>
      obtain⟨t,v,b⟩:=e
      cases b with
      |true=>simp only[app];trivial
      |false=>
       simp only[app]
       cases hfi:finish ⟨fn,nt,g,td,dd,m,true,none⟩ (.iface t v)with
       |none=>trivial
       |some fr2=>
        simp only[]
        have hm:=h4.mode
        obtain⟨older',v',hv,hold,hm'⟩: ∃older' v',VRel ι v v'∧PanRel ι older older'∧c'.mode= .panicking ({ v:= .iface t v',recovered:=false,goexit:=false } ::older'):=by
         generalize c'.mode=mm at hm
         cases hm with
         |pan hp=>cases hp with
          |cons a b=>exact⟨_,_,a,b,rfl⟩
        have htr:tryRecover (mkF fn kind tmps ds (.inRegion all (i::L)::todo)) (c'::cs1')=some (.iface t v',{ c' with mode:= .panicking ({ v:= .iface t v',recovered:=true } ::older') } ::cs1'):=by
         simp[tryRecover,hd2,kindOf,hm']
        simp only[htr]at hst
        refine⟨ι,hb,_,fr2,_,_,_,w,rfl,.one hst,⟨.dfr h1 h2 (by simp) ?_,?_,hS,hhb,hlo,hini⟩,Fm.refl _ _ _ _⟩
        ·exact⟨h4.fn,h4.func,h4.rnd,h4.rk,h4.kind,h4.size,h4.defers,.pan (.cons hv hold),nofun,fun _=>h4.tmps (by simp)⟩
        ·have:=(hw ι s (Fut.refl _ _ _)).1 (.iface t v) (.iface t v') fr2 (.iface hv) hfi
         rw[hfin]at this;exact this
 |upd r k x=>
  simp only[app]
  cases cs with
  |cons _ _=>trivial
  |nil=>
   simp only[]
   cases hcal with
   |base=>exact⟨ι,w,kind,tmps,ds,todo,all,i,L,o,.refl _ _,hrn,hS,hlo,hhb,hini,Fm.refl _ _ _ _,hat,hw⟩
 |pan t v=>
  obtain⟨v',hrun,hv⟩:=hpost
  have hst:=st_panic (fn:=fr.fn) (kind:=kind) (ds:=ds) (L:=L) (k:=todo) (cs:=cs') hat.op hat.wanted hrun
  simp only[app]
  refine⟨ι,hb,sf,_,cs,_,cs',w,rfl,.one hst,⟨hcal,?_,hS,hhb,hlo,hini⟩,Fm.refl _ _ _ _⟩
  exact(hw ι s (Fut.refl _ _ _)).2 _ _ (.cons hv .nil)
 |bad n=>simp only[app];trivial
theorem settle_ok {m:AMode} {m':FrameMode} (h:ModeRel ι m m'):ModeRel ι (settleA m) (settle m'):=by
 cases h with
 |run=>exact .run
 |returning=>exact .returning
 |pan hp=>
  cases hp with
  |nil=>exact .pan .nil
  |cons a b=>
   rename_i t v v' rb l l'
   cases rb with
   |false=>exact .pan (.cons a b)
   |true=>
    have: ∀ {x:List APan} {y:List PanicEntry},PanRel ι x y→y.dropWhile (!·.goexit)=[]:=by
     intro x y h
     induction h with
     |nil=>rfl
     |cons _ _ ih=>simp[List.dropWhile,ih]
    simp only[settleA,settle,this b]
    exact .returning
theorem settleA_run {m:AMode} (h:m≠ .run):settleA m≠ .run:=by
 unfold settleA
 split
 ·simp
 ·exact h
theorem clearG_plain {todo:List AItem} {g:T Value} (h: ∀all ops p hs k,todo≠ .draw all ops p hs::k):clearG todo g=g:=by
 unfold clearG
 split
 ·exact absurd rfl (h _ _ _ _ _)
 ·rfl
theorem TmpRel.clearD {ι:Inj} {tmps:Array Value} : ∀(ops:List Dop) {g:T Value},TmpRel ι g tmps→TmpRel ι (AM.clearD ops g) tmps
 |[],_,h=>h
 |o::l,g,h=>by
  simp only[AM.clearD]
  refine TmpRel.clearD l ?_
  intro t
  by_cases e:o.cl.dst=some t
  ·rw[ev_putD_eq t e];exact .poi _
  ·rw[ev_putD_ne e];exact h t
theorem TmpRel.clearG {ι:Inj} {tmps:Array Value} {g:T Value} (todo:List AItem) (h:TmpRel ι g tmps):TmpRel ι (AM.clearG todo g) tmps:=by
 unfold AM.clearG
 split
 ·exact h.clearD _
 ·exact h
theorem raise_ok {c:Fr} {c':Frame} (h:Top P ι s sf hb c c') (hm:c.mode≠ .run) {ch:List APan} {ch':List PanicEntry} (hp:PanRel ι ch ch'):Top P ι s sf hb (raise c ch) (c'.raise ch'):=by
 obtain⟨cf,cn,cg,ct,cds,cm,cd,crd⟩:=c
 have hmd:=h.mode
 have ht:=(h.tmps hm).clearG ct
 cases cm with
 |run=>exact absurd rfl hm
 |returning=>
  have hme:c'.mode= .returning:=by
   generalize c'.mode=mm at hmd
   cases hmd;rfl
  have e:c'.raise ch'= { c' with mode:= .panicking ch' } :=by simp[Frame.raise,hme]
  rw[e]
  exact⟨h.fn,h.func,h.rnd,h.rk,h.kind,h.size,h.defers,.pan hp,nofun,fun _=>ht⟩
 |pan old=>
  obtain⟨old',ho,hme⟩: ∃old',PanRel ι old old'∧c'.mode= .panicking old':=by
   generalize c'.mode=mm at hmd
   cases hmd;exact⟨_,by assumption,rfl⟩
  have e:c'.raise ch'= { c' with mode:= .panicking (ch'++old') } :=by simp[Frame.raise,hme]
  rw[e]
  exact⟨h.fn,h.func,h.rnd,h.rk,h.kind,h.size,h.defers,.pan (hp.append ho),nofun,fun _=>ht⟩
theorem unwind_ok {fr:Fr} {cs:List Fr} {cs':List Frame} {top:Frame} (h:RSt P B w0 ι hb sf fr cs s top cs' w) (hm:fr.mode≠ .run):
 ResPost' P B w0 ι s w (lone top cs' w) (unwindA P fr cs s):=by
 obtain⟨hcal,hT,hS,hhb,hlo,hini⟩:=h
 obtain⟨fn,nt,g,td,dd,m,d,rn⟩:=fr
 simp only at hm
 have hm':top.mode≠ .run:=by
  have:=hT.mode
  intro e
  generalize top.mode=mm at this e
  subst e
  cases this;exact hm rfl
 have hdf:=hT.defers
 cases rn with
 |some _=>simp only[unwindA];trivial
 |none=>
 cases dd with
 |cons d0 dd=>
  generalize htd:top.defers=td' at hdf
  cases hdf with
  |cons hd hrest=>
   rename_i d' l'
   have hTop: ∀(ι':Inj) (s':S),Ext ι ι'→Top P ι' s' sf hb ⟨fn,nt,g,td,dd,m,d,none⟩ { top with defers:=l' } :=fun ι' s' hx=>
    ⟨hT.fn,hT.func,hT.rnd.mono hx,hT.rk,hT.kind,hT.size,hrest.mono hx,hT.mode.mono hx,fun e=>absurd e hm,fun e=>(hT.tmps e).mono hx⟩
   cases d0 with
   |coll b=>
    simp only[unwindA]
    cases hle:Nat.ble s.lo b with
    |false=>trivial
    |true=>
     simp only[cond_true]
     cases hg:s.h.get b with
     |none=>trivial
     |some ob=>
      cases ob with
      |defd x=>
       cases x with
       |none=>trivial
       |some l=>
        cases l with
        |cons _ _=>trivial
        |nil=>
         simp only[]
         cases hd with
         |coll hib=>
          rename_i lb
          obtain⟨o',ho1,ho2⟩:=hS.obj b lb _ hib hg
          cases ho2
          have hlt:=hS.bound b lb hib
          have hput:WPut w { w with heap:=w.heap.setIfInBounds lb.blk (.deferred none) } lb.blk (.deferred none):=
           ⟨by simp[hlt],fun c hc=>by simp[Array.getElem?_setIfInBounds,Ne.symm hc],by simp,rfl,rfl,rfl⟩
          have hnp: ∀id2 l2 o2,id2≠b→ι id2=some l2→l2.blk=lb.blk→s.h.get id2=some o2→Dead o2:=by
           intro id2 l2 o2 h1 h2 h3 h4
           rcases hS.alias b id2 lb l2 _ o2 (Ne.symm h1) hib h2 h3.symm hg h4 with x|x|x|x
           ·simp[Dead]at x
           ·exact x
           ·simp[Par]at x
           ·by_cases hdd:Dead o2
            ·exact hdd
            ·obtain⟨_,y⟩:=hS.par id2 o2 b h4 (by rw[h2];simp) hdd x
             obtain⟨bb,e,_⟩:=y _ hg
             cases e
          have hnc: ∀id2 o2,s.h.get id2=some o2→ι id2≠none→ ¬Dead o2→ ¬Par o2 b:=by
           intro id2 o2 h1 h2 h3 h4
           obtain⟨_,y⟩:=hS.par id2 o2 b h1 h2 h3 h4
           obtain⟨bb,e,_⟩:=y _ hg
           cases e
          have hS2:=hS.put hib hg (o:= .defd none) (fun p=>by simp[Par]) hnp hnc hput .defN
          have hF:=Fm.put (hb:=hb) hib hg (o:= .defd none) trivial (Nat.le_of_ble_eq_true hle) hput
          have hst:Go.step P (lone top cs' w)= .next (lone { top with defers:=l' } cs' { w with heap:=w.heap.setIfInBounds lb.blk (.deferred none) }):=by
           refine step_lone_go ?_
           have hrun:(Instr.takeDeferred lb.blk).run P w= .ok [] { w with heap:=w.heap.setIfInBounds lb.blk (.deferred none) } :=by
            have hget:(getObj lb.blk).run P w= .ok (.deferred (some [])) w:=by simp only[getObj,Sem.run,ho1]
            simp only[Instr.takeDeferred,Sem.run_bind,hget,Result.andThen_ok]
            have hset:(setObj lb.blk (.deferred none)).run P w= .ok () { w with heap:=w.heap.setIfInBounds lb.blk (.deferred none) } :=by
             exact(setObj_run ho1 (fun _ _ _ h=>by cases h)).1
            simp only[hset,Result.andThen_ok,Sem.run_pure]
           cases hmode:top.mode with
           |run=>exact absurd hmode hm'
           |returning=>simp[stepG,unwind,hmode,htd,hrun]
           |panicking chain=>simp[stepG,unwind,hmode,htd,hrun]
          refine⟨ι,hb,sf,_,cs,_,cs',_,rfl,.one hst,⟨hcal.mono hF.fut,hTop ι _ (Ext.refl _),hS2,by rw[S.put_nx];exact hhb,by rw[S.put_nx,S.put_lo];exact hlo,hini.fm hF⟩,hF.weaken hcal.le⟩
      |_=>trivial
   |call f c a=>
    simp only[unwindA]
    cases he:enter P f (a++c) true with
    |none=>trivial
    |some n=>
     simp only[]
     cases hbo:bodyOk P f with
     |false=>trivial
     |true=>
      simp only[cond_true]
      cases hd with
      |call h1 h2=>
       rename_i cs0 as0
       have hrun:(invoke (.fn (.func f) cs0) as0).run P w= .ok (.enter f (as0++cs0)) w:=by
        simp only[invoke]
        exact bodyOk_run hbo _ _
       have hst:=step_defer (cs:=cs') hm' htd rfl hrun
       have hargs:VRelL ι (a++c) (as0++cs0).toList:=by simpa using h2.append h1
       refine⟨ι,s.nx,_,n,_,_,_,w,rfl,.one hst,⟨.dfr hcal hhb hm (hTop ι s (Ext.refl _)),enter_ok he hargs s s.nx,hS,Nat.le_refl _,hlo,hini⟩,Fm.refl _ _ _ _⟩
 |nil=>
  cases hcal0:hcal with
  |base=>
   simp only[unwindA]
   exact⟨ι,top,w,rfl,hm,.refl _ _,⟨.base,hT,hS,hhb,hlo,hini⟩,Fm.refl _ _ _ _⟩
  |call h1 h2 h3=>
   rename_i hb1 sf1 c c' cs1 cs1'
   have htd:top.defers=[]:=by
    generalize htd:top.defers=td' at hdf
    cases hdf;rfl
   obtain⟨hd1,hd2⟩:=hT.kind.1 false rfl
   simp only at hd1;subst hd1
   obtain⟨ff,hff⟩:=hT.func
   simp only[unwindA]
   have hmd:=hT.mode
   cases m with
   |run=>exact absurd rfl hm
   |pan ch=>
    simp only[]
    obtain⟨ch',hch,hme⟩: ∃ch',PanRel ι ch ch'∧top.mode= .panicking ch':=by
     generalize top.mode=mm at hmd
     cases hmd;exact⟨_,by assumption,rfl⟩
    have hst:Go.step P (lone top (c'::cs1') w)= .next (lone (c'.raise ch') cs1' w):=step_leave_panicked ⟨hme,htd,ff,by rw[hT.fn];exact hff⟩
    refine⟨ι,hb1,sf1,_,cs1,_,cs1',w,rfl,.one hst,⟨h1,?_,hS,by omega,hlo,hini⟩,Fm.refl _ _ _ _⟩
    exact(h3 ι s (Fut.refl _ _ _)).2 _ _ hch
   |returning=>
    simp only[]
    cases hrv:resV P fn g s with
    |none=>trivial
    |some v=>
     simp only[]
     obtain⟨f',v',hf',hv,hres⟩:=resV_ok hS (hT.tmps hm) hrv
     have hme:top.mode= .returning:=by
      generalize top.mode=mm at hmd
      cases hmd;rfl
     have hst:Go.step P (lone top (c'::cs1') w)= .next (lone (c'.finish v') cs1' w):=
      step_leave_returned ⟨hme,htd,hd2,f',by rw[hT.fn];exact hf',hres⟩
     simp only[retTo,cond_false]
     cases hfi:finish c v with
     |none=>trivial
     |some c1=>
      simp only[]
      refine⟨ι,hb1,sf1,c1,cs1,_,cs1',w,rfl,.one hst,⟨h1,?_,hS,by omega,hlo,hini⟩,Fm.refl _ _ _ _⟩
      exact(h3 ι s (Fut.refl _ _ _)).1 v v' c1 hv hfi
  |dfr h1 h2 h3 h4=>
   rename_i hb1 sf1 c c' cs1 cs1'
   have htd:top.defers=[]:=by
    generalize htd:top.defers=td' at hdf
    cases hdf;rfl
   obtain⟨hd1,hd2⟩:=hT.kind.1 true rfl
   simp only at hd1;subst hd1
   obtain⟨ff,hff⟩:=hT.func
   simp only[unwindA]
   have hmd:=hT.mode
   cases m with
   |run=>exact absurd rfl hm
   |pan ch=>
    simp only[]
    obtain⟨ch',hch,hme⟩: ∃ch',PanRel ι ch ch'∧top.mode= .panicking ch':=by
     generalize top.mode=mm at hmd
     cases hmd;exact⟨_,by assumption,rfl⟩
    have hst:Go.step P (lone top (c'::cs1') w)= .next (lone (c'.raise ch') cs1' w):=step_leave_panicked ⟨hme,htd,ff,by rw[hT.fn];exact hff⟩
    refine⟨ι,hb1,sf1,_,cs1,_,cs1',w,rfl,.one hst,⟨h1,?_,hS,by omega,hlo,hini⟩,Fm.refl _ _ _ _⟩
    exact raise_ok h4 h3 hch
   |returning=>
    simp only[]
    cases hrv:resV P fn g s with
    |none=>trivial
    |some v=>
     simp only[]
     obtain⟨f',v',hf',hv,hres⟩:=resV_ok hS (hT.tmps hm) hrv
     have hme:top.mode= .returning:=by
      generalize top.mode=mm at hmd
      cases hmd;rfl
     have hst:Go.step P (lone top (c'::cs1') w)= .next (lone { c' with mode:=settle c'.mode } cs1' w):=
      step_going_returned hd2 ⟨hme,htd,f',by rw[hT.fn];exact hf',hres⟩
     obtain⟨cf,cn,cg,ct,cds,cm,cd,crd⟩:=c
     simp only[retTo,cond_true]
     refine⟨ι,hb1,sf1,_,cs1,_,cs1',w,rfl,.one hst,⟨h1,?_,hS,by omega,hlo,hini⟩,Fm.refl _ _ _ _⟩
     exact⟨h4.fn,h4.func,h4.rnd,h4.rk,h4.kind,h4.size,h4.defers,settle_ok h4.mode,fun e=>absurd e (settleA_run h3),fun _=>h4.tmps h3⟩
end
end Go.AM
namespace Go.AM
noncomputable section
variable {P:Program} {B:Base} {w0:Start} {ι:Inj} {s:S} {w:World} {hb:Nat} {sf:Suf} {K:Known}
structure Run1 (P:Program) (B:Base) (w0:Start) (ι:Inj) (hb:Nat) (sf:Suf) (fn nt:Nat) (g:T Value) (ds:List ADef) (d:Bool) (rn:Option Nat) (rest:List Fr) (s:S)
 (kind:KR) (tmps:Array Value) (ds':List Deferred) (cs:List Frame) (w:World):Prop where
 cal:Cal P B ι s hb sf rest cs
 func: ∃f,P.funcs[fn]? =some f
 rnd:RndRel ι rn kind.r
 rk:rn≠none→kind.k= .normal
 kind:(∀b,sf.kd=some b→d=b∧kind.k=kindOf b)∧ ∀q,sf.me=some q→fn=q.1∧nt=q.2.1∧kind.k=q.2.2
 size:tmps.size=nt
 defers:DefsTo ι sf.D ds ds'
 srel:SRel P ι s w
 hb:hb≤s.nx
 lo:s.lo≤s.nx
 ini:Ini w0 ι s w
section
variable {fn nt:Nat} {g:T Value} {ds:List ADef} {d:Bool} {rn:Option Nat} {rest:List Fr} {kind:KR} {tmps:Array Value} {ds':List Deferred} {cs:List Frame}
theorem Run1.topP (h:Run1 P B w0 ι hb sf fn nt g ds d rn rest s kind tmps ds' cs w) {ι1:Inj} {s1:S} {g1:T Value} {tmps1:Array Value} {todo:List AItem} {todo':List Item} (hx:Ext ι ι1) (hsz:tmps1.size=nt)
 (hb1:Body P ι1 s1 hb nt sf.K g1 tmps1 todo todo'):Top P ι1 s1 sf hb ⟨fn,nt,g1,todo,ds,.run,d,rn⟩ (mkF fn kind tmps1 ds' todo'):=
 ⟨rfl,h.func,h.rnd.mono hx,h.rk,h.kind,hsz,h.defers.mono hx,.run,fun _=>hb1,fun x=>absurd rfl x⟩
theorem next_body (h:Run1 P B w0 ι hb sf fn nt g ds d rn rest s kind tmps ds' cs w) {ι1:Inj} {s1:S} {w1:World} {m:Machine} {g1:T Value} {tmps1:Array Value} {todo:List AItem} {todo':List Item}
 (hst:Steps P m (lone (mkF fn kind tmps1 ds' todo') cs w1)) (hsz:tmps1.size=nt) (hS:SRel P ι1 s1 w1) (hF:Fm hb ι s w ι1 s1 w1) (hbd:Body P ι1 s1 hb nt sf.K g1 tmps1 todo todo'):
 ResPost' P B w0 ι s w m (.next ⟨⟨fn,nt,g1,todo,ds,.run,d,rn⟩::rest,s1⟩):=by
 have:=hF.nx
 have:=hF.lo
 have:=h.hb
 have:=h.lo
 exact⟨ι1,hb,sf,_,rest,_,cs,w1,rfl,hst,⟨h.cal.mono hF.fut,h.topP hF.ext hsz hbd,hS,by omega,by omega,h.ini.fm hF⟩,hF.weaken h.cal.le⟩
theorem next_plain (h:Run1 P B w0 ι hb sf fn nt g ds d rn rest s kind tmps ds' cs w) {m:Machine} {todo:List AItem} {todo':List Item}
 (hst:Steps P m (lone (mkF fn kind tmps ds' todo') cs w)) (ht:TmpRel ι g tmps) (hi:ItsRel P nt ι sf.K todo todo'):
 ResPost' P B w0 ι s w m (.next ⟨⟨fn,nt,g,todo,ds,.run,d,rn⟩::rest,s⟩):=
 next_body h hst h.size h.srel (Fm.refl _ _ _ _) (.plain ht hi)
theorem Run1.fm (h:Run1 P B w0 ι hb sf fn nt g ds d rn rest s kind tmps ds' cs w) {ι1:Inj} {s1:S} {w1:World} {g1:T Value} {tmps1:Array Value} (hsz:tmps1.size=nt) (hS:SRel P ι1 s1 w1) (hF:Fm hb ι s w ι1 s1 w1):
 Run1 P B w0 ι1 hb sf fn nt g1 ds d rn rest s1 kind tmps1 ds' cs w1:=by
 have:=hF.nx
 have:=hF.lo
 have:=h.hb
 have:=h.lo
 exact⟨h.cal.mono hF.fut,h.func,h.rnd.mono hF.ext,h.rk,h.kind,hsz,h.defers.mono hF.ext,hS,by omega,by omega,h.ini.fm hF⟩
theorem raise_run {todo:List AItem} {ch:List APan} :raise ⟨fn,nt,g,todo,ds,.run,d,rn⟩ ch=⟨fn,nt,clearG todo g,[],ds,.pan ch,d,rn⟩:=rfl
theorem goOps_ok (hK:KnownOk P K w0) (h:Run1 P B w0 ι hb sf fn nt g ds d rn rest s kind tmps ds' cs w) (ht:TmpRel ι g tmps) {all:Array Oper} {j:Nat} (hj:j≤all.size) {k:List AItem} {k':List Item} (hk:ItsRel P nt ι sf.K k k'):
 ResPost' P B w0 ι s w (lone (mkF fn kind tmps ds' (.inRegion all (List.range' j (all.size - j))::k')) cs w) (goOps P K fn nt g all (mkCls P nt all (all.toList.drop j)) k ds d rn rest s):=by
 have hsim:=sim_ops (P:=P) (hb:=hb) (fn:=fn) (kind:=kind) (ds:=ds') (all:=all) (nt:=nt) (k:=k') (cs:=cs) (all.size - j) j (by omega) g s ι w tmps ht h.size h.srel h.hb h.lo
 unfold goOps
 cases hr:runOps (mkCls P nt all (all.toList.drop j)) g s with
 |bad n=>trivial
 |fin g1 s1=>
  rw[hr]at hsim
  obtain⟨ι1,w1,tmps1,hO⟩:=hsim
  exact next_body h hO.steps hO.size hO.srel hO.fm (.plain hO.tmps (hk.mono hO.fm.ext))
 |at_ l g1 s1 r=>
  rw[hr]at hsim
  obtain⟨ι1,w1,tmps1,j1,o,hO,hl,hd,hat⟩:=hsim
  have h1:=h.fm (g1:=g1) hO.size hO.srel hO.fm
  refine .of_steps hO.steps (hO.fm.weaken h.cal.le) ?_
  refine app_ok (fr:=⟨fn,nt,g1,.ops all l::k,ds,.run,d,rn⟩) hK h1.cal ?_ hat h1.kind.1 h1.rnd h1.srel h1.hb h1.lo h1.ini
  have hj1:j1<all.size:=by
   rcases Nat.lt_or_ge j1 all.size with x|x
   ·exact x
   ·have:=hat.op;rw[Array.getElem?_eq_none x]at this;cases this
  intro ι2 s2 hfut
  refine⟨fun v v' c1 hv hfi=>?_,fun ch ch' hch=>?_⟩
  ·rw[hl]at hfi
   simp only[finish,Option.some.injEq]at hfi
   subst hfi
   rw[fin_eq hat.op]
   refine h1.topP hfut.ext (by rw[pt_size];exact hO.size) (.plain ((hO.tmps.mono hfut.ext).putD hO.size hd hv) ?_)
   exact .cons (.ops all (j1+1) (by omega)) ((hk.mono hO.fm.ext).mono hfut.ext)
  ·rw[raise_run]
   exact⟨rfl,h1.func,h1.rnd.mono hfut.ext,h1.rk,h1.kind,hO.size,h1.defers.mono hfut.ext,.pan hch,nofun,fun _=>by
    rw[clearG_plain (by intro _ _ _ _ _ x;cases x)];exact hO.tmps.mono hfut.ext⟩
theorem goDraw_ok (hK:KnownOk P K w0) (h:Run1 P B w0 ι hb sf fn nt g ds d rn rest s kind tmps ds' cs w) {all:Array Oper} {ops:List Dop} {p:Nat} {hs:List Cl} {L:List Nat}
 (hB:Before P nt all hb ι s g tmps ops p hs L) {k:List AItem} {k':List Item} (hk:ItsRel P nt ι sf.K k k'):
 ResPost' P B w0 ι s w (lone (mkF fn kind tmps ds' (.inRegion all L::k')) cs w) (goDraw P K fn nt g all ops p hs k ds d rn rest s):=by
 have hsim:=sim_draw (P:=P) (hb:=hb) (fn:=fn) (kind:=kind) (ds:=ds') (all:=all) (nt:=nt) (k:=k') (cs:=cs) (ops:=ops) hs p g s ι w tmps L hB h.srel h.hb h.lo
 unfold goDraw
 cases hr:runDraw ops p hs g s with
 |bad n=>trivial
 |fin g1 s1=>
  rw[hr]at hsim
  obtain⟨ι1,w1,tmps1,hO⟩:=hsim
  exact next_body h hO.steps hO.size hO.srel hO.fm (.plain hO.tmps (hk.mono hO.fm.ext))
 |at_ p1 l g1 s1 r=>
  rw[hr]at hsim
  obtain⟨ι1,w1,tmps1,i,L1,o,hsteps,hS1,hF1,hsz,hW,hat⟩:=hsim
  have h1:=h.fm (g1:=g1) hsz hS1 hF1
  refine .of_steps hsteps (hF1.weaken h.cal.le) ?_
  refine app_ok (fr:=⟨fn,nt,g1,.draw all ops p1 l::k,ds,.run,d,rn⟩) hK h1.cal ?_ hat h1.kind.1 h1.rnd h1.srel h1.hb h1.lo h1.ini
  intro ι2 s2 hfut
  refine⟨fun v v' c1 hv hfi=>?_,fun ch ch' hch=>?_⟩
  ·obtain⟨c,hs',e1,e2,hB'⟩:=hW.finish hfut hv
   subst e1
   simp only[finish,Option.some.injEq]at hfi
   subst hfi
   rw[fin_eq hat.op,e2]
   exact h1.topP hfut.ext (by rw[pt_size];exact hsz) (.draw hB' ((hk.mono hF1.ext).mono hfut.ext))
  ·rw[raise_run]
   exact⟨rfl,h1.func,h1.rnd.mono hfut.ext,h1.rk,h1.kind,hsz,h1.defers.mono hfut.ext,.pan hch,nofun,fun _=>hW.clear.mono hfut.ext⟩
theorem before_zeroX {all:Array Oper} {X:Nat→List Nat} {bs H L:List Nat} (hP:PF P nt all X bs H) (hl:Lin all X L (fun _=>false)) (ht:TmpRel ι g tmps) (hsz:tmps.size=nt):
 Before P nt all hb ι s g tmps (dopsFrom P nt all bs H 0) 0 (pick (mkCls P nt all all.toList) H) L:=by
 have hdn: ∀i,dnf P nt all bs H 0 0 i=false:=fun i=>by simp[dnf]
 refine⟨X,bs,H,fun _=>false,fun _=>none,hP,rfl,rfl,hl,⟨Nat.zero_le _,hsz,nofun,fun k i _=>by simp,nofun,nofun,fun t _=>ht t,?_,nofun,nofun⟩⟩
 intro i o _ hd
 rw[hdn]at hd;cases hd
theorem before_zero {all:Array Oper} {pl:Plan} (hp:planOf P nt all=some pl) (ht:TmpRel ι g tmps) (hsz:tmps.size=nt) (t:Nat):
 Before P nt all hb ι s g tmps pl.ops 0 pl.hs (Region.schedule true all t):=by
 obtain⟨bs,H,hP,e⟩:=planOf_spec hp
 subst e
 have hdn: ∀i,dnf P nt all bs H 0 0 i=false:=fun i=>by simp[dnf]
 refine⟨_,bs,H,fun _=>false,fun _=>none,hP,rfl,rfl,lin_schedule hP.edge t,⟨Nat.zero_le _,hsz,nofun,fun k i _=>by simp,nofun,nofun,fun t _=>ht t,?_,nofun,nofun⟩⟩
 intro i o _ hd
 rw[hdn]at hd;cases hd
theorem leave_ok (h:Run1 P B w0 ι hb sf fn nt g ds d none rest s kind tmps ds' cs w) (ht:TmpRel ι g tmps) {m:Machine} {todo:List Item}
 (hst:Steps P m (lone { mkF fn kind tmps ds' todo with mode:= .returning } cs w)):
 ResPost' P B w0 ι s w m (.next ⟨⟨fn,nt,g,[],ds,.returning,d,none⟩::rest,s⟩):=by
 refine⟨ι,hb,sf,_,rest,_,cs,w,rfl,hst,⟨h.cal,?_,h.srel,h.hb,h.lo,h.ini⟩,Fm.refl _ _ _ _⟩
 exact⟨rfl,h.func,h.rnd,h.rk,h.kind,h.size,h.defers,.returning,nofun,fun _=>ht⟩
theorem cond_rel {x:Operand} {b:Bool} (ht:TmpRel ι g tmps) (h:ev g x= .bool b):(Act.mk tmps ds').eval x= .bool b:=by
 cases x with
 |tmp t=>have:=ht t;rw[h]at this;exact this.bool_inv
 |const v=>exact h
 |global g=>cases h
 |func f=>cases h
theorem rangeFunc_ok (h:Run1 P B w0 ι hb sf fn nt g ds d none rest s kind tmps ds' cs w) (ht:TmpRel ι g tmps) {f:Operand} {ps:Array Tmp} {asg body:Code} {k:List AItem} {k':List Item} (hk:ItsRel P nt ι sf.K k k')
 {fi:FuncId} {first captured:Array Value} (he:ev g f= .func (.func fi) first captured) (hf:opdOk f=true) (hbo:bodyOk P fi=true) {n:Fr}
 (hen:enter P fi (first.toList++ .func (.yield (Nat.succ s.nx)) #[] #[]::captured.toList) false=some n):
 ResPost' P B w0 ι s w (lone (mkF fn kind tmps ds' (.code (.rangeFunc f ps asg body)::k')) cs w)
  (.next ⟨n::⟨fn,nt,g,.inRF (Nat.succ s.nx)::k,.coll s.nx::ds,.run,d,none⟩::rest,(s.push (.defd (some []))).push (.loop .ready none fn nt g ps asg body s.nx)⟩):=by
 obtain⟨kk,kr⟩:=kind
 have hkr:=h.rnd.isNone
 simp only at hkr
 subst hkr
 have hfr:ι s.nx=none:=h.srel.fresh _ (Nat.le_refl _)
 have hp1:=WPush.mk' w (.deferred (some []))
 generalize hw1: { w with heap:=w.heap.push (.deferred (some [])) } =w1 at hp1
 have hx1:=Ext.up ⟨w.heap.size,0,0⟩ hfr
 have hS1:=h.srel.push (top:=0) (o:= .defd (some [])) (fun p=>by simp[Par]) hp1 .defS
 have hF1:=Fm.push (hb:=hb) (o:= .defd (some [])) h.srel h.hb h.lo (top:=0) hp1
 have hF1':=Fm.push (hb:=s.nx) (o:= .defd (some [])) h.srel (Nat.le_refl _) h.lo (top:=0) hp1
 generalize hs1:s.push (.defd (some []))=s1 at hS1 hF1 hF1'
 have hnx1:s1.nx=s.nx+1:=by rw[←hs1,S.push_nx]
 have hlo1:s1.lo=s.lo:=by rw[←hs1,S.push_lo]
 have hp2:=WPush.mk' w1 (.loop { state:= .ready,pending:=none,fn,tmps,params:=ps,assign:=asg,body,defers:=w.heap.size })
 generalize hw2: { w1 with heap:=w1.heap.push (.loop { state:= .ready,pending:=none,fn,tmps,params:=ps,assign:=asg,body,defers:=w.heap.size }) } =w2 at hp2
 have hfr1:(ι.up s.nx ⟨w.heap.size,0,0⟩) s1.nx=none:=hS1.fresh _ (Nat.le_refl _)
 have hx2:=Ext.up ⟨w1.heap.size,0,0⟩ hfr1
 have hlr:ORel P ((ι.up s.nx ⟨w.heap.size,0,0⟩).up s1.nx ⟨w1.heap.size,0,0⟩) ⟨w1.heap.size,0,0⟩ (.loop .ready none fn nt g ps asg body s.nx)
  (.loop { state:= .ready,pending:=none,fn,tmps,params:=ps,assign:=asg,body,defers:=w.heap.size }):=
  .loop (ld:=⟨w.heap.size,0,0⟩) h.size ((ht.mono hx1).mono hx2) (hx2 _ _ (Inj.up_self _ _ _))
 have hS2:=hS1.push (top:=0) (o:= .loop .ready none fn nt g ps asg body s.nx) (fun p=>by simp[Par]) hp2 hlr
 have hb1:=h.hb
 have hl1:=h.lo
 have hF2:=Fm.push (hb:=hb) (o:= .loop .ready none fn nt g ps asg body s.nx) hS1 (by omega) (by omega) (top:=0) hp2
 have hnx:Nat.succ s.nx=s1.nx:=hnx1.symm
 rw[hnx]
 have hF:=hF1.trans hF2
 have hfe:(Act.mk tmps ds').eval f=(rho tmps) f:=by rw[rho_eq]
 have hrf:=(ht.rho [f]) f (by simp) hf
 rw[he]at hrf
 obtain⟨a',b',ef,r1,r2⟩:=hrf.func_inv
 have hargs:VRelL ((ι.up s.nx ⟨w.heap.size,0,0⟩).up s1.nx ⟨w1.heap.size,0,0⟩) (first.toList++ .func (.yield s1.nx) #[] #[]::captured.toList)
  (a'++ #[Value.func (.yield w1.heap.size) #[] #[]]++b').toList:=by
  have:(a'++ #[Value.func (.yield w1.heap.size) #[] #[]]++b').toList=a'.toList++(Value.func (.yield w1.heap.size) #[] #[]::b'.toList):=by simp
  rw[this]
  exact((r1.mono hx1).mono hx2).append (.cons (.yield (l:=⟨w1.heap.size,0,0⟩) (Inj.up_self _ _ _)) ((r2.mono hx1).mono hx2))
 have hst:Go.step P (lone (mkF fn ⟨kk,none⟩ tmps ds' (.code (.rangeFunc f ps asg body)::k')) cs w)=
  .next (lone (Frame.enter P fi (a'++ #[Value.func (.yield w1.heap.size) #[] #[]]++b') .normal)
   (mkF fn ⟨kk,none⟩ tmps ({ target:= .collected w.heap.size,args:= #[] } ::ds') (.inRangeFunc w1.heap.size::k')::cs) w2):=by
  refine step_lone_go ?_
  have hel:(Instr.enterLoop fn tmps ps asg body none).run P w= .ok (w1.heap.size,[{ target:= .collected w.heap.size,args:= #[] }]) w2:=by
   simp[Instr.enterLoop,←hw2,←hw1]
   rfl
  have hfe2:(mkF fn ⟨kk,none⟩ tmps ({ target:= .collected w.heap.size,args:= #[] } ::ds') (.inRangeFunc w1.heap.size::k')).eval f= .func (.func fi) a' b':=by
   rw[←ef,←hfe];cases f<;>rfl
  have hcall: ∀(w3:World),(resolve (mkF fn ⟨kk,none⟩ tmps ({ target:= .collected w.heap.size,args:= #[] } ::ds') (.inRangeFunc w1.heap.size::k')).eval { callee:= .value f,args:= #[.const (.func (.yield w1.heap.size) #[] #[])],argTypes:= #[] } 0>>=fun dd=>invoke dd.target dd.args).run P w3= .ok (.enter fi (a'++ #[Value.func (.yield w1.heap.size) #[] #[]]++b')) w3:=by
   intro w3
   simp only[resolve,hfe2,Deferred.ofValue,Sem.run_bind,Sem.run_pure,Result.andThen_ok,invoke,bodyOk_run hbo]
   simp[Frame.eval]
  have hcall':=hcall w2
  simp only[mkF]at hcall'
  simp[stepG,stepG.exec,mkF,hel,stepG.apply,hcall']
 have hT:Top P ((ι.up s.nx ⟨w.heap.size,0,0⟩).up s1.nx ⟨w1.heap.size,0,0⟩) (s1.push (.loop .ready none fn nt g ps asg body s.nx)) ⟨[],[],some false,none⟩ (s1.nx+1) n
  (Frame.enter P fi (a'++ #[Value.func (.yield w1.heap.size) #[] #[]]++b') .normal):=enter_ok (by rw[←hnx];exact hen) hargs _ _
 have hcal:=h.cal.mono hF.fut
 refine⟨_,s1.nx+1,_,n,_,_,_,w2,rfl,.one hst,⟨.call hcal (by omega) ?_,hT,hS2,by rw[S.push_nx];omega,by rw[S.push_nx,S.push_lo];omega,h.ini.fm hF⟩,hF.weaken h.cal.le⟩
 intro ι2 s2 hfut
 have hxx:Ext ι ι2:=hF.ext.trans hfut.ext
 have hcoll:DefRel ι2 (.coll s.nx) { target:= .collected w.heap.size,args:= #[] } := .coll (l:=⟨w.heap.size,0,0⟩) (hfut.ext _ _ (hx2 _ _ (Inj.up_self _ _ _)))
 have hl:ι2 s1.nx=some ⟨w1.heap.size,0,0⟩:=hfut.ext _ _ (Inj.up_self _ _ _)
 refine⟨fun v v' c1 hv hfi=>?_,fun ch ch' hch=>?_⟩
 ·simp only[finish,Option.some.injEq]at hfi
  subst hfi
  exact⟨rfl,h.func,.none,h.rk,h.kind,h.size,.cons hcoll (h.defers.mono hxx),.run,fun _=> .plain (ht.mono hxx) (.cons (.endRF (b:=⟨w1.heap.size,0,0⟩) hl) (hk.mono hxx)),fun x=>absurd rfl x⟩
 ·rw[raise_run]
  exact⟨rfl,h.func,.none,h.rk,h.kind,h.size,.cons hcoll (h.defers.mono hxx),.pan hch,nofun,fun _=>ht.mono hxx⟩
end
end
end Go.AM

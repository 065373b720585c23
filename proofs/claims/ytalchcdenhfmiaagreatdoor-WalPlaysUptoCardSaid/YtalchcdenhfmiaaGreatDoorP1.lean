/- Part 1 of the proof, over the abstract machine: contracts of the functions that the statement reaches, joined out of several texts. Condition: none beyond those that the lemmas name. -/
import Derived.Test.YtalchcdenhfmiaaGreatDoorP0
import Derived.Test.YtalchcdenhfmiaaGreatDoorChecked
import Derived.KernelRfl
import Derived.IntWalk
import Derived.Below
import Derived.Sort.KeysCollected
import Derived.Shelf.SlIter.Nil
import Derived.Shelf.SortM.Plain
import Derived.Shelf.SortM.SortNone
import Derived.Ground.GgzProg
import Derived.Ground.SlgmProg
import Derived.Test.YtalchcdenhfmiaaGreatDoorRows
import Derived.Lib.LaidTab
import Derived.Ground.SlmcProg
import Derived.WalkKit
import Derived.Shelf.Lay
import Derived.Shelf.SlMaps.Clone
namespace Go.Proofs.YtalchcdenhfmiaaGreatDoor.E
open Go Go.Proofs
section
set_option maxRecDepth 4000
noncomputable abbrev E0:=envOf Tryz.prog
theorem ty3:E0.ty 3=some ⟨.int .i64,1,8,some (.int .i64 0)⟩:=by kernel_rfl
theorem ty4:E0.ty 4=some ⟨.bool,1,1,some (.bool false)⟩:=by kernel_rfl
theorem ty101:E0.ty 105=some ⟨.map 9 104,1,8,some (.map none)⟩:=by kernel_rfl
theorem ty28:E0.ty 22=some ⟨.slice 5,1,24,some (.slice none 0 0)⟩:=by kernel_rfl
theorem ty105:(E0.ty 104)=some ⟨.struct
      #[{ name:= "data",type:=22,offset:=0,embedded:=false,tag:= "",pkgPath:= "escritoire/files",
          byteOffset:=0},
        { name:= "last",type:=3,offset:=1,embedded:=false,tag:= "",pkgPath:= "escritoire/files",
          byteOffset:=24}],2,32,some (.agg #[.slice none 0 0,.int .i64 0])⟩:=by kernel_rfl
theorem ty103:(E0.ty 107)=some ⟨.struct
      #[{ name:= "files",type:=105,offset:=0,embedded:=false,tag:= "",pkgPath:= "escritoire/files",
          byteOffset:=0},
        { name:= "quota",type:=3,offset:=1,embedded:=false,tag:= "",pkgPath:= "escritoire/files",
          byteOffset:=8},
        { name:= "fuse",type:=3,offset:=2,embedded:=false,tag:= "",pkgPath:= "escritoire/files",
          byteOffset:=16},
        { name:= "off",type:=4,offset:=3,embedded:=false,tag:= "",pkgPath:= "escritoire/files",
          byteOffset:=24}],4,32,some (.agg #[.map none,.int .i64 0,.int .i64 0,.bool false])⟩:=by kernel_rfl
theorem ty41:E0.ty 38=some ⟨.pointer 107,1,8,some (.pointer none)⟩:=by kernel_rfl
theorem zero105:zeroA E0 104=some [.nils,.val (.int .i64 0)]:=by kernel_rfl
theorem size105:tySize E0 104=some 2:=by kernel_rfl
theorem size28:tySize E0 22=some 1:=by kernel_rfl
end
section
set_option maxRecDepth 4000
def lenV:AV→Nat| .sl _ _ _ l _=>l| .imm _ l _ _=>l|_=>0
def isSlice:AV→Bool| .nils| .sl .. | .imm .. =>true|_=>false
def okFile:AV→Bool| .agg [a,_]=>isSlice a|_=>false
def lenFile:AV→Nat| .agg (a::_)=>lenV a|_=>0
theorem sum_filter(f:Nat→Nat)(p:Nat→Bool)(i:Nat):∀(l:List Nat),l.Nodup→i∈l.filter p→((l.filter p).map f).sum=f i+((l.filter fun x=>p x&& !(x==i)).map f).sum
 | [],_,h=>by simp at h
 |a::r,hn,h=>by
  obtain ⟨h1,h2⟩:=List.nodup_cons.1 hn
  by_cases ha:a=i
  ·subst ha
   have hp:p a=true:=(List.mem_filter.1 h).2
   have hr:(r.filter fun x=>p x&& !(x==a))=r.filter p:=by
    apply List.filter_congr
    intro x hx
    have:x≠a:=fun e=>h1 (e▸hx)
    simp [this]
   simp [hp,hr]
  ·have hi:i∈r.filter p:=by
    obtain ⟨m1,m2⟩:=List.mem_filter.1 h
    refine List.mem_filter.2 ⟨?_,m2⟩
    rcases List.mem_cons.1 m1 with e|e
    ·exact absurd e.symm ha
    ·exact e
   have ih:=sum_filter f p i r h2 hi
   by_cases hp:p a=true
   ·simp [hp,ha,ih];omega
   ·simp [hp,ih]
theorem getD_inj{bs:List Nat}(hn:bs.Nodup){i j:Nat}(hi:i<bs.length)(hj:j<bs.length)(h:bs.getD i 0=bs.getD j 0):i=j:=by
 simp only [List.getD_eq_getElem?_getD,List.getElem?_eq_getElem hi,List.getElem?_eq_getElem hj,Option.getD_some] at h
 have hp:=List.pairwise_iff_getElem.1 hn
 rcases Nat.lt_trichotomy i j with hlt|he|hlt
 ·exact absurd h (hp i j hi hj hlt)
 ·exact he
 ·exact absurd h.symm (hp j i hj hi hlt)
theorem filter_sing{i:Nat}:∀(l:List Nat),l.Nodup→i∈l→(l.filter fun j=>j==i)= [i]
 | [],_,h=>by simp at h
 |a::r,hn,h=>by
  obtain ⟨h1,h2⟩:=List.nodup_cons.1 hn
  by_cases ha:a=i
  ·subst ha
   have:(r.filter fun j=>j==a)= []:=by
    rw [List.filter_eq_nil_iff]
    intro x hx
    have:x≠a:=fun e=>h1 (e▸hx)
    simpa using this
   simp [this]
  ·rcases List.mem_cons.1 h with e|e
   ·exact absurd e.symm ha
   ·simp [ha,filter_sing r h2 e]
theorem toCome_snoc{bs seen:List Nat}(hn:bs.Nodup){i:Nat}(hi:i<bs.length):toCome bs (seen++ [bs.getD i 0])=(List.range bs.length).filter fun x=>(!seen.contains (bs.getD x 0))&& !(x==i):=by
 unfold toCome
 apply List.filter_congr
 intro x hx
 have hx':=List.mem_range.1 hx
 have:(bs.getD x 0==bs.getD i 0)=(x==i):=by
  by_cases e:x=i
  ·subst e;simp
  ·have:bs.getD x 0≠bs.getD i 0:=fun h=>e (getD_inj hn hx' hi h)
   rw [beq_eq_false_iff_ne.2 this,beq_eq_false_iff_ne.2 e]
 rw [List.contains_append]
 simp only [Bool.not_or,List.contains_cons,List.contains_nil,Bool.or_false,this]
theorem toCome_sum{bs seen:List Nat}(hn:bs.Nodup){i:Nat}(hi:i∈toCome bs seen)(f:Nat→Nat):((toCome bs seen).map f).sum=f i+((toCome bs (seen++ [bs.getD i 0])).map f).sum:=by
 have hil:i<bs.length:=List.mem_range.1 (List.mem_filter.1 hi).1
 rw [toCome_snoc hn hil]
 exact sum_filter f _ i _ List.nodup_range hi
theorem filter_one{bs:List Nat}(hn:bs.Nodup){i:Nat}(hi:i<bs.length):((List.range bs.length).filter fun j=>some (bs.getD j 0)==some (bs.getD i 0))= [i]:=by
 have h1:((List.range bs.length).filter fun j=>some (bs.getD j 0)==some (bs.getD i 0))=(List.range bs.length).filter fun j=>j==i:=by
  apply List.filter_congr
  intro x hx
  have hx':=List.mem_range.1 hx
  by_cases e:x=i
  ·subst e;simp
  ·have:bs.getD x 0≠bs.getD i 0:=fun h=>e (getD_inj hn hx' hi h)
   rw [beq_eq_false_iff_ne.2 e,beq_eq_false_iff_ne]
   intro h;exact this (by injection h)
 rw [h1]
 have:=List.nodup_range (n:=bs.length)
 have hm:i∈List.range bs.length:=List.mem_range.2 hi
 exact filter_sing _ this hm
end
section
set_option maxRecDepth 4000
def valI(s:Sem Value):Int:=match s with| .pure (.int _ n)=>n|_=>0
def crcBit(n:Int):Int:=valI (Op.intBits .xor .u32 (valI (Op.shift .shr .u32 n .u64 1)) (valI (Op.intBits .and .u32 3988292384 (valI (Op.intArith .sub .u32 0 (valI (Op.intBits .and .u32 n 1)))))))
def iter8(f:Int→Int):Nat→Int→Int
 |0,n=>n
 |k+1,n=>iter8 f k (f n)
def crcByte(n x:Int):Int:=iter8 crcBit 8 (valI (Op.intBits .xor .u32 n (IntKind.u32.wrap x)))
def crcMore(c:Int)(xs:List Int):Int:=valI (Op.intBits .xor .u32 IntKind.u32.max (xs.foldl crcByte (valI (Op.intBits .xor .u32 IntKind.u32.max c))))
theorem ty88:E0.ty 80=some ⟨.int .u32,1,4,some (.int .u32 0)⟩:=by kernel_rfl
theorem ty5:E0.ty 5=some ⟨.int .u8,1,1,some (.int .u8 0)⟩:=by kernel_rfl
theorem b_xor(a b:Int):binA E0 .xor 80 (.val (.int .u32 a)) (.val (.int .u32 b))=some (.val (.int .u32 (valI (Op.intBits .xor .u32 a b)))):=rfl
theorem b_and(a b:Int):binA E0 .and 80 (.val (.int .u32 a)) (.val (.int .u32 b))=some (.val (.int .u32 (valI (Op.intBits .and .u32 a b)))):=rfl
theorem b_shr(a:Int):binA E0 .shr 80 (.val (.int .u32 a)) (.val (.int .u64 1))=some (.val (.int .u32 (valI (Op.shift .shr .u32 a .u64 1)))):=rfl
theorem u_neg(a:Int):pureVal (Op.unary .neg (.int .u32 a))=some (.val (.int .u32 (valI (Op.intArith .sub .u32 0 a)))):=rfl
theorem u_xor(a:Int):pureVal (Op.unary .xor (.int .u32 a))=some (.val (.int .u32 (valI (Op.intBits .xor .u32 IntKind.u32.max a)))):=rfl
theorem b_lss(a b:Int):binA E0 .lss 3 (.val (.int .i64 a)) (.val (.int .i64 b))=some (.val (.bool (decide (a<b)))):=rfl
theorem b_add(a b:Nat)(h:a+b<9223372036854775807):binA E0 .add 3 (.val (.int .i64 a)) (.val (.int .i64 b))=some (.val (.int .i64 ((a+b:Nat):Int))):=by
 have:binA E0 .add 3 (.val (.int .i64 a)) (.val (.int .i64 b))=some (.val (.int .i64 (IntKind.i64.wrap ((a:Int)+(b:Int))))):=rfl
 rw [this,IntWalk.i64_in _ (by omega)]
 simp
end
section
set_option maxRecDepth 4000
theorem used(d m:Nat)(st:St)(ty:TypeId)(rest:List AV)(es:List (AV×AV))(bs:List Nat)(clock:Nat)(hd:st.get d=some (.row (.mp m::rest) ty))(hm:st.get m=some (.map es bs clock))
   (f:Nat→Nat) (tot:Nat) (hf:∀i,f i=lenFile (es.getD i default).2) (hT:((List.range bs.length).map f).sum=tot)
   (hn:bs.Nodup) (hb:(bs.all fun b=>decide (b<clock))=true) (hlen:es.length=bs.length) (hok:∀i,i<bs.length→okFile (es.getD i default).2=true) (hl:∀i∈st.lock,i<st.next)
   (htot:tot<1000000000):
   ACalls Tryz.prog 65 [.ptr d 0] (fun r st'=>(r,st')=(.val (.int .i64 (tot:Nat)),{st with next:=st.next+1+bs.length})) st:=by
  refine ACalls.wf fun hwf=> ?_
  have hE:=envOf_ok (P:=Tryz.prog) rfl
  refine ACalls.forget (Q:=fun r st'=>r= .val (.int .i64 (tot:Nat))∧(∀id o,st.get id=some o→st'.get id=some o)∧st'.next=st.next+1+bs.length∧st'.lock=st.lock) ?_ ?_
  · refine ACalls.body (E:=E0) hE Tryz.func65 rfl ?_
    have step:∀{id:Nat} {ops:Array Oper} {y:Code} {Q:Exit→Tm→St→Prop} {T:Tm} {st:St},AOps Tryz.prog E0 ops (thenA (AW Tryz.prog y Q) Q) ops.toList T st→AW Tryz.prog (.seq (.region id ops false) y) Q T st:=fun h=> .seq (.region hE h)
    have f26:Tryz.f65.ntmps=23:=rfl
    refine step ?_
    simp [AOps,wantedA,evOp,pureA,Tm.eval,cv,cv0,thenA,enterT,zipT,Tm.fits]
    refine step ?_
    simp [AOps,wantedA,evOp,pureA,Tm.eval,cv,cv0,thenA,Tm.fits,Tm.put]
    refine .seq (.seq (.region hE ?_))
    simp [AOps,wantedA,evOp,pureA,Tm.eval,cv,cv0,thenA,Tm.fits,Tm.put,Tm.get,E.look,binA,ty41,nilOf]
    refine .cond (b:=true) rfl ?_
    simp only [if_true]
    refine step ?_
    simp [AOps,wantedA,evOp,pureA,Tm.eval,thenA,Tm.fits,Tm.put,Tm.get,E.look,fieldAddrA,ty103,tySize,ty101,loadA,hd,partA,isAggD,rangeA,hm]
    refine .block (.loop (fun n T' st'=>∃seen:List Nat,n=(toCome bs seen).length∧T'.n=23∧T'.get 12= .ptr st.next 0∧
        (∃x:Nat,T'.get 3= .val (.int .i64 x)∧x+((toCome bs seen).map f).sum=tot)∧
        st'.get st.next=some (.iter m clock seen clock)∧(∀id o,st.get id=some o→st'.get id=some o)∧st'.next+(toCome bs seen).length=st.next+1+bs.length∧st'.lock=st.lock) bs.length ?_ ?_)
    · have htc:toCome bs []=List.range bs.length:=by simp [toCome]
      refine ⟨[],by rw [htc];simp,rfl,rfl,⟨0,rfl,by rw [htc,hT];simp⟩,?_,fun id o ho=> ?_,by rw [htc];simp,rfl⟩
      · rw [St.get_push,if_pos rfl]
      · rw [St.get_push,if_neg]
        · exact ho
        · have:=hwf id o ho;omega
    · rintro n T' st' ⟨seen,rfl,hTn,hT12,⟨x,hT3,hx⟩,hit,hkeep,hnx,hlk⟩
      have hw:st'.wget st.next=some (.iter m clock seen clock):=St.wget_of hit (by rw [hlk];intro h;exact Nat.lt_irrefl _ (hl _ h))
      have hm':=hkeep _ _ hm
      have hmne:m≠st.next:=by have:=hwf m _ hm;omega
      refine step ?_
      simp only [AOps,wantedA,evOp,pureA,Tm.eval,hT12,nextA,hw,hm',hb,hlen,Nat.le_refl,and_self,if_true]
      cases htc:toCome bs seen with
      |nil=>
        simp [Tm.fits,thenA,hTn]
        refine .seq (.cond (b:=false) rfl ?_)
        simp only [Bool.false_eq_true,if_false]
        refine .exit ?_
        simp only [thenA,blockA,if_true]
        refine step ?_
        rw [htc] at hx hnx
        simp only [List.map_nil,List.sum_nil,Nat.add_zero,List.length_nil] at hx hnx
        simp [AOps,wantedA,evOp,pureA,Tm.eval,Tm.fits,thenA,hTn,hT3]
        refine .ret ?_
        refine ⟨[.val (.int .i64 x)],rfl,?_,hkeep,hnx,hlk⟩
        subst hx
        rfl
      |cons i0 r0=>
        simp only []
        refine ⟨by simp [Tm.fits,hTn],fun q hq=> ?_⟩
        rw [←htc] at hq⊢
        obtain ⟨i,hi,rfl⟩:=List.mem_map.1 hq
        have hil:i<bs.length:=List.mem_range.1 (List.mem_filter.1 hi).1
        have hsum:=toCome_sum hn hi f
        have hcnt:=toCome_sum hn hi (fun _=>1)
        simp only [List.map_const',List.sum_replicate_nat,Nat.mul_one] at hcnt
        have hfi:=hf i
        have hoki:=hok i hil
        generalize hbi:bs.getD i 0=b at*
        generalize hei:es.getD i default=e at*
        obtain ⟨ek,ev⟩:=e
        simp only at hfi hoki
        match ev,hoki with
        | .agg [a,c],hoki=>
        simp [Tm.fits,thenA,hTn]
        refine .seq (.cond (b:=true) rfl ?_)
        simp only [if_true]
        refine .skip ?_
        simp only [thenA]
        have hlast:(List.filter (fun i=>bs.getD i 0==b) (List.range bs.length))= [i]:=by
          rw [←hbi]
          have:=filter_one hn hil
          simpa [-List.getD_eq_getElem?_getD] using this
        refine .block (step ?_)
        have hlt:st.next<st'.next:=by have:=List.length_filter_le (fun i=> !seen.contains (bs.getD i 0)) (List.range bs.length);simp only [List.length_range] at this;unfold toCome at hnx;omega
        have hnl:st'.next∉st.lock:=fun h=>by have:=hl _ h;omega
        have hwn:∀o,((st'.set st.next (.iter m clock (seen++ [b]) clock)).push o).wget st'.next=some o:=fun o=>by
          apply St.wget_of
          · rw [St.get_push,St.next_set,if_pos rfl]
          · rw [St.lock_push,St.lock_set,hlk];exact hnl
        simp [-List.getD_eq_getElem?_getD,AOps,wantedA,evOp,pureA,Tm.eval,Tm.fits,thenA,hTn,hT12,entryA,St.get_set,hmne,hm',hlen,hlast,hei,allocA,zero105,storeA,avCells,hwn,size105]
        refine .region hE ?_
        have hla:lenA E0 22 a=some (.val (.int .i64 (lenV a:Nat))):=by
          simp only [okFile] at hoki
          unfold lenA
          rw [ty28]
          cases a<;>first|rfl|cases hoki
        have hbin:binA E0 .add 3 (.val (.int .i64 x)) (.val (.int .i64 (lenV a:Nat)))=some (.val (.int .i64 ((x+lenV a:Nat):Int))):=by
          have hxx:x+lenV a≤tot:=by
            have:f i=lenV a:=hfi
            omega
          have:binA E0 .add 3 (.val (.int .i64 x)) (.val (.int .i64 (lenV a:Nat)))=some (.val (.int .i64 (IntKind.i64.wrap ((x:Int)+(lenV a:Nat))))):=rfl
          rw [this,IntWalk.i64_in _ (by omega)]
          simp
        simp [-List.getD_eq_getElem?_getD,AOps,wantedA,evOp,pureA,Tm.eval,Tm.fits,hTn,hT3,fieldAddrA,ty105,size28,loadA,St.get_set,partA,ty28,isAggD,hla,hbin]
        simp only [blockA,thenA]
        refine ⟨(toCome bs (seen++ [b])).length,by omega,seen++ [b],rfl,by simp [hTn],by simp [hT12],⟨x+lenV a,by simp,?_⟩,?_,fun id o ho=> ?_,?_,by simp [hlk]⟩
        · have:f i=lenV a:=hfi
          omega
        · rw [St.get_set,if_neg (by omega),St.get_push,St.next_set,if_neg (by omega),St.get_set,if_pos rfl]
        · have h1:=hwf id o ho
          rw [St.get_set,if_neg (by omega),St.get_push,St.next_set,if_neg (by omega),St.get_set,if_neg (by omega)]
          exact hkeep id o ho
        · simp only [St.next_set,St.next_push]
          omega
  · rintro r st' ⟨rfl,h1,h2,h3⟩ hgl
    exact ⟨_,rfl,h1,h2.symm,h3.symm,hgl.symm⟩
theorem crcMore_ok(c:Int)(id sz off len:Nat)(full:Bool)(st:St)(vs:List AV)(ty:TypeId)(xs:List Int)(hsz:sz=1)(hg:st.get id=some (.row vs ty))(hlen:len=xs.length)(hl0:len<1000000000)
  (hxs:∀i,i<len→vs[off+i]? =some (.val (.int .u8 (xs.getD i 0)))):
  ACalls Tryz.prog 83 [.val (.int .u32 c),.sl id sz off len full] (fun r st'=>(r,st')=(.val (.int .u32 (crcMore c xs)),st)) st:=by
 subst hsz
 have hE:=envOf_ok (P:=Tryz.prog) rfl
 refine ACalls.body (E:=E0) hE Tryz.func83 rfl ?_
 have step:∀{id:Nat} {ops:Array Oper} {y:Code} {Q:Exit→Tm→St→Prop} {T:Tm} {st:St},AOps Tryz.prog E0 ops (thenA (AW Tryz.prog y Q) Q) ops.toList T st→AW Tryz.prog (.seq (.region id ops false) y) Q T st:=fun h=> .seq (.region hE h)
 have f81:Tryz.f83.ntmps=33:=rfl
 have hla:lenA E0 22 (.sl id 1 off len full)=some (.val (.int .i64 (len:Nat))):=by
  unfold lenA;rw [ty28]
 refine step ?_
 simp [AOps,wantedA,evOp,pureA,Tm.eval,cv,cv0,thenA,enterT,zipT,Tm.fits]
 refine step ?_
 simp [AOps,wantedA,evOp,pureA,Tm.eval,thenA,Tm.fits,Tm.put,Tm.get,E.look,u_xor]
 refine .seq (step ?_)
 simp [AOps,wantedA,evOp,pureA,Tm.eval,cv,cv0,thenA,Tm.fits,Tm.put,Tm.get,E.look,hla]
 refine .block (.loop (fun n T' st'=>st'=st∧T'.n=33∧T'.get 10= .sl id 1 off len full∧T'.get 11= .val (.int .i64 (len:Nat))∧
   ∃k:Nat,k≤len∧n=len- k∧T'.get 12= .val (.int .i64 (k:Nat))∧T'.get 5= .val (.int .u32 ((xs.take k).foldl crcByte (valI (Op.intBits .xor .u32 IntKind.u32.max c))))) len ?_ ?_)
 ·exact ⟨rfl,rfl,rfl,rfl,0,Nat.zero_le _,rfl,rfl,rfl⟩
 ·rintro n T' st' ⟨rfl,hTn,hT10,hT11,k,hk,rfl,hT12,hT5⟩
  refine step ?_
  simp [AOps,wantedA,evOp,pureA,Tm.eval,hT12,hT11,b_lss,Tm.fits,hTn,thenA]
  by_cases hlt:k<len
  ·refine .seq (.cond (b:=true) (by simp [Tm.eval,hlt]) ?_)
   simp only [if_true]
   refine .skip ?_
   simp only [thenA]
   have hx:=hxs k hlt
   refine .seq (.block (step ?_))
   have hload:loadA E0 st' 5 (.ptr id (off+k))=some (.val (.int .u8 (xs.getD k 0))):=by
    simp only [loadA,hg,partA,ty5,isAggD]
    exact hx
   simp [-List.getD_eq_getElem?_getD,AOps,wantedA,evOp,pureA,Tm.eval,hT12,hT10,Tm.fits,hTn,thenA,indexAddrA,ty28,tySize,ty5,hlt,hload]
   refine step ?_
   simp [-List.getD_eq_getElem?_getD,AOps,wantedA,evOp,pureA,Tm.eval,hT5,Tm.fits,hTn,thenA,ty5,ty88,b_xor]
   refine step ?_
   simp [-List.getD_eq_getElem?_getD,AOps,wantedA,evOp,pureA,Tm.eval,cv,cv0,Tm.fits,hTn,thenA]
   generalize hnk:(List.foldl crcByte (valI (Op.intBits BinOp.xor IntKind.u32 IntKind.u32.max c)) (List.take k xs))=nk
   refine .block (.loop (fun m T2 st2=>st2=st'∧T2.n=33∧T2.get 10= .sl id 1 off len full∧T2.get 11= .val (.int .i64 (len:Nat))∧T2.get 12= .val (.int .i64 (k:Nat))∧
    ∃(v:Int) (j:Nat),j≤8∧m=8- j∧T2.get 20= .val (.int .i64 (j:Nat))∧T2.get 5= .val (.int .u32 v)∧iter8 crcBit (8- j) v=crcByte nk (xs.getD k 0)) 8 ?_ ?_)
   ·exact ⟨rfl,hTn,hT10,hT11,hT12,_,0,by omega,rfl,rfl,rfl,rfl⟩
   ·rintro m T2 st2 ⟨rfl,hn2,h10,h11,h12,v,j,hj,rfl,h20,h5,hit⟩
    refine step ?_
    simp [-List.getD_eq_getElem?_getD,AOps,wantedA,evOp,pureA,Tm.eval,cv,cv0,h20,b_lss,Tm.fits,hn2,thenA]
    by_cases hj8:j<8
    ·refine .seq (.cond (b:=true) (by simp [Tm.eval];omega) ?_)
     simp only [if_true]
     refine .skip ?_
     simp only [thenA]
     refine .seq (.block (.region hE ?_))
     simp [-List.getD_eq_getElem?_getD,AOps,wantedA,evOp,pureA,Tm.eval,cv,cv0,h5,b_xor,b_and,b_shr,u_neg,Tm.fits,hn2,thenA,blockA]
     refine .region hE ?_
     have hadd:binA E0 .add 3 (.val (.int .i64 (j:Nat))) (.val (.int .i64 1))=some (.val (.int .i64 ((j+1:Nat):Int))):=b_add j 1 (by omega)
     simp [-List.getD_eq_getElem?_getD,-Int.natCast_add,AOps,wantedA,evOp,pureA,Tm.eval,cv,cv0,h20,hadd,Tm.fits,hn2,thenA]
     refine ⟨8- (j+1),by omega,h10,h11,h12,_,j+1,by omega,rfl,by simp,rfl,?_⟩
     rw [←hit,show 8- j=(8- (j+1))+1 by omega]
     rfl
    ·refine .seq (.cond (b:=false) (by simp [Tm.eval];omega) ?_)
     simp only [Bool.false_eq_true,if_false]
     refine .exit ?_
     obtain rfl:j=8:=by omega
     simp only [Nat.sub_self,iter8] at hit
     simp only [thenA,blockA,if_true]
     refine .region hE ?_
     have hadd:binA E0 .add 3 (.val (.int .i64 (k:Nat))) (.val (.int .i64 1))=some (.val (.int .i64 ((k+1:Nat):Int))):=b_add k 1 (by omega)
     simp [-List.getD_eq_getElem?_getD,-Int.natCast_add,AOps,wantedA,evOp,pureA,Tm.eval,cv,cv0,h12,hadd,Tm.fits,hn2,thenA]
     refine ⟨len- (k+1),by omega,h10,h11,k+1,by omega,rfl,by simp,?_⟩
     rw [h5,hit,List.take_add_one,List.foldl_append,hnk]
     rw [List.getD_eq_getElem?_getD]
     have:k<xs.length:=by omega
     rw [List.getElem?_eq_getElem this]
     rfl
  ·refine .seq (.cond (b:=false) (by simp [Tm.eval,hlt]) ?_)
   simp only [Bool.false_eq_true,if_false]
   refine .exit ?_
   simp only [thenA,blockA,if_true]
   obtain rfl:k=len:=by omega
   refine step ?_
   simp [AOps,wantedA,evOp,pureA,Tm.eval,Tm.fits,thenA,hTn,hT5,u_xor]
   refine .ret ?_
   refine ⟨[_],rfl,?_⟩
   simp only [oneOrTup]
   have:xs.take k=xs:=by rw [hlen];exact List.take_length
   rw [this]
   exact ⟨rfl,trivial⟩
def usedOv(args:List AV)(st:St):Option (AV×St):=
 match args with
 | [.ptr d 0]=>match st.get d with
  |some (.row (.mp m::_) _)=>match st.get m with
   |some (.map es bs clock)=>
    if bs.Nodup∧(bs.all fun b=>decide (b<clock))=true∧es.length=bs.length∧((List.range bs.length).all fun i=>okFile (es.getD i default).2)=true∧(st.lock.all fun i=>decide (i<st.next))=true∧
     ((List.range bs.length).map fun i=>lenFile (es.getD i default).2).sum<1000000000 then
     some (.val (.int .i64 (((List.range bs.length).map fun i=>lenFile (es.getD i default).2).sum:Nat)),{st with next:=st.next+1+bs.length}) else none
   |_=>none
  |_=>none
 |_=>none
theorem usedOv_ok{args:List AV}{st:St}{r:AV×St}(h:usedOv args st=some r):ACalls Tryz.prog 65 args (fun a st'=>(a,st')=r) st:=by
 unfold usedOv at h
 split at h
 ·rename_i d
  split at h
  ·rename_i m rest ty hd
   split at h
   ·rename_i es bs clock hm
    split at h
    ·rename_i hc
     cases h
     obtain ⟨h1,h2,h3,h4,h5,h6⟩:=hc
     exact used d m st ty rest es bs clock hd hm (fun i=>lenFile (es.getD i default).2) _ (fun _=>rfl) rfl h1 h2 h3 (fun i hi=>by simpa [-List.getD_eq_getElem?_getD] using List.all_eq_true.1 h4 i (List.mem_range.2 hi))
      (fun i hi=>by simpa using List.all_eq_true.1 h5 i hi) h6
    ·cases h
   ·cases h
  ·cases h
 ·cases h
def bytesOf:List AV→Option (List Int)
 | []=>some []
 | .val (.int .u8 x)::r=>(bytesOf r).map (x:: ·)
 |_=>none
theorem bytesOf_at:∀{l:List AV} {xs:List Int},bytesOf l=some xs→l.length=xs.length∧∀i,i<l.length→l[i]? =some (.val (.int .u8 (xs.getD i 0)))
 | [],xs,h=>by simp only [bytesOf,Option.some.injEq] at h;subst h;exact ⟨rfl,fun i hi=>by simp at hi⟩
 |a::r,xs,h=>by
  unfold bytesOf at h
  split at h
  ·simp at*
  ·rename_i x r' heq
   cases heq
   obtain ⟨ys,hy,rfl⟩:=Option.map_eq_some_iff.1 h
   obtain ⟨h1,h2⟩:=bytesOf_at hy
   refine ⟨by simp [h1],fun i hi=> ?_⟩
   cases i with
   |zero=>simp
   |succ i=>
    have:=h2 i (by simpa using hi)
    simpa using this
  ·cases h
def strictFold:List Int→Int→Int
 | [],n=>n
 |x::r,n=>if crcByte n x=0 then strictFold r 0 else strictFold r (crcByte n x)
theorem strictFold_eq:∀(xs:List Int) (n:Int),strictFold xs n=xs.foldl crcByte n
 | [],_=>rfl
 |x::r,n=>by
  simp only [strictFold,List.foldl_cons]
  split
  ·rename_i h;rw [strictFold_eq r,h]
  ·exact strictFold_eq r _
def crcMoreS(c:Int)(xs:List Int):Int:=valI (Op.intBits .xor .u32 IntKind.u32.max (strictFold xs (valI (Op.intBits .xor .u32 IntKind.u32.max c))))
def crcOv(args:List AV)(st:St):Option (AV×St):=
 match args with
 | [.val (.int .u32 c),.sl id sz off len _]=>match st.get id with
  |some (.row vs _)=>match bytesOf ((vs.drop off).take len) with
   |some xs=>if sz=1∧xs.length=len∧len<1000000000 then some (.val (.int .u32 (crcMoreS c xs)),st) else none
   |none=>none
  |_=>none
 |_=>none
theorem crcOv_ok{args:List AV}{st:St}{r:AV×St}(h:crcOv args st=some r):ACalls Tryz.prog 83 args (fun a st'=>(a,st')=r) st:=by
 unfold crcOv at h
 split at h
 ·rename_i c id sz off len full
  split at h
  ·rename_i vs ty hg
   split at h
   ·rename_i xs hb
    split at h
    ·rename_i hc
     cases h
     obtain ⟨h1,h2,h3⟩:=hc
     obtain ⟨k1,k2⟩:=bytesOf_at hb
     have e:crcMoreS c xs=crcMore c xs:=by unfold crcMoreS crcMore;rw [strictFold_eq]
     rw [e]
     refine crcMore_ok c id sz off len full st vs ty xs h1 hg h2.symm h3 fun i hi=> ?_
     have:=k2 i (by omega)
     rw [List.getElem?_take,if_pos hi,List.getElem?_drop] at this
     exact this
    ·cases h
   ·cases h
  ·cases h
 ·cases h
def ovK:Ov:=fun f args st=>if f=65 then usedOv args st else if f=83 then crcOv args st else none
theorem ovK_ok:∀f args st r,ovK f args st=some r→ACalls Tryz.prog f args (fun a st'=>(a,st')=r) st:=by
 intro f args st r h
 unfold ovK at h
 split at h
 ·rename_i hf;subst hf;exact usedOv_ok h
 ·split at h
  ·rename_i hf;subst hf;exact crcOv_ok h
  ·cases h
def st00:St:=⟨0,.nil,[],[]⟩
end
section
set_option maxRecDepth 4000
open Go
theorem step_below_row{g:G}{st:St}{w w':World}(h:OK g st w)(hb:RowKit.Below w.heap.size w w'){B:Nat}(hB:w.heap.size≤B){cur:Array Value}{ty:TypeId}(hc:w'.heap[B]? =some (.cells cur ty (0,0))){vs:List AV}{us:List Value}
  (hv:VRs g vs us) (h1:∀u∈us,u.oneCell'=true) (hp:us<+:cur.toList):Step g st w (g.add B 0 cur.size) (st.push (.row vs ty)) w':=by
 have hle:=g.le_add B 0 cur.size
 refine ⟨hle,⟨fun b hb'=> ?_,fun id o' hg=> ?_,fun id o1 id' o2 h1 h2 he=> ?_,fun id o' hg=> ?_,by simp [h.n],fun p hp=>(h.glob p hp).mono hle⟩,hb.os,hb.tape,hb.output,hb.size,fun b hb' _=>hb.block b hb',fun id o' hg hlt=> ?_,fun _ _ _=>rfl,rfl,rfl⟩
 ·obtain ⟨cs,T,fr,k1,k2⟩:=h.imm b hb'
  exact ⟨cs,T,fr,by rw [hb.block b (h.immlt hb')];exact k1,k2⟩
 ·rw [St.get_push] at hg
  split at hg
  ·rename_i e
   cases hg
   subst e
   refine ⟨Nat.lt_succ_self _,?_⟩
   rw [←h.n]
   exact ⟨cur,(0,0),us,by rw [G.add_blk];exact hc,by simp,hv.mono hle,h1,by simpa using hp,.inl rfl⟩
  ·obtain ⟨h1,h2⟩:=h.obj id o' hg
   exact ⟨Nat.lt_succ_of_lt h1,h2.keep hle (h.lt hg).1 (hb.block _ (h.lt hg).2)⟩
 ·rw [St.get_push] at h1 h2
  rw [←h.n] at h1 h2
  split at h1<;>split at h2
  ·rename_i a b;exact a.trans b.symm
  ·rename_i a b
   subst a
   rw [G.add_blk,hle.blk id' (h.lt h2).1] at he
   have:=(h.lt h2).2
   omega
  ·rename_i a b
   subst b
   rw [G.add_blk,hle.blk id (h.lt h1).1] at he
   have:=(h.lt h1).2
   omega
  ·rw [hle.blk id (h.lt h1).1,hle.blk id' (h.lt h2).1] at he
   exact h.inj id o1 id' o2 h1 h2 he
 ·rw [St.get_push,←h.n] at hg
  split at hg
  ·rename_i e
   subst e
   rw [G.add_blk,G.add_M]
   by_cases hM:g.M B= []
   ·exact hM
   ·exact absurd (h.immlt hM) (by omega)
  ·rw [hle.blk id (h.lt hg).1]
   exact h.sep id o' hg
 ·rw [St.get_push,←h.n] at hg
  split at hg
  ·rename_i e
   subst e
   rw [G.add_blk] at hlt
   omega
  ·exact ⟨id,o',hg,(hle.blk id (h.lt hg).1).symm,fun _=>⟨rfl,rfl⟩⟩
theorem step_below{g:G}{st:St}{w w':World}(h:OK g st w)(hb:RowKit.Below w.heap.size w w'):Step g st w g st w':=
 ⟨.refl g,⟨fun b hb'=>by
   obtain ⟨cs,T,fr,k1,k2⟩:=h.imm b hb'
   exact ⟨cs,T,fr,by rw [hb.block b (h.immlt hb')];exact k1,k2⟩,fun id o hg=>⟨(h.obj id o hg).1,(h.obj id o hg).2.keep (.refl g) (h.lt hg).1 (hb.block _ (h.lt hg).2)⟩,h.inj,h.sep,h.n,h.glob⟩,
  hb.os,hb.tape,hb.output,hb.size,fun b hb' _=>hb.block b hb',fun id o hg _=>⟨id,o,hg,rfl,fun _=>⟨rfl,rfl⟩⟩,fun _ _ _=>rfl,rfl,rfl⟩
end
section
set_option maxRecDepth 4000
open Go.Maps Go.Sort
def keysB:List (AV×AV)→Option (List (List UInt8))
 | []=>some []
 |(.val (.string s),_)::r=>(keysB r).map (s.data.toList:: ·)
 |_=>none
def insB(a:List UInt8):List (List UInt8)→List (List UInt8)
 | []=> [a]
 |b::r=>if leB a b then a::b::r else b::insB a r
def sortB:List (List UInt8)→List (List UInt8)
 | []=> []
 |a::r=>insB a (sortB r)
def pairB:List (List UInt8)→Bool
 | []=>true
 |a::r=>r.all (leB a)&&pairB r
theorem pairB_ok:∀(l:List (List UInt8)),pairB l=true→l.Pairwise (fun a b=>leB a b=true)
 | [],_=> .nil
 |a::r,h=>by
  simp only [pairB,Bool.and_eq_true,List.all_eq_true] at h
  exact .cons h.1 (pairB_ok r h.2)
theorem insB_perm(a:List UInt8):∀l,(insB a l).Perm (a::l)
 | []=> .refl _
 |b::r=>by
  unfold insB
  split
  ·exact .refl _
  ·exact ((insB_perm a r).cons b).trans (.swap a b r)
theorem sortB_perm:∀l,(sortB l).Perm l
 | []=> .refl _
 |a::r=>(insB_perm a _).trans ((sortB_perm r).cons a)
theorem keysB_at:∀{es:List (AV×AV)} {ks:List (List UInt8)},keysB es=some ks→es.map (·.1)=ks.map fun l=>AV.val (.string ⟨l.toArray⟩)
 | [],ks,h=>by simp only [keysB,Option.some.injEq] at h;subst h;rfl
 |(a,b)::r,ks,h=>by
  unfold keysB at h
  split at h
  ·cases ‹_::_= []›
  ·rename_i s y r' heq
   cases heq
   obtain ⟨k',hk,rfl⟩:=Option.map_eq_some_iff.1 h
   simp [keysB_at hk]
  ·cases h
def namesOv(args:List AV)(st:St):Option (AV×St):=
  match args with
  | [.ptr d 0]=>match st.get d with
    |some (.row (.mp m::_) _)=>match st.get m with
      |some (.map es _bs _clock)=>match keysB es with
        |some ks=>
          if pairB (sortB ks)=true∧ks.Nodup∧(ks.all fun l=>decide (l.length≤1000000))=true∧ks.length≤1000000 then
            (match sortB ks with
             | []=>some (.nils,st)
             |_=>some (.sl st.next 1 0 ks.length false,st.push (.row ((sortB ks).map fun l=> .val (.string ⟨l.toArray⟩)) 9))) else none
        |none=>none
      |_=>none
    |_=>none
  |_=>none
def NamesC:Prop:=∀(B O b nn:Nat) (D0:DataW Unit) (R:Value→Option (DataW Unit×List MemPlace)) (w:World),w.cell? ⟨B,O,none⟩=some (.map (some b))→w.ownsMap Tryz.prog 9 R b nn D0→Maps.size D0≤maxLen→Maps.size D0*16≤140737488355328→
 Calls Tryz.prog 56 #[.pointer (some ⟨B,O,none⟩)] w fun e w'=>∃(v:Value) (ss:List (List UInt8)),e= .returned v∧ss.Perm (strKeys D0)∧w'.ownsRow w.heap.size 9 1 v ss.length ((ss.mergeSort leB).map encStr)∧(v= .slice none 0 0↔ss= [])∧RowKit.Below w.heap.size w w'
theorem namesOv_ok(hN:NamesC){args:List AV}{st:St}{r:AV×St}(h:namesOv args st=some r):ACalls Tryz.prog 56 args (fun a st'=>(a,st')=r) st:=by
 unfold namesOv at h
 split at h
 ·rename_i d
  split at h
  ·rename_i m rest ty hd
   split at h
   ·rename_i es bs clock hm
    split at h
    ·rename_i ks hk
     split at h
     ·rename_i hc
      obtain ⟨hc1,hc2,hc3,hc4⟩:=hc
      intro g w us hok hv
      obtain ⟨us0,k1,k2,k3⟩:=hok.row_cells hd
      obtain ⟨es',m1,m2,m3,m4,m5⟩:=hok.map_at hm
      have hkm:=keysB_at hk
      obtain ⟨u0,hu0,hvu0⟩:=k1.get (i:=0) (c:= .mp m) rfl
      have hvm:=hvu0
      cases hvm with
      |mp _ hmid=>
      have hcell:=k3 0 _ hu0
      have hkeys:es'.toList.map (·.key)=ks.map encStr:=by
       have h1:=m2.1
       rw [hkm] at h1
       apply List.ext_getElem?
       intro i
       have hl:=h1.1
       by_cases hi:i<ks.length
       ·obtain ⟨u,hu1,hu2⟩:=h1.get (i:=i) (c:= .val (.string ⟨(ks[i]).toArray⟩)) (by rw [List.getElem?_map,List.getElem?_eq_getElem hi];rfl)
        rw [hu1,List.getElem?_map,List.getElem?_eq_getElem hi,hu2.val_inv]
        rfl
       ·rw [List.getElem?_eq_none (by rw [hl,List.length_map];omega),List.getElem?_eq_none (by rw [List.length_map];omega)]
      have hsz:es'.size=ks.length:=by have:=congrArg List.length hkeys;simpa using this
      have hku:Tryz.prog.underlying 9=some .string:=Tryz.underlying9
      have hkey:∀x∈es'.toList,∃l∈ks,x.key=encStr l:=fun x hx=>by
       have:x.key∈ks.map encStr:=by rw [←hkeys];exact List.mem_map_of_mem hx
       obtain ⟨l,hl,he⟩:=List.mem_map.1 this
       exact ⟨l,hl,he.symm⟩
      let R:Value→Option (DataW Unit×List MemPlace):=fun _=>some (.nil,[])
      have hrd:∀x∈es'.toList,∀l,x.key=encStr l→l∈ks→WideElems.rd Tryz.prog 9 R x=some (.string l,.nil):=fun x hx l hl hlm=>by
       have hlen:=List.all_eq_true.1 hc3 l hlm
       simp only [decide_eq_true_eq] at hlen
       unfold WideElems.rd
       rw [hl]
       simp only [keyOf,hku,mapKey,R]
       rw [if_pos (by simp only [maxLen,ByteArray.size,List.size_toArray];omega)]
       simp
      have F:WideElems.Fit Tryz.prog 9 R es' clock:=⟨by simp only [maxLen];omega,⟨fun x hx=>m5 _ (by rw [←m3];exact List.mem_map_of_mem hx),by rw [m3];exact m4,by
        rw [hkeys]
        exact List.Pairwise.map encStr (fun a b hab he=>hab (encStr_inj he)) hc2⟩,
       fun x hx=>by obtain ⟨l,hl,he⟩:=hkey x hx;exact ⟨_,hrd x hx l he hl⟩⟩
      have hown:w.ownsMap Tryz.prog 9 R (g.blk m) es'.size (.map ((es'.toList.map (WideElems.rg Tryz.prog 9 R)).foldr DataW.insert [])):=⟨es',clock,m1,F,Nat.le_refl _,rfl⟩
      have hDs:Maps.size (DataW.map ((es'.toList.map (WideElems.rg Tryz.prog 9 R)).foldr DataW.insert []))=ks.length:=by
       simp only [Maps.size]
       rw [length_sorted]
       simp [hsz]
      have hperm:(strKeys (DataW.map ((es'.toList.map (WideElems.rg Tryz.prog 9 R)).foldr DataW.insert []))).Perm ks:=by
       simp only [strKeys]
       refine ((WideShapes.sorted_perm _).map _).trans ?_
       rw [List.map_map]
       have:es'.toList.map ((fun p=>strOf p.1)∘WideElems.rg Tryz.prog 9 R)=ks:=by
        have e1:∀x∈es'.toList,encStr (((fun p=>strOf p.1)∘WideElems.rg Tryz.prog 9 R) x)=x.key:=fun x hx=>by
         obtain ⟨l,hl,he⟩:=hkey x hx
         simp only [Function.comp,WideElems.rg_of (hrd x hx l he hl),strOf,he]
        have e2:(es'.toList.map ((fun p=>strOf p.1)∘WideElems.rg Tryz.prog 9 R)).map encStr=ks.map encStr:=by
         rw [←hkeys,List.map_map]
         exact List.map_congr_left e1
        exact (List.map_inj_right (fun a b hab=>encStr_inj hab)).1 e2
       rw [this]
      have hgo:=hN (g.blk d) (g.base d+0) (g.blk m) es'.size _ R w hcell hown (by rw [hDs];simp only [maxLen];omega) (by rw [hDs];omega)
      have hus:us.toArray= #[.pointer (some ⟨g.blk d,g.base d+0,none⟩)]:=by
       have hl:=hv.1
       match us,hv,hl with
       | [u],hv,_=>rw [hv.head.ptr_inv.2]
      rw [hus]
      refine hgo.mono fun e w' ⟨v,ss,he,hp,hrow,hnil,hb⟩=> ?_
      have hss:ss.Perm ks:=hp.trans hperm
      have hms:ss.mergeSort leB=sortB ks:=by
       rw [mergeSort_of_perm (hss.trans (sortB_perm ks).symm)]
       exact List.mergeSort_of_pairwise (pairB_ok _ hc1)
      have hsl:ss.length=ks.length:=hss.length_eq
      rw [hms] at hrow
      rcases hrow.2 with ⟨rfl,hz⟩|⟨gb,cap,cur,rfl,hge,hcur,q1,q2,q3,q4⟩
      ·have:ks= []:=List.eq_nil_of_length_eq_zero (by omega)
       subst this
       simp only [sortB,Option.some.injEq] at h
       subst h
       exact ⟨g,st,_,_,he,step_below hok hb,.nils,rfl⟩
      ·have hne:ks≠ []:=by
        intro e
        subst e
        have:ss= []:=List.eq_nil_of_length_eq_zero hsl
        have:=hnil.2 this
        cases this
       have hr:r=(.sl st.next 1 0 ks.length false,st.push (.row ((sortB ks).map fun l=> .val (.string ⟨l.toArray⟩)) 9)):=by
        split at h
        ·rename_i hs
         have:=(sortB_perm ks).length_eq
         rw [hs] at this
         exact absurd (List.eq_nil_of_length_eq_zero this.symm) hne
        ·simpa using h.symm
       have hsb:(sortB ks).length=ks.length:=(sortB_perm ks).length_eq
       have hvs:VRs g ((sortB ks).map fun l=>AV.val (.string ⟨l.toArray⟩)) ((sortB ks).map encStr):= .of_get (by simp) fun i c u hc' hu=>by
        rw [List.getElem?_map] at hc' hu
        obtain ⟨l,hl,rfl⟩:=Option.map_eq_some_iff.1 hc'
        rw [hl] at hu
        cases hu
        exact .val _ rfl
       have hpre:(sortB ks).map encStr<+:cur.toList:=by
        rw [←q4]
        exact List.take_prefix _ _
       refine ⟨_,_,_,_,he,step_below_row hok hb hge hcur hvs (fun u hu=> ?_) hpre,?_,hr.symm⟩
       ·obtain ⟨l,_,rfl⟩:=List.mem_map.1 hu
        rfl
       ·have:=VR.sl (g:=g.add gb 0 cur.size) g.n 1 0 ks.length cap false (Nat.lt_succ_self _) (by rw [G.add_siz,q3];omega) (by omega) (fun h=>by cases h) q2
        rw [←hok.n,hsl]
        simpa using this
     ·cases h
    ·cases h
   ·cases h
  ·cases h
 ·cases h
end
section
set_option maxRecDepth 4000
open Go.RowKit Go.Maps Go.Sort Go.Shelf
def Tryz.keys67_ren : Go.Shelf.Ren := ⟨fun | 7 => 89 | 10 => 101 | n => n, fun | 23 => 105 | 26 => 9 | 3 => 104 | 28 => 140 | 0 => 0 | 27 => 139 | 33 => 114 | 4 => 4 | n => n, fun | n => n⟩
theorem Tryz.keys67 : Go.Proofs.SlLaysZ.n7 Tryz.prog Tryz.keys67_ren := {
  mixed := by kernel_rfl
  f7 := ⟨Tryz.f89.name, by decide, Tryz.func89.trans (congrArg some (by kernel_rfl))⟩
  f10 := ⟨Tryz.f101.name, by decide, Tryz.func101.trans (congrArg some (by kernel_rfl))⟩
  t0 := Tryz.underlying0
  a0 := Tryz.isAgg0
  z0 := Tryz.sizeOf0
  v0 := Tryz.zeroValue0
  t4 := Tryz.underlying4
  a4 := Tryz.isAgg4
  z4 := Tryz.sizeOf4
  v4 := Tryz.zeroValue4
  t23 := Tryz.underlying105
  a23 := Tryz.isAgg105
  z23 := Tryz.sizeOf105
  v23 := Tryz.zeroValue105
  t26 := Tryz.underlying9
  a26 := Tryz.isAgg9
  z26 := Tryz.sizeOf9
  v26 := Tryz.zeroValue9
  t27 := Tryz.underlying139
  a27 := Tryz.isAgg139
  z27 := Tryz.sizeOf139
  v27 := Tryz.zeroValue139
  t28 := Tryz.underlying140
  a28 := Tryz.isAgg140
  z28 := Tryz.sizeOf140
  v28 := Tryz.zeroValue140
  t33 := Tryz.underlying114
  a33 := Tryz.isAgg114
  z33 := Tryz.sizeOf114
  v33 := Tryz.zeroValue114 }
def Tryz.sorted66_ren : Go.Shelf.Ren := ⟨fun | 6 => 88 | 8 => 99 | 9 => 100 | 11 => 110 | 13 => 112 | 12 => 111 | 23 => 127 | 24 => 114 | 14 => 118 | 15 => 119 | 16 => 120 | 17 => 121 | 18 => 122 | 19 => 123 | 20 => 124 | 21 => 125 | 22 => 126 | 25 => 130 | 26 => 131 | 27 => 132 | 28 => 133 | 29 => 134 | 30 => 135 | 31 => 136 | n => n, fun | 26 => 9 | 28 => 140 | 24 => 101 | 0 => 0 | 3 => 3 | 37 => 53 | 48 => 80 | 50 => 79 | 4 => 4 | 40 => 169 | 39 => 168 | 45 => 115 | 5 => 5 | 9 => 9 | 51 => 175 | 55 => 179 | 57 => 183 | 58 => 56 | 33 => 114 | n => n, fun | n => n⟩
theorem Tryz.sorted66 : Go.Proofs.SlLaysZ.n6 Tryz.prog Tryz.sorted66_ren := {
  mixed := by kernel_rfl
  f6 := ⟨Tryz.f88.name, by decide, Tryz.func88.trans (congrArg some (by kernel_rfl))⟩
  f8 := ⟨Tryz.f99.name, by decide, Tryz.func99.trans (congrArg some (by kernel_rfl))⟩
  f11 := ⟨Tryz.f110.name, by decide, Tryz.func110.trans (congrArg some (by kernel_rfl))⟩
  t0 := Tryz.underlying0
  a0 := Tryz.isAgg0
  z0 := Tryz.sizeOf0
  v0 := Tryz.zeroValue0
  t24 := Tryz.underlying101
  a24 := Tryz.isAgg101
  z24 := Tryz.sizeOf101
  v24 := Tryz.zeroValue101
  t26 := Tryz.underlying9
  a26 := Tryz.isAgg9
  z26 := Tryz.sizeOf9
  v26 := Tryz.zeroValue9
  t28 := Tryz.underlying140
  a28 := Tryz.isAgg140
  z28 := Tryz.sizeOf140
  v28 := Tryz.zeroValue140
  i26 := by kernel_rfl }
def Tryz.sort87_ren : Go.Shelf.Ren := ⟨fun | 6 => 100 | 8 => 112 | 9 => 111 | 19 => 127 | 20 => 114 | 21 => 118 | 22 => 119 | 23 => 120 | 24 => 121 | 25 => 122 | 26 => 123 | 27 => 124 | 28 => 125 | 29 => 126 | 36 => 130 | 31 => 131 | 32 => 132 | 37 => 133 | 38 => 134 | 39 => 135 | 41 => 136 | n => n, fun | 27 => 101 | 29 => 9 | 3 => 3 | 32 => 53 | 26 => 101 | 0 => 0 | 44 => 80 | 46 => 79 | 4 => 4 | 36 => 169 | 35 => 168 | 41 => 115 | 5 => 5 | 9 => 9 | 53 => 175 | 57 => 179 | 63 => 183 | 64 => 56 | n => n, fun | n => n⟩
theorem Tryz.sort87 : Go.Proofs.SlLaysM.n6 Tryz.prog Tryz.sort87_ren := {
  mixed := by kernel_rfl
  f6 := ⟨Tryz.f100.name, by decide, Tryz.func100.trans (congrArg some (by kernel_rfl))⟩
  f8 := Tryz.func112.trans (congrArg some (by kernel_rfl))
  f9 := ⟨Tryz.f111.name, by decide, Tryz.func111.trans (congrArg some (by kernel_rfl))⟩
  f19 := Tryz.func127.trans (congrArg some (by kernel_rfl))
  f20 := Tryz.func114.trans (congrArg some (by kernel_rfl))
  f21 := ⟨Tryz.f118.name, by decide, Tryz.func118.trans (congrArg some (by kernel_rfl))⟩
  f22 := ⟨Tryz.f119.name, by decide, Tryz.func119.trans (congrArg some (by kernel_rfl))⟩
  f23 := ⟨Tryz.f120.name, by decide, Tryz.func120.trans (congrArg some (by kernel_rfl))⟩
  f24 := ⟨Tryz.f121.name, by decide, Tryz.func121.trans (congrArg some (by kernel_rfl))⟩
  f25 := ⟨Tryz.f122.name, by decide, Tryz.func122.trans (congrArg some (by kernel_rfl))⟩
  f26 := ⟨Tryz.f123.name, by decide, Tryz.func123.trans (congrArg some (by kernel_rfl))⟩
  f27 := ⟨Tryz.f124.name, by decide, Tryz.func124.trans (congrArg some (by kernel_rfl))⟩
  f28 := ⟨Tryz.f125.name, by decide, Tryz.func125.trans (congrArg some (by kernel_rfl))⟩
  f29 := ⟨Tryz.f126.name, by decide, Tryz.func126.trans (congrArg some (by kernel_rfl))⟩
  f31 := Tryz.func131.trans (congrArg some (by kernel_rfl))
  f32 := Tryz.func132.trans (congrArg some (by kernel_rfl))
  f36 := ⟨Tryz.f130.name, by decide, Tryz.func130.trans (congrArg some (by kernel_rfl))⟩
  f37 := ⟨Tryz.f133.name, by decide, Tryz.func133.trans (congrArg some (by kernel_rfl))⟩
  f38 := ⟨Tryz.f134.name, by decide, Tryz.func134.trans (congrArg some (by kernel_rfl))⟩
  f39 := ⟨Tryz.f135.name, by decide, Tryz.func135.trans (congrArg some (by kernel_rfl))⟩
  f41 := ⟨Tryz.f136.name, by decide, Tryz.func136.trans (congrArg some (by kernel_rfl))⟩
  t0 := Tryz.underlying0
  a0 := Tryz.isAgg0
  z0 := Tryz.sizeOf0
  v0 := Tryz.zeroValue0
  t3 := Tryz.underlying3
  a3 := Tryz.isAgg3
  z3 := Tryz.sizeOf3
  v3 := Tryz.zeroValue3
  t4 := Tryz.underlying4
  a4 := Tryz.isAgg4
  z4 := Tryz.sizeOf4
  v4 := Tryz.zeroValue4
  t5 := Tryz.underlying5
  a5 := Tryz.isAgg5
  z5 := Tryz.sizeOf5
  v5 := Tryz.zeroValue5
  t9 := Tryz.underlying9
  a9 := Tryz.isAgg9
  z9 := Tryz.sizeOf9
  v9 := Tryz.zeroValue9
  t26 := Tryz.underlying101
  a26 := Tryz.isAgg101
  z26 := Tryz.sizeOf101
  v26 := Tryz.zeroValue101
  t27 := Tryz.underlying101
  a27 := Tryz.isAgg101
  z27 := Tryz.sizeOf101
  v27 := Tryz.zeroValue101
  t29 := Tryz.underlying9
  a29 := Tryz.isAgg9
  z29 := Tryz.sizeOf9
  v29 := Tryz.zeroValue9
  t32 := Tryz.underlying53
  a32 := Tryz.isAgg53
  z32 := Tryz.sizeOf53
  v32 := Tryz.zeroValue53
  t35 := Tryz.underlying168
  a35 := Tryz.isAgg168
  z35 := Tryz.sizeOf168
  v35 := Tryz.zeroValue168
  t36 := Tryz.underlying169
  a36 := Tryz.isAgg169
  z36 := Tryz.sizeOf169
  v36 := Tryz.zeroValue169
  t41 := Tryz.underlying115
  a41 := Tryz.isAgg115
  z41 := Tryz.sizeOf115
  v41 := Tryz.zeroValue115
  t44 := Tryz.underlying80
  a44 := Tryz.isAgg80
  z44 := Tryz.sizeOf80
  v44 := Tryz.zeroValue80
  t46 := Tryz.underlying79
  a46 := Tryz.isAgg79
  z46 := Tryz.sizeOf79
  v46 := Tryz.zeroValue79
  t53 := Tryz.underlying175
  a53 := Tryz.isAgg175
  z53 := Tryz.sizeOf175
  v53 := Tryz.zeroValue175
  t57 := Tryz.underlying179
  a57 := Tryz.isAgg179
  z57 := Tryz.sizeOf179
  v57 := Tryz.zeroValue179
  t63 := Tryz.underlying183
  a63 := Tryz.isAgg183
  z63 := Tryz.sizeOf183
  v63 := Tryz.zeroValue183
  t64 := Tryz.underlying56
  a64 := Tryz.isAgg56
  z64 := Tryz.sizeOf56
  v64 := Tryz.zeroValue56 }
theorem sorts66(m:Nat):AnyZ.SortsIn Tryz.prog Tryz.sorted66_ren Fence.wide m:=
  ⟨fun blk off cap ss W hH hblk hsz=>callsIn_wide.2 (AnyM.slices_Sort_string Tryz.sort87 blk off cap ss W hH hblk hsz),
   fun p cap W=>callsIn_wide.2 (AnyM.slices_Sort_string_none Tryz.sort87 p cap W)⟩
theorem keys67C(mb:Option Nat)(W:World):CallsIn Fence.wide 5 Tryz.prog 89 #[.map mb] W fun e w'=>e= .returned (.func (.func 101) #[] #[.pointer (some ⟨W.heap.size,0,none⟩)])∧w'=W.alloc (.cells #[.map mb] 105):=
 AnyZ.keys_in Tryz.keys67 Fence.wide 5 trivial rfl mb W
set_option maxHeartbeats 1000000 in
theorem sorted66C{H:Type}(b nn:Nat)(D0:DataW H)(R:Value→Option (DataW H×List MemPlace))(w:World)(hown:w.ownsMap Tryz.prog 9 R b nn D0)(hmax:Maps.size D0≤maxLen)(hbytes:Maps.size D0*16≤140737488355328):
  CallsIn Fence.wide 5 Tryz.prog 88 #[.func (.func 101) #[] #[.pointer (some ⟨w.heap.size,0,none⟩)]] (w.alloc (.cells #[.map (some b)] 105)) fun e w'=>∃(v:Value) (ss:List (List UInt8)),e= .returned v∧ss.Perm (strKeys D0)∧
   w'.ownsRow (w.alloc (.cells #[.map (some b)] 105)).heap.size 9 1 v ss.length ((ss.mergeSort (fun x y=>decide (x≤y))).map encStr)∧(v= .slice none 0 0↔ss= [])∧Below (w.alloc (.cells #[.map (some b)] 105)).heap.size (w.alloc (.cells #[.map (some b)] 105)) w':=by
 have hbl:=hown.lt
 have hseq:SeqGives Fence.wide 2 Tryz.prog 101 #[.pointer (some ⟨w.heap.size,0,none⟩)] encStr (fun ss=>ss.Perm (strKeys D0)) (Maps.size D0) (w.alloc (.cells #[.map (some b)] 105)):=
  AnyZ.keys_gives (ρ:=Tryz.keys67_ren) {Tryz.keys67 with} Fence.wide _ trivial rfl (by omega) w.heap.size b nn D0 _ (by simp) (by simp) (by
   obtain ⟨es,clock,hb,Ft,hs,hD⟩:=hown
   exact ⟨es,clock,(Below.heap_alloc _ _ b hbl).trans hb,Ft,hs,hD⟩)
 exact AnyZ.sorted_in Tryz.sorted66 Fence.wide 5 trivial trivial trivial trivial rfl (by omega) (sorts66 _) (enters_of Tryz.func100 (by kernel_rfl) rfl) 101 #[.pointer (some ⟨w.heap.size,0,none⟩)] trivial (enters_of Tryz.func101 (by kernel_rfl) rfl) _ _ hmax hbytes _ hseq
set_option maxHeartbeats 1000000 in
theorem namesC:NamesC:=by
 intro B O b nn D0 R w hcell hown hmax hbytes
 refine (callsIn_wide (n:=6)).1 ?_
 have hfK:Fence.wide.fn 89:=trivial
 have hfS:Fence.wide.fn 88:=trivial
 refine callsIn_of_wp Tryz.func56 rfl trivial ?_ rfl
 simp only [Tryz.ntmps56,List.size_toArray,List.length_cons,List.length_nil,Nat.reduceAdd,Nat.reduceSub,Array.replicate_succ,Array.replicate_zero,List.push_toArray,List.append_toArray,List.nil_append,List.cons_append]
 gi_wp2_with (first
  |(gi_at_call 89;refine (keys67C _ _).mono ?_;rintro e w' ⟨rfl,rfl⟩)
  |(gi_at_call 88;refine (sorted66C b nn D0 R w hown hmax hbytes).mono ?_;rintro e w' ⟨v,ss,rfl,hS,hrow,hnil,hb⟩))
 go_ret
 exact ⟨v,ss,rfl,hS,ownsRow_base_a hrow (by simp),hnil,((Below.refl _ w).alloc (Nat.le_refl _) _).trans (hb.mono (by simp))⟩
end
section
set_option maxRecDepth 4000
def ovF:Ov:=fun f args st=>if f=56 then namesOv args st else ovK f args st
theorem ovF_ok:∀f args st r,ovF f args st=some r→ACalls Tryz.prog f args (fun a st'=>(a,st')=r) st:=by
 intro f args st r h
 unfold ovF at h
 split at h
 ·rename_i hf;subst hf;exact namesOv_ok namesC h
 ·exact ovK_ok f args st r h
end
section
set_option maxRecDepth 4000
theorem laid_head{P:Program}{W:World}{name:String}{k:IntKind}{zs:List Int}{rest:List (String×DataW Unit)}{g:Nat}{t e:TypeId}{n:Nat}{ps:List MemPlace}
  (hg:P.globalNamed name=some g) (hty:(P.globals[g]?).map (·.type)=some t) (ht:P.underlying t=some (.array n e)) (he:P.underlying e=some (.int k)) (hce:P.cellsOf e=1) (hct:P.cellsOf t=n)
  (h:DataW.LaidVars P W ((name,Lib.tabData k zs)::rest) ps):Lib.TabIs P W name k zs∧∃q,DataW.LaidVars P W rest q:=by
 obtain ⟨g',t',cs,fuel,p,q,hg',ht',hvar,hd,hq,_⟩:=h
 obtain rfl:=Option.some.inj (hg.symm.trans hg')
 obtain rfl:=Option.some.inj (hty.symm.trans ht')
 refine ⟨?_,q,hq⟩
 unfold Lib.TabIs
 rw [hvar,←Lib.cells_of_tab ht he hce hct hd]
def zs32:List Int:= [0,1,28,2,29,14,24,3,30,22,20,15,25,17,4,8,31,27,13,23,21,19,16,7,26,12,18,6,11,5,10,9]
def zs64:List Int:= [0,1,56,2,57,49,28,3,61,58,42,50,38,29,17,4,62,47,59,36,45,43,51,22,53,39,33,30,24,18,12,5,63,55,48,27,60,41,37,16,46,35,44,21,52,32,23,11,54,26,40,15,34,20,31,10,25,14,19,9,13,8,7,6]
def zs10:List Int:= [1,10,100,1000,10000,100000,1000000,10000000,100000000,1000000000,10000000000,100000000000,1000000000000,10000000000000,100000000000000,1000000000000000,10000000000000000,100000000000000000,1000000000000000000,10000000000000000000]
def intsAV(k:IntKind)(zs:List Int):List AV:=zs.map fun z=> .val (.int k z)
theorem TabIs.heap{P:Program}{W:World}{name:String}{k:IntKind}{zs:List Int}(h:Lib.TabIs P W name k zs){g:Nat}(hg:P.globalNamed name=some g):∃T fr,W.heap[g]? =some (.cells (zs.map fun z=>Value.int k z).toArray T fr):=by
 unfold Lib.TabIs World.var? at h
 rw [hg] at h
 simp only [Option.bind_some] at h
 split at h
 ·rename_i cs T fr hh
  simp only [Option.some.injEq] at h
  subst h
  exact ⟨T,fr,hh⟩
 ·cases h
def stTab(tabs:List (Nat×IntKind×List Int)):St:=⟨0,.nil,[],tabs.map fun t=>(t.1,intsAV t.2.1 t.2.2)⟩
def TabsIn(W:World)(tabs:List (Nat×IntKind×List Int)):Prop:=∀t∈tabs,∃T fr,W.heap[t.1]? =some (.cells (t.2.2.map fun z=>Value.int t.2.1 z).toArray T fr)
def tabsD:List (Nat×IntKind×List Int):= [(2,.u8,zs32),(3,.u8,zs64),(0,.u64,zs10)]
end
section
set_option maxRecDepth 100000
abbrev u8(n:Int):AV:= .val (.int .u8 n)
abbrev u16(n:Int):AV:= .val (.int .u16 n)
abbrev i64(n:Int):AV:= .val (.int .i64 n)
abbrev str(s:ByteArray):AV:= .val (.string s)
abbrev TT:AV:= .val (.bool true)
abbrev FF:AV:= .val (.bool false)
def bo(b:Bool):AV:= .val (.bool b)
theorem hE:EOK' Tryz.prog E0:=envOf_ok (P:=Tryz.prog) rfl
def obC(f:Nat)(args:List AV)(st:St)(a:AV)(st':St):Prop:=ACalls Tryz.prog f args (fun r s=>r=a∧s=st') st
def obL(st:St)(t:Nat)(p a:AV):Prop:=loadA E0 st t p=some a∧st=st
structure PF where
 name:ByteArray
 dv:AV
 bytes:List Int
 last:Nat
def ent(f:PF):AV×AV:=(str f.name,.agg [f.dv,i64 f.last])
theorem sameStr(a b:ByteArray):Instr.sameNow .string (.string a) (.string b)=some (a==b):=by
 unfold Instr.sameNow
 rfl
def find:ByteArray→List PF→Option Nat
 |_,[]=>none
 |n,f::r=>if n==f.name then some 0 else (find n r).map (· +1)
theorem findA_ent(n:ByteArray):∀(L:List PF) (i:Nat),findA .string (.string n) (L.map ent) i=some ((find n L).map fun k=>(i+k,(ent (L.getD k ⟨n,.nils,[],0⟩)).2))
 | [],i=>rfl
 |f::r,i=>by
  simp only [List.map_cons,findA,ent,str,sameStr,find]
  by_cases h:(n==f.name)=true
  ·simp [h]
  ·simp only [h,Bool.false_eq_true,if_false]
   rw [findA_ent n r (i+1)]
   cases find n r with
   |none=>rfl
   |some k=>simp [Nat.add_assoc,Nat.add_comm 1 k,ent]
theorem ty101':E0.ty 105=some ⟨.map 9 104,1,8,some (.map none)⟩:=by kernel_rfl
theorem key9:plainKey E0 9=some .string:=by kernel_rfl
theorem z105:∃i z,E0.ty 104=some i∧i.zero=some z∧cv z= .agg [.nils,i64 0]:=⟨_,_,rfl,rfl,by kernel_rfl⟩
section
variable {st:St} {m:Nat} {bs:List Nat} {clock:Nat} {L:List PF} {n:ByteArray}
theorem lookup_hit(hm:st.get m=some (.map (L.map ent) bs clock)){k:Nat}{f:PF}(hk:find n L=some k)(hf:L[k]? =some f)(ok:Bool):lookupA E0 st 105 (.mp m) (str n) ok=some (if ok then .tup [(ent f).2,TT] else (ent f).2):=by
 obtain ⟨i,z,h1,h2,h3⟩:=z105
 simp only [lookupA,ty101',key9,h1,h2,hm,findA_ent,hk,Option.map_some,List.getD_eq_getElem?_getD,hf,Option.getD_some]
theorem lookup_miss(hm:st.get m=some (.map (L.map ent) bs clock))(hk:find n L=none)(ok:Bool):lookupA E0 st 105 (.mp m) (str n) ok=some (if ok then .tup [.agg [.nils,i64 0],FF] else .agg [.nils,i64 0]):=by
 obtain ⟨i,z,h1,h2,h3⟩:=z105
 simp only [lookupA,ty101',key9,h1,h2,hm,findA_ent,hk,Option.map_none,h3]
theorem update_hit(hm:st.get m=some (.map (L.map ent) bs clock))(hl:m∉st.lock){k:Nat}(hk:find n L=some k)(f:PF)(hn:f.name=n):mapUpdateA E0 st 105 (.mp m) (str n) (ent f).2=some (st.set m (.map ((L.set k f).map ent) bs clock)):=by
 simp only [mapUpdateA,ty101',key9,St.wget_of hm hl,findA_ent,hk,Option.map_some,Nat.zero_add,List.map_set]
 rw [←hn];rfl
theorem update_miss(hm:st.get m=some (.map (L.map ent) bs clock))(hl:m∉st.lock)(hk:find n L=none)(f:PF)(hn:f.name=n):mapUpdateA E0 st 105 (.mp m) (str n) (ent f).2=some (st.set m (.map ((L++ [f]).map ent) (bs++ [clock]) (clock+1))):=by
 simp only [mapUpdateA,ty101',key9,St.wget_of hm hl,findA_ent,hk,Option.map_none,List.map_append,List.map_cons,List.map_nil]
 rw [←hn];rfl
theorem delete_hit(hm:st.get m=some (.map (L.map ent) bs clock))(hl:m∉st.lock){k:Nat}(hk:find n L=some k):mapDeleteA E0 st 105 (.mp m) (str n)=some (st.set m (.map ((L.eraseIdx k).map ent) (bs.eraseIdx k) clock)):=by
 simp only [mapDeleteA,ty101',key9,St.wget_of hm hl,findA_ent,hk,Option.map_some,Nat.zero_add,map_eraseIdx]
end
theorem ba_eq{a b:ByteArray}(h:(a==b)=true):a=b:=by
 cases a with
 |mk x=>cases b with
  |mk y=>
   have h':(x==y)=true:=h
   rw [eq_of_beq h']
theorem ba_refl(a:ByteArray):(a==a)=true:=by
 cases a with
 |mk x=>exact beq_self_eq_true x
theorem find_some:∀{n:ByteArray} {L:List PF} {k:Nat},find n L=some k→∃f,L[k]? =some f∧f.name=n
 |n,[],k,h=>by cases h
 |n,f::r,k,h=>by
  unfold find at h
  split at h
  ·rename_i e
   cases h
   exact ⟨f,rfl,(ba_eq e).symm⟩
  ·obtain ⟨j,hj,rfl⟩:=Option.map_eq_some_iff.1 h
   obtain ⟨g,h1,h2⟩:=find_some hj
   exact ⟨g,by simpa using h1,h2⟩
end
section
set_option maxRecDepth 100000
def boolI(s:Sem Value):Bool:=match s with| .pure (.bool b)=>b|_=>false
def ltN(a b:Int):Bool:=boolI (binOp .lss 3 (.int .i64 a) (.int .i64 b))
def gtN(a b:Int):Bool:=boolI (binOp .gtr 3 (.int .i64 a) (.int .i64 b))
def geB(a b:Int):Bool:=boolI (binOp .geq 5 (.int .u8 a) (.int .u8 b))
def leB(a b:Int):Bool:=boolI (binOp .leq 5 (.int .u8 a) (.int .u8 b))
def eqB(a b:Int):Bool:=boolI (binOp .eql 5 (.int .u8 a) (.int .u8 b))
def neB(a b:Int):Bool:=boolI (binOp .neq 5 (.int .u8 a) (.int .u8 b))
def addN(a b:Int):Int:=valI (binOp .add 3 (.int .i64 a) (.int .i64 b))
def noOv:OvP:=fun _ _ _=>none
def noS:Nat→List Nat:=fun _=> []
noncomputable def mayP(i:Nat):Code:=match Tryz.f90.body with
 |some (.seq r0 (.seq (.seq r1 c1) (.seq (.seq r3 (.block 0 (.loop b))) (.seq r10 _))))=> [.seq r0 (.seq r1 c1),r3,b,r10,r0,.seq r1 c1].getD i .skip
 |_=> .skip
theorem body85:Tryz.f90.body=some (.seq (mayP 4) (.seq (mayP 5) (.seq (.seq (mayP 1) (.block 0 (.loop (mayP 2)))) (.seq (mayP 3) .ret)))):=by kernel_rfl
noncomputable def mayEv(i:Nat)(l:List (Nat×AV))(st:St)(x:List Or):=(evS Tryz.prog E0 noOv noS 100000 [7,11,16,2020,22,25,29,32,37,41,44] (mayP i) ⟨45,l,[]⟩ st x).map fun q=>(q.1,q.2.1.n,[q.2.1.get 0,q.2.1.get 2,q.2.1.get 14,q.2.1.get 15],q.2.2.1,q.2.2.2.2)
noncomputable def refP(i:Nat):Code:=match Tryz.f61.body with
 |some (.seq r0 (.seq r1 (.seq (.seq r2 (.block 0 (.loop b))) (.seq r8 _))))=> [r0,r1,r2,b,r8].getD i .skip
 |_=> .skip
theorem body69:Tryz.f61.body=some (.seq (refP 0) (.seq (refP 1) (.seq (.seq (refP 2) (.block 0 (.loop (refP 3)))) (.seq (refP 4) .ret)))):=by kernel_rfl
noncomputable def refEv(i:Nat)(l:List (Nat×AV))(st:St)(x:List Or):=(evS Tryz.prog E0 noOv noS 100000 [8,12,17,2022,24,27,32,35,41,45,19] (refP i) ⟨48,l,[]⟩ st x).map fun q=>(q.1,q.2.1.n,[q.2.1.get 0,q.2.1.get 2,q.2.1.get 3,q.2.1.get 4],q.2.2.1,q.2.2.2.2)
section
variable (s:ByteArray) (n k c j:Int) (st:St) (q:AV)
theorem may_a:mayEv 2 [(0,str s),(14,i64 n),(15,i64 k)] st [TT,.eff (u8 c) id,TT,TT,i64 j]=some (.normal,45,[str s,.undef,i64 n,i64 j],st,[bo (ltN k n)=TT,indexA E0 9 (str s) (i64 k)=some (u8 c)∧st=st,bo (geB c 97)=TT,bo (leB c 122)=TT,i64 (addN k 1)=i64 j]):=by kernel_rfl
theorem may_d:mayEv 2 [(0,str s),(14,i64 n),(15,i64 k)] st [TT,.eff (u8 c) id,FF,TT,TT,i64 j]=some (.normal,45,[str s,.undef,i64 n,i64 j],st,[bo (ltN k n)=TT,indexA E0 9 (str s) (i64 k)=some (u8 c)∧st=st,bo (geB c 97)=FF,bo (geB c 48)=TT,bo (leB c 57)=TT,i64 (addN k 1)=i64 j]):=by kernel_rfl
theorem may_m:mayEv 2 [(0,str s),(14,i64 n),(15,i64 k)] st [TT,.eff (u8 c) id,FF,FF,TT,i64 j]=some (.normal,45,[str s,.undef,i64 n,i64 j],st,[bo (ltN k n)=TT,indexA E0 9 (str s) (i64 k)=some (u8 c)∧st=st,bo (geB c 97)=FF,bo (geB c 48)=FF,bo (eqB c 45)=TT,i64 (addN k 1)=i64 j]):=by kernel_rfl
theorem may_p:mayEv 2 [(0,str s),(14,i64 n),(15,i64 k)] st [TT,.eff (u8 c) id,FF,FF,FF,TT,i64 j]=some (.normal,45,[str s,.undef,i64 n,i64 j],st,[bo (ltN k n)=TT,indexA E0 9 (str s) (i64 k)=some (u8 c)∧st=st,bo (geB c 97)=FF,bo (geB c 48)=FF,bo (eqB c 45)=FF,bo (eqB c 46)=TT,i64 (addN k 1)=i64 j]):=by kernel_rfl
theorem may_x:mayEv 2 [(0,str s),(14,i64 n),(15,i64 k)] st [TT,.eff (u8 c) id,TT,FF,TT,FF,FF,FF]=some (.ret,45,[str s,FF,i64 n,i64 k],st,[bo (ltN k n)=TT,indexA E0 9 (str s) (i64 k)=some (u8 c)∧st=st,bo (geB c 97)=TT,bo (leB c 122)=FF,bo (geB c 48)=TT,bo (leB c 57)=FF,bo (eqB c 45)=FF,bo (eqB c 46)=FF]):=by kernel_rfl
theorem may_y:mayEv 2 [(0,str s),(14,i64 n),(15,i64 k)] st [TT,.eff (u8 c) id,FF,TT,FF,FF,FF]=some (.ret,45,[str s,FF,i64 n,i64 k],st,[bo (ltN k n)=TT,indexA E0 9 (str s) (i64 k)=some (u8 c)∧st=st,bo (geB c 97)=FF,bo (geB c 48)=TT,bo (leB c 57)=FF,bo (eqB c 45)=FF,bo (eqB c 46)=FF]):=by kernel_rfl
theorem may_z:mayEv 2 [(0,str s),(14,i64 n),(15,i64 k)] st [TT,.eff (u8 c) id,FF,FF,FF,FF]=some (.ret,45,[str s,FF,i64 n,i64 k],st,[bo (ltN k n)=TT,indexA E0 9 (str s) (i64 k)=some (u8 c)∧st=st,bo (geB c 97)=FF,bo (geB c 48)=FF,bo (eqB c 45)=FF,bo (eqB c 46)=FF]):=by kernel_rfl
theorem may_end:mayEv 2 [(0,str s),(14,i64 n),(15,i64 k)] st [FF]=some (.exit 0,45,[str s,.undef,i64 n,i64 k],st,[bo (ltN k n)=FF]):=by kernel_rfl
theorem may_0:mayEv 5 [(0,str s),(2,FF)] st [TT]=some (.ret,45,[str s,FF,.undef,.undef],st,[bo (ltN s.size 1)=TT]):=by kernel_rfl
theorem may_1:mayEv 5 [(0,str s),(2,FF)] st [FF,TT]=some (.ret,45,[str s,FF,.undef,.undef],st,[bo (ltN s.size 1)=FF,bo (gtN s.size 32)=TT]):=by kernel_rfl
theorem may_2:mayEv 5 [(0,str s),(2,FF)] st [FF,FF]=some (.normal,45,[str s,FF,.undef,.undef],st,[bo (ltN s.size 1)=FF,bo (gtN s.size 32)=FF]):=by kernel_rfl
theorem may_5:mayEv 4 [(0,str s)] st []=some (.normal,45,[str s,FF,.undef,.undef],st,[]):=by kernel_rfl
theorem may_3:mayEv 1 [(0,str s)] st []=some (.normal,45,[str s,.undef,i64 s.size,i64 0],st,[]):=by kernel_rfl
theorem may_4:mayEv 3 [] st []=some (.normal,45,[.undef,TT,.undef,.undef],st,[]):=by kernel_rfl
theorem ref_a:refEv 3 [(0,str s),(3,q),(4,i64 k)] st [TT,.eff (u8 c) id,TT,TT,i64 j]=some (.normal,48,[str s,.undef,q,i64 j],st,[bo (ltN k s.size)=TT,indexA E0 9 (str s) (i64 k)=some (u8 c)∧st=st,bo (geB c 97)=TT,bo (leB c 122)=TT,i64 (addN k 1)=i64 j]):=by kernel_rfl
theorem ref_d:refEv 3 [(0,str s),(3,q),(4,i64 k)] st [TT,.eff (u8 c) id,FF,TT,TT,i64 j]=some (.normal,48,[str s,.undef,q,i64 j],st,[bo (ltN k s.size)=TT,indexA E0 9 (str s) (i64 k)=some (u8 c)∧st=st,bo (geB c 97)=FF,bo (geB c 48)=TT,bo (leB c 57)=TT,i64 (addN k 1)=i64 j]):=by kernel_rfl
theorem ref_m:refEv 3 [(0,str s),(3,q),(4,i64 k)] st [TT,.eff (u8 c) id,FF,FF,FF,i64 j]=some (.normal,48,[str s,.undef,q,i64 j],st,[bo (ltN k s.size)=TT,indexA E0 9 (str s) (i64 k)=some (u8 c)∧st=st,bo (geB c 97)=FF,bo (geB c 48)=FF,bo (neB c 45)=FF,i64 (addN k 1)=i64 j]):=by kernel_rfl
theorem ref_p:refEv 3 [(0,str s),(3,q),(4,i64 k)] st [TT,.eff (u8 c) id,FF,FF,TT,FF,i64 j]=some (.normal,48,[str s,.undef,q,i64 j],st,[bo (ltN k s.size)=TT,indexA E0 9 (str s) (i64 k)=some (u8 c)∧st=st,bo (geB c 97)=FF,bo (geB c 48)=FF,bo (neB c 45)=TT,bo (neB c 46)=FF,i64 (addN k 1)=i64 j]):=by kernel_rfl
theorem ref_x:refEv 3 [(0,str s),(3,q),(4,i64 k)] st [TT,.eff (u8 c) id,TT,FF,TT,FF,TT,TT,i64 j]=some (.normal,48,[str s,.undef,FF,i64 j],st,[bo (ltN k s.size)=TT,indexA E0 9 (str s) (i64 k)=some (u8 c)∧st=st,bo (geB c 97)=TT,bo (leB c 122)=FF,bo (geB c 48)=TT,bo (leB c 57)=FF,bo (neB c 45)=TT,bo (neB c 46)=TT,i64 (addN k 1)=i64 j]):=by kernel_rfl
theorem ref_y:refEv 3 [(0,str s),(3,q),(4,i64 k)] st [TT,.eff (u8 c) id,FF,TT,FF,TT,TT,i64 j]=some (.normal,48,[str s,.undef,FF,i64 j],st,[bo (ltN k s.size)=TT,indexA E0 9 (str s) (i64 k)=some (u8 c)∧st=st,bo (geB c 97)=FF,bo (geB c 48)=TT,bo (leB c 57)=FF,bo (neB c 45)=TT,bo (neB c 46)=TT,i64 (addN k 1)=i64 j]):=by kernel_rfl
theorem ref_z:refEv 3 [(0,str s),(3,q),(4,i64 k)] st [TT,.eff (u8 c) id,FF,FF,TT,TT,i64 j]=some (.normal,48,[str s,.undef,FF,i64 j],st,[bo (ltN k s.size)=TT,indexA E0 9 (str s) (i64 k)=some (u8 c)∧st=st,bo (geB c 97)=FF,bo (geB c 48)=FF,bo (neB c 45)=TT,bo (neB c 46)=TT,i64 (addN k 1)=i64 j]):=by kernel_rfl
theorem ref_end:refEv 3 [(0,str s),(3,q),(4,i64 k)] st [FF]=some (.exit 0,48,[str s,.undef,q,i64 k],st,[bo (ltN k s.size)=FF]):=by kernel_rfl
theorem ref_0:refEv 0 [(0,str s)] st []=some (.normal,48,[str s,FF,.undef,.undef],st,[]):=by kernel_rfl
theorem ref_1a:refEv 1 [(0,str s)] st [FF]=some (.normal,48,[str s,.undef,FF,.undef],st,[bo (gtN s.size 0)=FF]):=by kernel_rfl
theorem ref_1b(b:Bool):refEv 1 [(0,str s)] st [TT,bo b]=some (.normal,48,[str s,.undef,bo b,.undef],st,[bo (gtN s.size 0)=TT,bo (ltN s.size 33)=bo b]):=by kernel_rfl
theorem ref_2:refEv 2 [(0,str s),(3,q)] st []=some (.normal,48,[str s,.undef,q,i64 0],st,[]):=by kernel_rfl
theorem ref_4:refEv 4 [(3,q)] st []=some (.normal,48,[.undef,q,q,.undef],st,[]):=by kernel_rfl
end
end
section
set_option maxRecDepth 4000
theorem ob_T{b:Bool}(h:b=true):bo b=TT:=by rw [h];rfl
theorem ob_F{b:Bool}(h:b=false):bo b=FF:=by rw [h];rfl
theorem ltN_eq(a b:Int):ltN a b=decide (a<b):=rfl
theorem gtN_eq(a b:Int):gtN a b=decide (a>b):=rfl
theorem geB_eq(a b:Int):geB a b=decide (a≥b):=rfl
theorem leB_eq(a b:Int):leB a b=decide (a≤b):=rfl
theorem eqB_eq(a b:Int):eqB a b=(a==b):=rfl
theorem neB_eq(a b:Int):neB a b=(a !=b):=rfl
theorem lt_F{a b:Int}(h:b≤a):bo (ltN a b)=FF:=ob_F (by rw [ltN_eq];simp;omega)
theorem lt_T{a b:Int}(h:a<b):bo (ltN a b)=TT:=ob_T (by rw [ltN_eq];simp;omega)
theorem gt_F{a b:Int}(h:a≤b):bo (gtN a b)=FF:=ob_F (by rw [gtN_eq];simp;omega)
theorem gt_T{a b:Int}(h:b<a):bo (gtN a b)=TT:=ob_T (by rw [gtN_eq];simp;omega)
theorem ge_F{a b:Int}(h:a<b):bo (geB a b)=FF:=ob_F (by rw [geB_eq];simp;omega)
theorem ge_T{a b:Int}(h:b≤a):bo (geB a b)=TT:=ob_T (by rw [geB_eq];simp;omega)
theorem le_F{a b:Int}(h:b<a):bo (leB a b)=FF:=ob_F (by rw [leB_eq];simp;omega)
theorem le_T{a b:Int}(h:a≤b):bo (leB a b)=TT:=ob_T (by rw [leB_eq];simp;omega)
theorem eq_T{a b:Int}(h:a=b):bo (eqB a b)=TT:=ob_T (by rw [eqB_eq,h];simp)
theorem eq_F{a b:Int}(h:a≠b):bo (eqB a b)=FF:=ob_F (by rw [eqB_eq,beq_eq_false_iff_ne];exact h)
theorem ne_F{a b:Int}(h:a=b):bo (neB a b)=FF:=ob_F (by rw [neB_eq,h];simp)
theorem ne_T{a b:Int}(h:a≠b):bo (neB a b)=TT:=ob_T (by rw [neB_eq];simpa using h)
theorem addN_eq(a b:Int)(h:0≤a+b∧a+b≤9223372036854775807):addN a b=a+b:=by
 have:addN a b=IntKind.i64.wrap (a+b):=rfl
 rw [this,IntWalk.i64_in _ (by omega)]
def mayC(c:Int):Prop:=(97≤c∧c≤122)∨(48≤c∧c≤57)∨c=45∨c=46
instance (c:Int):Decidable (mayC c):=by unfold mayC;infer_instance
def sg(s:ByteArray)(k:Nat):Int:=(((s[k]?).getD 0).toNat:Int)
theorem ty9':∃i,E0.ty 9=some i∧i.desc= .string:=⟨_,rfl,by kernel_rfl⟩
def mayS(s:ByteArray):Prop:=1≤s.size∧s.size≤32∧∀k,k<s.size→mayC (sg s k)
theorem index_ok(s:ByteArray)(k:Nat)(hk:k<s.size):indexA E0 9 (str s) (i64 k)=some (u8 (sg s k)):=by
 obtain ⟨i,h1,h2⟩:=ty9'
 have hs:s[k]? =some s[k]:=getElem?_pos s k hk
 simp only [indexA,h1,h2]
 rw [if_pos (by omega)]
 have e:((k:Int)).toNat=k:=rfl
 rw [e,sg,hs];rfl
theorem any_run{c:Code}{ss:List Nat}{sites:Nat→List Nat}{n0:Nat}{l:List (Nat×AV)}{st st1:St}{x:List Or}{e:Exit}{n:Nat}{F:List AV}{ob:Ob}{G:Tm→List AV}(h:((evS Tryz.prog E0 noOv sites 100000 ss c ⟨n0,l,[]⟩ st x).map fun q=>(q.1,q.2.1.n,G q.2.1,q.2.2.1,q.2.2.2.2))=some (e,n,F,st1,ob))(hob:ob.ok){T:Tm}(hn:T.n=n0)(hT:∀p∈l,T.get p.1=p.2):
  AW Tryz.prog c (fun e' T' st'=>e'=e∧T'.n=n∧G T'=F∧st'=st1) T st:=by
 obtain ⟨⟨e1,T1,s1,x1,o1⟩,h1,h2⟩:=Option.map_eq_some_iff.1 h
 simp only [Prod.mk.injEq] at h2
 obtain ⟨rfl,h3,h4,rfl,rfl⟩:=h2
 refine (AW.run hE (ov:=noOv) noOv_ok h1 hob hn hT).mono fun e' T' st' hp=> ?_
 obtain ⟨rfl,rfl,rfl⟩:=hp
 exact ⟨rfl,h3,h4,rfl⟩
theorem one{P:Nat×AV→Prop}{p:Nat×AV}(h:P p):∀q∈ [p],P q:=fun q hq=>by obtain rfl:=List.mem_singleton.1 hq;exact h
theorem conz{P:Nat×AV→Prop}{p:Nat×AV}{r:List (Nat×AV)}(h:P p)(h':∀q∈r,P q):∀q∈p::r,P q:=fun q hq=>by
 rcases List.mem_cons.1 hq with rfl|hq
 ·exact h
 ·exact h' q hq
def GM(T:Tm):List AV:= [T.get 0,T.get 2,T.get 14,T.get 15]
theorem may_turn{s:ByteArray}{k:Nat}{T:Tm}{st:St}(hk:k<s.size)(hs:s.size≤32)(hn:T.n=45)(h0:T.get 0=str s)(h14:T.get 14=i64 s.size)(h15:T.get 15=i64 k):
  AW Tryz.prog (mayP 2) (fun e T' st'=>T'.n=45∧st'=st∧((mayC (sg s k)∧e= .normal∧T'.get 0=str s∧T'.get 14=i64 s.size∧T'.get 15=i64 ((k+1:Nat):Int))∨(¬mayC (sg s k)∧e= .ret∧T'.get 2=FF))) T st:=by
 have hT:∀p∈ [(0,str s),(14,i64 s.size),(15,i64 k)],T.get p.1=p.2:=conz h0 (conz h14 (one h15))
 have hx:=index_ok s k hk
 have hlt:bo (ltN k s.size)=TT:=lt_T (by omega)
 have hadd:i64 (addN k 1)=i64 ((k+1:Nat):Int):=by rw [addN_eq _ _ (by omega)];rfl
 generalize sg s k=c at*
 have good:∀{x:List Or} {ob:Ob},mayEv 2 [(0,str s),(14,i64 s.size),(15,i64 k)] st x=some (.normal,45,[str s,.undef,i64 s.size,i64 ((k+1:Nat):Int)],st,ob)→ob.ok→mayC c→AW Tryz.prog (mayP 2) (fun e T' st'=>T'.n=45∧st'=st∧((mayC c∧e= .normal∧T'.get 0=str s∧T'.get 14=i64 s.size∧T'.get 15=i64 ((k+1:Nat):Int))∨(¬mayC c∧e= .ret∧T'.get 2=FF))) T st:=fun h hob hc=>by
  refine (any_run (G:=GM) h hob hn hT).mono fun e T' st' ⟨he,hn',hF,hst⟩=> ?_
  simp only [GM,List.cons.injEq,and_true] at hF
  exact ⟨hn',hst,.inl ⟨hc,he,hF.1,hF.2.2.1,hF.2.2.2⟩⟩
 have bad:∀{x:List Or} {ob:Ob},mayEv 2 [(0,str s),(14,i64 s.size),(15,i64 k)] st x=some (.ret,45,[str s,FF,i64 s.size,i64 k],st,ob)→ob.ok→¬mayC c→AW Tryz.prog (mayP 2) (fun e T' st'=>T'.n=45∧st'=st∧((mayC c∧e= .normal∧T'.get 0=str s∧T'.get 14=i64 s.size∧T'.get 15=i64 ((k+1:Nat):Int))∨(¬mayC c∧e= .ret∧T'.get 2=FF))) T st:=fun h hob hc=>by
  refine (any_run (G:=GM) h hob hn hT).mono fun e T' st' ⟨he,hn',hF,hst⟩=> ?_
  simp only [GM,List.cons.injEq,and_true] at hF
  exact ⟨hn',hst,.inr ⟨hc,he,hF.2.1⟩⟩
 rcases Int.lt_or_le c 97 with h1|h1
 ·rcases Int.lt_or_le c 48 with h2|h2
  ·by_cases h3:c=45
   ·exact good (may_m s s.size k c _ st) (by simp only [Ob.ok_cons,Ob.ok_nil,and_true];exact ⟨hlt,hx,ge_F h1,ge_F h2,eq_T h3,hadd⟩) (.inr (.inr (.inl h3)))
   ·by_cases h4:c=46
    ·exact good (may_p s s.size k c _ st) (by simp only [Ob.ok_cons,Ob.ok_nil,and_true];exact ⟨hlt,hx,ge_F h1,ge_F h2,eq_F h3,eq_T h4,hadd⟩) (.inr (.inr (.inr h4)))
    ·exact bad (may_z s s.size k c st) (by simp only [Ob.ok_cons,Ob.ok_nil,and_true];exact ⟨hlt,hx,ge_F h1,ge_F h2,eq_F h3,eq_F h4⟩) (by unfold mayC;omega)
  ·rcases Int.lt_or_le 57 c with h3|h3
   ·exact bad (may_y s s.size k c st) (by simp only [Ob.ok_cons,Ob.ok_nil,and_true];exact ⟨hlt,hx,ge_F h1,ge_T h2,le_F h3,eq_F (by omega),eq_F (by omega)⟩) (by unfold mayC;omega)
   ·exact good (may_d s s.size k c _ st) (by simp only [Ob.ok_cons,Ob.ok_nil,and_true];exact ⟨hlt,hx,ge_F h1,ge_T h2,le_T h3,hadd⟩) (.inr (.inl ⟨h2,h3⟩))
 ·rcases Int.lt_or_le 122 c with h2|h2
  ·exact bad (may_x s s.size k c st) (by simp only [Ob.ok_cons,Ob.ok_nil,and_true];exact ⟨hlt,hx,ge_T h1,le_F h2,ge_T (by omega),le_F (by omega),eq_F (by omega),eq_F (by omega)⟩) (by unfold mayC;omega)
  ·exact good (may_a s s.size k c _ st) (by simp only [Ob.ok_cons,Ob.ok_nil,and_true];exact ⟨hlt,hx,ge_T h1,le_T h2,hadd⟩) (.inl ⟨h1,h2⟩)
theorem may_loop{s:ByteArray}(hs:s.size≤32){T:Tm}{st:St}(hn:T.n=45)(h0:T.get 0=str s)(h14:T.get 14=i64 s.size)(h15:T.get 15=i64 0):
  AW Tryz.prog (.loop (mayP 2)) (fun e T' st'=>T'.n=45∧st'=st∧((e= .exit 0∧∀k,k<s.size→mayC (sg s k))∨(e= .ret∧T'.get 2=FF∧¬∀k,k<s.size→mayC (sg s k)))) T st:=by
 refine .loop (fun n T st'=>∃k:Nat,k≤s.size∧n=s.size- k∧st'=st∧T.n=45∧T.get 0=str s∧T.get 14=i64 s.size∧T.get 15=i64 k∧∀j,j<k→mayC (sg s j)) s.size ⟨0,by omega,rfl,rfl,hn,h0,h14,h15,fun j hj=>by omega⟩ fun n T st' hI=> ?_
 obtain ⟨k,hk,rfl,rfl,hn,h0,h14,h15,hg⟩:=hI
 by_cases hlt:k<s.size
 ·refine (may_turn hlt hs hn h0 h14 h15).mono fun e T' st2 ⟨hn',hst,h⟩=> ?_
  subst hst
  rcases h with ⟨hc,rfl,q0,q14,q15⟩|⟨hc,rfl,q2⟩
  ·refine ⟨s.size- (k+1),by omega,k+1,by omega,rfl,rfl,hn',q0,q14,q15,fun j hj=> ?_⟩
   rcases Nat.lt_succ_iff_lt_or_eq.1 hj with h|rfl
   ·exact hg j h
   ·exact hc
  ·exact ⟨hn',rfl,.inr ⟨rfl,q2,fun h=>hc (h k hlt)⟩⟩
 ·obtain rfl:k=s.size:=by omega
  refine (any_run (G:=GM) (may_end s s.size s.size st') (by simp only [Ob.ok_cons,Ob.ok_nil,and_true];exact lt_F (by omega)) hn (conz h0 (conz h14 (one h15)))).mono fun e T' st2 ⟨he,hn',_,hst⟩=> ?_
  subst he;subst hst
  exact ⟨hn',rfl,.inl ⟨rfl,hg⟩⟩
instance (s:ByteArray):Decidable (mayS s):=by unfold mayS;infer_instance
theorem may_ok(s:ByteArray)(st:St):obC 90 [str s] st (bo (decide (mayS s))) st:=by
 refine ACalls.body (E:=E0) hE Tryz.func90 body85 ?_
 refine .seq ((any_run (G:=GM) (may_5 s st) Ob.ok_nil rfl (one rfl)).mono fun e T1 s1 ⟨he,n1,F1,hst⟩=> ?_)
 subst he;subst hst
 simp only [GM,List.cons.injEq] at F1
 simp only [thenA]
 have hT:=conz (P:=fun p=>T1.get p.1=p.2) (p:=(0,str s)) F1.1 (one (p:=(2,FF)) F1.2.1)
 have fin:∀{T:Tm} {b:Bool},T.get 2=bo b→(mayS s↔b=true)→endA E0 Tryz.f90 (fun r s'=>r=bo (decide (mayS s))∧s'=s1) .ret T s1:=fun {T b} h hb=>by
  refine ⟨[T.get 2],rfl,?_,rfl⟩
  simp only [oneOrTup]
  rw [h]
  congr 1
  cases b
  ·exact (decide_eq_false fun h=>by have:=hb.1 h;cases this).symm
  ·exact (decide_eq_true (hb.2 rfl)).symm
 by_cases h1:s.size<1
 ·refine .seq ((any_run (G:=GM) (may_0 s s1) (by simp only [Ob.ok_cons,Ob.ok_nil,and_true];exact lt_T (by omega)) n1 hT).mono fun e T' st' ⟨he,hn,hF,hst⟩=> ?_)
  subst he;subst hst
  simp only [GM,List.cons.injEq] at hF
  simp only [thenA]
  exact fin (b:=false) hF.2.1 ⟨fun h=>by have:=h.1;omega,fun h=>by cases h⟩
 by_cases h2:32<s.size
 ·refine .seq ((any_run (G:=GM) (may_1 s s1) (by simp only [Ob.ok_cons,Ob.ok_nil,and_true];exact ⟨lt_F (by omega),gt_T (by omega)⟩) n1 hT).mono fun e T' st' ⟨he,hn,hF,hst⟩=> ?_)
  subst he;subst hst
  simp only [GM,List.cons.injEq] at hF
  simp only [thenA]
  exact fin (b:=false) hF.2.1 ⟨fun h=>by have:=h.2.1;omega,fun h=>by cases h⟩
 refine .seq ((any_run (G:=GM) (may_2 s s1) (by simp only [Ob.ok_cons,Ob.ok_nil,and_true];exact ⟨lt_F (by omega),gt_F (by omega)⟩) n1 hT).mono fun e T2 s2 ⟨he,n2,hF,hst⟩=> ?_)
 subst he;subst hst
 simp only [GM,List.cons.injEq] at hF
 simp only [thenA]
 refine .seq (.seq ((any_run (G:=GM) (may_3 s s2) Ob.ok_nil n2 (one hF.1)).mono fun e T3 s3 ⟨he,n3,hF3,hst⟩=> ?_))
 subst he;subst hst
 simp only [GM,List.cons.injEq,and_true] at hF3
 simp only [thenA]
 refine .block ((may_loop (by omega) n3 hF3.1 hF3.2.2.1 hF3.2.2.2).mono fun e T4 s4 ⟨n4,hst,h⟩=> ?_)
 subst hst
 rcases h with ⟨rfl,hall⟩|⟨rfl,q2,hno⟩
 ·simp only [blockA,if_true,thenA]
  refine .seq ((any_run (G:=GM) (may_4 s4) Ob.ok_nil n4 (fun p hp=>by cases hp)).mono fun e T5 s5 ⟨he,n5,hF5,hst⟩=> ?_)
  subst he;subst hst
  simp only [GM,List.cons.injEq] at hF5
  simp only [thenA]
  exact .ret (fin (b:=true) hF5.2.1 ⟨fun _=>rfl,fun _=>⟨by omega,by omega,hall⟩⟩)
 ·simp only [blockA,thenA]
  exact fin (b:=false) q2 ⟨fun h=>absurd h.2.2 hno,fun h=>by cases h⟩
end
section
set_option maxRecDepth 4000
def GR(T:Tm):List AV:= [T.get 0,T.get 2,T.get 3,T.get 4]
theorem ref_turn{s:ByteArray}{k:Nat}{b:Bool}{T:Tm}{st:St}(hk:k<s.size)(hs:s.size≤1000000000000)(hn:T.n=48)(h0:T.get 0=str s)(h3:T.get 3=bo b)(h4:T.get 4=i64 k):
  AW Tryz.prog (refP 3) (fun e T' st'=>e= .normal∧T'.n=48∧st'=st∧T'.get 0=str s∧T'.get 3=bo (b&&decide (mayC (sg s k)))∧T'.get 4=i64 ((k+1:Nat):Int)) T st:=by
 have hT:∀p∈ [(0,str s),(3,bo b),(4,i64 k)],T.get p.1=p.2:=conz h0 (conz h3 (one h4))
 have hx:=index_ok s k hk
 have hlt:bo (ltN k s.size)=TT:=lt_T (by omega)
 have hadd:i64 (addN k 1)=i64 ((k+1:Nat):Int):=by rw [addN_eq _ _ (by omega)];rfl
 generalize sg s k=c at*
 have good:∀{x:List Or} {ob:Ob},refEv 3 [(0,str s),(3,bo b),(4,i64 k)] st x=some (.normal,48,[str s,.undef,bo b,i64 ((k+1:Nat):Int)],st,ob)→ob.ok→mayC c→AW Tryz.prog (refP 3) (fun e T' st'=>e= .normal∧T'.n=48∧st'=st∧T'.get 0=str s∧T'.get 3=bo (b&&decide (mayC c))∧T'.get 4=i64 ((k+1:Nat):Int)) T st:=fun h hob hc=>by
  refine (any_run (G:=GR) h hob hn hT).mono fun e T' st' ⟨he,hn',hF,hst⟩=> ?_
  simp only [GR,List.cons.injEq,and_true] at hF
  exact ⟨he,hn',hst,hF.1,by rw [hF.2.2.1,decide_eq_true hc,Bool.and_true],hF.2.2.2⟩
 have bad:∀{x:List Or} {ob:Ob},refEv 3 [(0,str s),(3,bo b),(4,i64 k)] st x=some (.normal,48,[str s,.undef,FF,i64 ((k+1:Nat):Int)],st,ob)→ob.ok→¬mayC c→AW Tryz.prog (refP 3) (fun e T' st'=>e= .normal∧T'.n=48∧st'=st∧T'.get 0=str s∧T'.get 3=bo (b&&decide (mayC c))∧T'.get 4=i64 ((k+1:Nat):Int)) T st:=fun h hob hc=>by
  refine (any_run (G:=GR) h hob hn hT).mono fun e T' st' ⟨he,hn',hF,hst⟩=> ?_
  simp only [GR,List.cons.injEq,and_true] at hF
  exact ⟨he,hn',hst,hF.1,by rw [hF.2.2.1,decide_eq_false hc,Bool.and_false];rfl,hF.2.2.2⟩
 rcases Int.lt_or_le c 97 with h1|h1
 ·rcases Int.lt_or_le c 48 with h2|h2
  ·by_cases h3:c=45
   ·exact good (ref_m s k c _ st (bo b)) (by simp only [Ob.ok_cons,Ob.ok_nil,and_true];exact ⟨hlt,hx,ge_F h1,ge_F h2,ne_F h3,hadd⟩) (.inr (.inr (.inl h3)))
   ·by_cases h4:c=46
    ·exact good (ref_p s k c _ st (bo b)) (by simp only [Ob.ok_cons,Ob.ok_nil,and_true];exact ⟨hlt,hx,ge_F h1,ge_F h2,ne_T h3,ne_F h4,hadd⟩) (.inr (.inr (.inr h4)))
    ·exact bad (ref_z s k c _ st (bo b)) (by simp only [Ob.ok_cons,Ob.ok_nil,and_true];exact ⟨hlt,hx,ge_F h1,ge_F h2,ne_T h3,ne_T h4,hadd⟩) (by unfold mayC;omega)
  ·rcases Int.lt_or_le 57 c with h3|h3
   ·exact bad (ref_y s k c _ st (bo b)) (by simp only [Ob.ok_cons,Ob.ok_nil,and_true];exact ⟨hlt,hx,ge_F h1,ge_T h2,le_F h3,ne_T (by omega),ne_T (by omega),hadd⟩) (by unfold mayC;omega)
   ·exact good (ref_d s k c _ st (bo b)) (by simp only [Ob.ok_cons,Ob.ok_nil,and_true];exact ⟨hlt,hx,ge_F h1,ge_T h2,le_T h3,hadd⟩) (.inr (.inl ⟨h2,h3⟩))
 ·rcases Int.lt_or_le 122 c with h2|h2
  ·exact bad (ref_x s k c _ st (bo b)) (by simp only [Ob.ok_cons,Ob.ok_nil,and_true];exact ⟨hlt,hx,ge_T h1,le_F h2,ge_T (by omega),le_F (by omega),ne_T (by omega),ne_T (by omega),hadd⟩) (by unfold mayC;omega)
  ·exact good (ref_a s k c _ st (bo b)) (by simp only [Ob.ok_cons,Ob.ok_nil,and_true];exact ⟨hlt,hx,ge_T h1,le_T h2,hadd⟩) (.inl ⟨h1,h2⟩)
theorem ref_loop{s:ByteArray}{b:Bool}(hs:s.size≤1000000000000){T:Tm}{st:St}(hn:T.n=48)(h0:T.get 0=str s)(h3:T.get 3=bo b)(h4:T.get 4=i64 0):
  AW Tryz.prog (.loop (refP 3)) (fun e T' st'=>e= .exit 0∧T'.n=48∧st'=st∧T'.get 3=bo (b&&decide (∀k,k<s.size→mayC (sg s k)))) T st:=by
 refine .loop (fun n T st'=>∃k:Nat,k≤s.size∧n=s.size- k∧st'=st∧T.n=48∧T.get 0=str s∧T.get 3=bo (b&&decide (∀j,j<k→mayC (sg s j)))∧T.get 4=i64 k) s.size ⟨0,by omega,rfl,rfl,hn,h0,by rw [h3,decide_eq_true (fun j hj=>by omega),Bool.and_true],h4⟩ fun n T st' hI=> ?_
 obtain ⟨k,hk,rfl,rfl,hn,h0,h3,h4⟩:=hI
 by_cases hlt:k<s.size
 ·refine (ref_turn hlt hs hn h0 h3 h4).mono fun e T' st2 ⟨he,hn',hst,q0,q3,q4⟩=> ?_
  subst he;subst hst
  refine ⟨s.size- (k+1),by omega,k+1,by omega,rfl,rfl,hn',q0,?_,q4⟩
  rw [q3,Bool.and_assoc]
  congr 2
  rw [←Bool.decide_and]
  apply decide_eq_decide.2
  constructor
  ·rintro ⟨h1,h2⟩ j hj
   rcases Nat.lt_succ_iff_lt_or_eq.1 hj with h|rfl
   ·exact h1 j h
   ·exact h2
  ·exact fun h=>⟨fun j hj=>h j (by omega),h k (by omega)⟩
 ·obtain rfl:k=s.size:=by omega
  refine (any_run (G:=GR) (ref_end s s.size st' _) (by simp only [Ob.ok_cons,Ob.ok_nil,and_true];exact lt_F (by omega)) hn (conz h0 (conz h3 (one h4)))).mono fun e T' st2 ⟨he,hn',hF,hst⟩=> ?_
  subst he;subst hst
  simp only [GR,List.cons.injEq] at hF
  exact ⟨rfl,hn',rfl,hF.2.2.1⟩
theorem refMay_ok(s:ByteArray)(hs:s.size≤1000000000000)(st:St):obC 61 [str s] st (bo (decide (mayS s))) st:=by
 refine ACalls.body (E:=E0) hE Tryz.func61 body69 ?_
 refine .seq ((any_run (G:=GR) (ref_0 s st) Ob.ok_nil rfl (one rfl)).mono fun e T1 s1 ⟨he,n1,F1,hst⟩=> ?_)
 subst he;subst hst
 simp only [GR,List.cons.injEq] at F1
 simp only [thenA]
 have hd:AW Tryz.prog (refP 1) (fun e T' st'=>e= .normal∧T'.n=48∧st'=s1∧T'.get 0=str s∧T'.get 3=bo (decide (1≤s.size∧s.size≤32))) T1 s1:=by
  by_cases h0:s.size=0
  ·refine (any_run (G:=GR) (ref_1a s s1) (by simp only [Ob.ok_cons,Ob.ok_nil,and_true];exact gt_F (by omega)) n1 (one F1.1)).mono fun e T' st' ⟨he,hn,hF,hst⟩=> ?_
   simp only [GR,List.cons.injEq] at hF
   exact ⟨he,hn,hst,hF.1,by rw [hF.2.2.1,decide_eq_false (by omega)];rfl⟩
  ·refine (any_run (G:=GR) (ref_1b s s1 (decide (s.size<33))) (by simp only [Ob.ok_cons,Ob.ok_nil,and_true];exact ⟨gt_T (by omega),by rw [ltN_eq];congr 1;apply decide_eq_decide.2;omega⟩) n1 (one F1.1)).mono fun e T' st' ⟨he,hn,hF,hst⟩=> ?_
   simp only [GR,List.cons.injEq] at hF
   refine ⟨he,hn,hst,hF.1,?_⟩
   rw [hF.2.2.1]
   congr 1
   apply decide_eq_decide.2;omega
 refine .seq (hd.mono fun e T2 s2 ⟨he,n2,hst,h0,h3⟩=> ?_)
 subst he;subst hst
 simp only [thenA]
 refine .seq (.seq ((any_run (G:=GR) (ref_2 s s2 _) Ob.ok_nil n2 (conz h0 (one h3))).mono fun e T3 s3 ⟨he,n3,hF3,hst⟩=> ?_))
 subst he;subst hst
 simp only [GR,List.cons.injEq,and_true] at hF3
 simp only [thenA]
 refine .block ((ref_loop hs n3 hF3.1 hF3.2.2.1 hF3.2.2.2).mono fun e T4 s4 ⟨he,n4,hst,h⟩=> ?_)
 subst he;subst hst
 simp only [blockA,if_true,thenA]
 refine .seq ((any_run (G:=GR) (ref_4 s4 _) Ob.ok_nil n4 (one h)).mono fun e T5 s5 ⟨he,n5,hF5,hst⟩=> ?_)
 subst he;subst hst
 simp only [GR,List.cons.injEq] at hF5
 simp only [thenA]
 refine .ret ⟨[T5.get 2],rfl,?_,rfl⟩
 simp only [oneOrTup]
 rw [hF5.2.1,←Bool.decide_and]
 refine congrArg bo (decide_eq_decide.2 ?_)
 unfold mayS
 constructor
 ·rintro ⟨⟨a,b⟩,c⟩;exact ⟨a,b,c⟩
 ·rintro ⟨a,b,c⟩;exact ⟨⟨a,b⟩,c⟩
end
section
set_option maxRecDepth 100000
def subN(a b:Int):Int:=valI (binOp .sub 3 (.int .i64 a) (.int .i64 b))
def eqN(a b:Int):Bool:=boolI (binOp .eql 3 (.int .i64 a) (.int .i64 b))
def sitesD:Nat→List Nat
 |58=> [2018,2025,2031,6090,8000]
 |60=> [2006,7,2011,12,2019,20,2026,5000]
 |_=> []
noncomputable def dkEv(f:Nat)(args:List AV)(st:St)(o:List Or):=(evCallS Tryz.prog E0 noOv sitesD 100000 f args st o).map fun q=>(q.1,q.2.1,q.2.2.2)
section
variable (d m:Nat) (st:St) (fu q fu':Int) (f1 f2:St→St) (off b:Bool)
theorem burn0:dkEv 60 [.ptr d 0] st [.eff (i64 fu) id,TT]=some (FF,st,[obL st 3 (.ptr d 2) (i64 fu),bo (eqN fu 0)=TT]):=by kernel_rfl
theorem burn1:dkEv 60 [.ptr d 0] st [.eff (i64 fu) id,FF,.eff (i64 fu) id,i64 fu',.eff .undef f1,.eff (i64 fu') id,bo b,.eff .undef f2,.eff (bo b) id]=some (bo b,f2 (f1 st),
 [obL st 3 (.ptr d 2) (i64 fu),bo (eqN fu 0)=FF,obL st 3 (.ptr d 2) (i64 fu),i64 (subN fu 1)=i64 fu',storeA E0 st 3 (.ptr d 2) (i64 fu')=some (f1 st),obL (f1 st) 3 (.ptr d 2) (i64 fu'),bo (eqN fu' 0)=bo b,storeA E0 (f1 st) 4 (.ptr d 3) (bo b)=some (f2 (f1 st)),obL (f2 (f1 st)) 4 (.ptr d 3) (bo b)]):=by kernel_rfl
theorem rdOff(there:Bool)(ns:AV):dkEv 58 [.ptr d 0,bo there,ns] st [.eff (.mp m) id,.eff TT id]=some (i64 8,st,[obL st 105 (.ptr d 0) (.mp m),obL st 4 (.ptr d 3) TT]):=by kernel_rfl
theorem rdBad(there:Bool)(i:Nat)(fl:Bool)(n:ByteArray):dkEv 58 [.ptr d 0,bo there,.sl i 1 0 1 fl] st [.eff (.mp m) id,.eff FF id,.eff (str n) id,.eff FF id]=some (i64 1,st,[obL st 105 (.ptr d 0) (.mp m),obL st 4 (.ptr d 3) FF,obL st 9 (.ptr i 0) (str n),obC 90 [str n] st FF st]):=by kernel_rfl
def idsD(d i m:Nat):List Nat:= [d,i,m]
def midSt(st:St)(ids:List Nat)(f1:St→St):St:=(f1 (st.hide ids)).show st ids
def obRd(d i m a:Nat)(st:St)(n:ByteArray)(w v:AV)(f1 f2:St→St):Ob:=
  [∀k∈idsD d i m,k<st.next,(idsD d i m).contains d=true∧loadA E0 st 105 (.ptr d 0)=some (.mp m),(idsD d i m).contains i=true∧loadA E0 st 9 (.ptr i 0)=some (str n),(idsD d i m).contains m=true∧lookupA E0 st 105 (.mp m) (str n) true=some w,
   (true=true→(idsD d i m).all (fun k=>(st.get k).isSome)=true),allocA E0 (st.hide (idsD d i m)) 104=some (.ptr a 0,f1 (st.hide (idsD d i m))),(false=true→(idsD d i m).all (fun k=>((midSt st (idsD d i m) f1).get k).isSome)=true),storeA E0 (midSt st (idsD d i m) f1) 104 (.ptr a 0) v=some (f2 (midSt st (idsD d i m) f1))]
theorem rdHitT(i a:Nat)(fl:Bool)(n:ByteArray)(v:AV):dkEv 58 [.ptr d 0,TT,.sl i 1 0 1 fl] st [.eff (.mp m) id,.eff FF id,.eff (str n) id,.eff TT id,.eff (.mp m) id,.eff (str n) id,.eff (.tup [v,TT]) id,.eff (.ptr a 0) f1,.eff .undef f2]=some (i64 0,f2 (midSt st (idsD d i m) f1),
 [obL st 105 (.ptr d 0) (.mp m),obL st 4 (.ptr d 3) FF,obL st 9 (.ptr i 0) (str n),obC 90 [str n] st TT st]++obRd d i m a st n (.tup [v,TT]) v f1 f2):=by kernel_rfl
theorem rdMissT(i a:Nat)(fl:Bool)(n:ByteArray)(v:AV):dkEv 58 [.ptr d 0,TT,.sl i 1 0 1 fl] st [.eff (.mp m) id,.eff FF id,.eff (str n) id,.eff TT id,.eff (.mp m) id,.eff (str n) id,.eff (.tup [v,FF]) id,.eff (.ptr a 0) f1,.eff .undef f2]=some (i64 6,f2 (midSt st (idsD d i m) f1),
 [obL st 105 (.ptr d 0) (.mp m),obL st 4 (.ptr d 3) FF,obL st 9 (.ptr i 0) (str n),obC 90 [str n] st TT st]++obRd d i m a st n (.tup [v,FF]) v f1 f2):=by kernel_rfl
theorem rdHitF(i a:Nat)(fl:Bool)(n:ByteArray)(v:AV):dkEv 58 [.ptr d 0,FF,.sl i 1 0 1 fl] st [.eff (.mp m) id,.eff FF id,.eff (str n) id,.eff TT id,.eff (.mp m) id,.eff (str n) id,.eff (.tup [v,TT]) id,.eff (.ptr a 0) f1,.eff .undef f2]=some (i64 0,f2 (midSt st (idsD d i m) f1),
 [obL st 105 (.ptr d 0) (.mp m),obL st 4 (.ptr d 3) FF,obL st 9 (.ptr i 0) (str n),obC 90 [str n] st TT st]++obRd d i m a st n (.tup [v,TT]) v f1 f2):=by kernel_rfl
theorem rdMissF(i a:Nat)(fl:Bool)(n:ByteArray)(v:AV):dkEv 58 [.ptr d 0,FF,.sl i 1 0 1 fl] st [.eff (.mp m) id,.eff FF id,.eff (str n) id,.eff TT id,.eff (.mp m) id,.eff (str n) id,.eff (.tup [v,FF]) id,.eff (.ptr a 0) f1,.eff .undef f2]=some (i64 0,f2 (midSt st (idsD d i m) f1),
 [obL st 105 (.ptr d 0) (.mp m),obL st 4 (.ptr d 3) FF,obL st 9 (.ptr i 0) (str n),obC 90 [str n] st TT st]++obRd d i m a st n (.tup [v,FF]) v f1 f2):=by kernel_rfl
end
end
section
set_option maxRecDepth 4000
structure PD (st:St) (d:Nat) (L:List PF) (q fu:Int) (off:Bool) (m:Nat):Prop where
 row:st.get d=some (.row [.mp m,i64 q,i64 fu,bo off] 107)
 map:∃bs clock,st.get m=some (.map (L.map ent) bs clock)
theorem PD.ne{st:St}{d m:Nat}{L:List PF}{q fu:Int}{off:Bool}(h:PD st d L q fu off m):d≠m:=fun e=>by
 obtain ⟨bs,c,hm⟩:=h.map
 rw [←e,h.row] at hm;cases hm
theorem load_row{st:St}{id:Nat}{vs:List AV}{ty:Nat}(hg:st.get id=some (.row vs ty)){t off:Nat}{a:AV}(h:partA E0 t vs off=some a):loadA E0 st t (.ptr id off)=some a:=by
 simp only [loadA,hg,h]
theorem plainT{t:Nat}{i:TI}(h:E0.ty t=some i)(hi:isAggD i.desc=false){vs:List AV}{off:Nat}{a:AV}(h2:vs[off]? =some a):partA E0 t vs off=some a:=by
 simp only [partA,h,hi,Bool.false_eq_true,if_false,h2]
theorem ty9:E0.ty 9=some ⟨.string,1,16,some (.string ⟨#[]⟩)⟩:=by kernel_rfl
theorem p101{vs:List AV}{off:Nat}{a:AV}(h:vs[off]? =some a):partA E0 105 vs off=some a:=plainT ty101' rfl h
theorem p3{vs:List AV}{off:Nat}{a:AV}(h:vs[off]? =some a):partA E0 3 vs off=some a:=plainT ty3 rfl h
theorem p4{vs:List AV}{off:Nat}{a:AV}(h:vs[off]? =some a):partA E0 4 vs off=some a:=plainT ty4 rfl h
theorem p9{vs:List AV}{off:Nat}{a:AV}(h:vs[off]? =some a):partA E0 9 vs off=some a:=plainT ty9 rfl h
theorem alloc105(st:St):allocA E0 st 104=some (.ptr st.next 0,st.push (.row [.nils,i64 0] 104)):=by kernel_rfl
theorem size105':tySize E0 104=some 2:=by kernel_rfl
theorem store105{st:St}{a:Nat}{v0 v1 x y:AV}{ty:Nat}(hg:st.get a=some (.row [v0,v1] ty))(hl:a∉st.lock):storeA E0 st 104 (.ptr a 0) (.agg [x,y])=some (st.set a (.row [x,y] ty)):=by
 simp only [storeA,avCells,St.wget_of hg hl,size105']
 simp
theorem dk_run{f:Nat}{args:List AV}{a:AV}{st st':St}{o:List Or}{ob:Ob}(h:dkEv f args st o=some (a,st',ob))(hob:ob.ok):obC f args st a st':=by
 obtain ⟨⟨a1,s1,x1,o1⟩,h1,h2⟩:=Option.map_eq_some_iff.1 h
 simp only [Prod.mk.injEq] at h2
 obtain ⟨rfl,rfl,rfl⟩:=h2
 exact ACalls.run hE (ov:=noOv) noOv_ok h1 hob
def bump(st:St)(k:Nat):St:={st with next:=st.next+k}
theorem mid_get(st:St)(ids:List Nat)(o:AObj)(k:Nat)(hk:st.next∉ids):(midSt st ids fun _=>(st.hide ids).push o).get k=if k=st.next then some o else st.get k:=by
 unfold midSt
 rw [St.show_get]
 have hp:((st.hide ids).push o).get k=if k=st.next then some o else st.get k:=by
  rw [St.get_push];rfl
 by_cases h:k∈ids∧(st.get k).isSome=true
 ·rw [if_pos h,if_neg (fun e=>hk (by rw [←e];exact h.1))]
 ·rw [if_neg h,hp]
theorem mid_next(st:St)(ids:List Nat)(o:AObj):(midSt st ids fun _=>(st.hide ids).push o).next=st.next+1:=by
 unfold midSt
 show (St.show1 _ _ _).next=_
 rw [St.show1_next];rfl
theorem mid_lock(st:St)(ids:List Nat)(o:AObj):(midSt st ids fun _=>(st.hide ids).push o).lock=st.lock:=rfl
theorem mid_gl(st:St)(ids:List Nat)(o:AObj):(midSt st ids fun _=>(st.hide ids).push o).gl=st.gl:=by
 unfold midSt
 show (St.show1 _ _ _).gl=_
 rw [St.show1_gl];rfl
def rdE(L:List PF)(off there:Bool)(n:ByteArray):Int:=
 if off=true then 8 else if¬mayS n then 1 else if there=true∧find n L=none then 6 else 0
theorem rd_end{st:St}{d m i:Nat}{L:List PF}{q fu:Int}{bs:List Nat}{clock:Nat}(hrow:st.get d=some (.row [.mp m,i64 q,i64 fu,FF] 107))(hm:st.get m=some (.map (L.map ent) bs clock))(hw:st.wf){n:ByteArray}{ty:Nat}{r:List AV}(hi:st.get i=some (.row (str n::r) ty))(hl:st.lock= [])
  {x y w:AV} (hlk:lookupA E0 st 105 (.mp m) (str n) true=some w):∃f1 f2:St→St,(obRd d i m st.next st n w (.agg [x,y]) f1 f2).ok∧(∀k o,st.get k=some o→(f2 (midSt st (idsD d i m) f1)).get k=some o)∧(f2 (midSt st (idsD d i m) f1)).next=st.next+1∧(f2 (midSt st (idsD d i m) f1)).lock=st.lock∧(f2 (midSt st (idsD d i m) f1)).gl=st.gl:=by
 have hd:=hw _ _ hrow
 have hmm:=hw _ _ hm
 have hii:=hw _ _ hi
 have hk:st.next∉idsD d i m:=by simp only [idsD,List.mem_cons,List.not_mem_nil,or_false];omega
 refine ⟨fun _=>(st.hide (idsD d i m)).push (.row [.nils,i64 0] 104),fun _=>(midSt st (idsD d i m) fun _=>(st.hide (idsD d i m)).push (.row [.nils,i64 0] 104)).set st.next (.row [x,y] 104),?_,fun k o ho=> ?_,?_,?_,?_⟩
 ·unfold obRd
  simp only [Ob.ok_cons,Ob.ok_nil,and_true]
  refine ⟨fun k hk=> ?_,⟨by simp [idsD],load_row hrow (p101 rfl)⟩,⟨by simp [idsD],load_row hi (p9 rfl)⟩,⟨by simp [idsD],hlk⟩,fun _=>by simp [idsD,hrow,hm,hi],alloc105 _,(fun h=>(by cases h)),?_⟩
  ·simp only [idsD,List.mem_cons,List.not_mem_nil,or_false] at hk
   rcases hk with rfl|rfl|rfl<;>assumption
  ·exact store105 (by rw [mid_get _ _ _ _ hk,if_pos rfl]) (by rw [mid_lock,hl];simp)
 ·have:=hw _ _ ho
  rw [St.get_set,if_neg (by omega),mid_get _ _ _ _ hk,if_neg (by omega)];exact ho
 ·exact mid_next st (idsD d i m) (.row [.nils,i64 0] 104)
 ·exact mid_lock st (idsD d i m) (.row [.nils,i64 0] 104)
 ·exact mid_gl st (idsD d i m) (.row [.nils,i64 0] 104)
theorem forget_bump{f:Nat}{args:List AV}{st st':St}{a:AV}{k:Nat}(h:obC f args st a st')(h1:∀i o,st.get i=some o→st'.get i=some o)(h2:st'.next=st.next+k)(h3:st'.lock=st.lock)(h4:st'.gl=st.gl):obC f args st a (bump st k):=
 ACalls.forget h fun r s ⟨e1,e2⟩ _=>⟨bump st k,⟨e1,rfl⟩,by rw [e2];exact h1,by rw [e2,h2];rfl,by rw [e2,h3];rfl,by rw [e2,h4];rfl⟩
theorem ready_ok{st:St}{d m:Nat}{L:List PF}{q fu:Int}{off:Bool}(hp:PD st d L q fu off m)(hw:st.wf){i:Nat}{fl:Bool}{n:ByteArray}{ty:Nat}(hi:st.get i=some (.row [str n] ty))(hl:st.lock= [])(there:Bool):
  ∃k,obC 58 [.ptr d 0,bo there,.sl i 1 0 1 fl] st (i64 (rdE L off there n)) (bump st k):=by
 obtain ⟨bs,clock,hm⟩:=hp.map
 have o1:obL st 105 (.ptr d 0) (.mp m):=⟨load_row hp.row (p101 rfl),rfl⟩
 have b0:bump st 0=st:=rfl
 cases off with
 |true=>
  refine ⟨0,?_⟩
  rw [b0]
  have e:rdE L true there n=8:=by unfold rdE;rw [if_pos rfl]
  rw [e]
  refine dk_run (rdOff d m st there _) ?_
  simp only [Ob.ok_cons,Ob.ok_nil,and_true]
  exact ⟨o1,load_row hp.row (p4 rfl),rfl⟩
 |false=>
  have o2:obL st 4 (.ptr d 3) FF:=⟨load_row hp.row (p4 rfl),rfl⟩
  have o3:obL st 9 (.ptr i 0) (str n):=⟨load_row hi (p9 rfl),rfl⟩
  have o4:=may_ok n st
  by_cases hmay:mayS n
  ·rw [decide_eq_true hmay] at o4
   have e:rdE L false there n=if there=true∧find n L=none then 6 else 0:=by unfold rdE;rw [if_neg (by simp),if_neg (fun h=>h hmay)]
   rw [e]
   refine ⟨1,?_⟩
   have hob:∀{o:Ob},o.ok→Ob.ok ([obL st 105 (.ptr d 0) (.mp m),obL st 4 (.ptr d 3) FF,obL st 9 (.ptr i 0) (str n),obC 90 [str n] st TT st]++o):=fun h=>by
    rw [Ob.ok_append]
    simp only [Ob.ok_cons,Ob.ok_nil,and_true]
    exact ⟨⟨o1,o2,o3,o4⟩,h⟩
   cases hf:find n L with
   |none=>
    obtain ⟨f1,f2,k1,k2,k3,k4,k5⟩:=rd_end (x:= .nils) (y:=i64 0) hp.row hm hw hi hl (lookup_miss hm hf true)
    cases there with
    |true=>exact forget_bump (dk_run (rdMissT d m st f1 f2 i st.next fl n (.agg [.nils,i64 0])) (hob k1)) k2 k3 k4 k5
    |false=>exact forget_bump (dk_run (rdMissF d m st f1 f2 i st.next fl n (.agg [.nils,i64 0])) (hob k1)) k2 k3 k4 k5
   |some k=>
    obtain ⟨f,hk,hn⟩:=find_some hf
    obtain ⟨f1,f2,k1,k2,k3,k4,k5⟩:=rd_end (x:=f.dv) (y:=i64 f.last) hp.row hm hw hi hl (lookup_hit hm hf hk true)
    cases there with
    |true=>exact forget_bump (dk_run (rdHitT d m st f1 f2 i st.next fl n (.agg [f.dv,i64 f.last])) (hob k1)) k2 k3 k4 k5
    |false=>exact forget_bump (dk_run (rdHitF d m st f1 f2 i st.next fl n (.agg [f.dv,i64 f.last])) (hob k1)) k2 k3 k4 k5
  ·rw [decide_eq_false hmay] at o4
   refine ⟨0,?_⟩
   rw [b0]
   have e:rdE L false there n=1:=by unfold rdE;rw [if_neg (by simp),if_pos hmay]
   rw [e]
   refine dk_run (rdBad d m st there i fl n) ?_
   simp only [Ob.ok_cons,Ob.ok_nil,and_true]
   exact ⟨o1,o2,o3,o4⟩
end
section
set_option maxRecDepth 100000
def neN(a b:Int):Bool:=boolI (binOp .neq 3 (.int .i64 a) (.int .i64 b))
def geN(a b:Int):Bool:=boolI (binOp .geq 3 (.int .i64 a) (.int .i64 b))
def neE(a b:Int):Bool:=boolI (binOp .neq 23 (.int .i64 a) (.int .i64 b))
def obK(s:St)(m:Nat)(n:ByteArray)(ok:Bool)(w:AV):Prop:=lookupA E0 s 105 (.mp m) (str n) ok=some w∧s=s
def nmSt(st:St)(n:ByteArray):St:=st.push (.row [str n] 9)
def zSt(st:St):St:=st.push (.row [.nils,i64 0] 104)
def sitesP:Nat→List Nat
 |30=> [6058,13,2019,2021,5000,2030,2031,32,6060,2039]
 |54=> [6058,11,6060,2018,5000,2020]
 |52=> [6058,12,6060,2019,2021,5000,2023,8000]
 |29=> [6058,12,2017,2019,6059]
 |70=> [6058,13,2018,2020,5000,2022,2025,26]
 |_=> []
noncomputable def pgEv(f:Nat)(args:List AV)(st:St)(o:List Or):=(evCallS Tryz.prog E0 noOv sitesP 100000 f args st o).map fun q=>(q.1,q.2.1,q.2.2.2)
section
variable (d m:Nat) (n:ByteArray) (e:Int) (v:AV) (st s1 s2 s3 s4:St)
def obR(d:Nat)(th:AV)(n:ByteArray)(st:St)(e:Int)(s1:St):Prop:=obC 58 [.ptr d 0,th,.sl st.next 1 0 1 true] (nmSt st n) (i64 e) s1
theorem crNot:pgEv 30 [.ptr d 0,str n] st [.eff (i64 e) (fun _=>s1),TT]=some (i64 e,s1,[obR d FF n st e s1,bo (neE e 0)=TT]):=by kernel_rfl
theorem crFull(len:Int):pgEv 30 [.ptr d 0,str n] st [.eff (i64 0) (fun _=>s1),FF,.eff (.mp m) id,.eff (.tup [v,FF]) id,.eff .undef (fun _=>s2),.eff (.mp m) id,.eff (i64 len) id,TT]=some (i64 7,s2,
 [obR d FF n st 0 s1,bo (neE 0 0)=FF,obL s1 105 (.ptr d 0) (.mp m),obK s1 m n true (.tup [v,FF]),storeA E0 (zSt s1) 104 (.ptr s1.next 0) v=some s2,obL s2 105 (.ptr d 0) (.mp m),lenA E0 105 (.mp m)=none∧mapLenA E0 s2 105 (.mp m)=some (i64 len)∧s2=s2,bo (geN len 4096)=TT]):=by kernel_rfl
theorem crBurnT:pgEv 30 [.ptr d 0,str n] st [.eff (i64 0) (fun _=>s1),FF,.eff (.mp m) id,.eff (.tup [v,TT]) id,.eff .undef (fun _=>s2),.eff TT (fun _=>s3)]=some (i64 8,s3,
 [obR d FF n st 0 s1,bo (neE 0 0)=FF,obL s1 105 (.ptr d 0) (.mp m),obK s1 m n true (.tup [v,TT]),storeA E0 (zSt s1) 104 (.ptr s1.next 0) v=some s2,obC 60 [.ptr d 0] s2 TT s3]):=by kernel_rfl
theorem crBurnF(len:Int):pgEv 30 [.ptr d 0,str n] st [.eff (i64 0) (fun _=>s1),FF,.eff (.mp m) id,.eff (.tup [v,FF]) id,.eff .undef (fun _=>s2),.eff (.mp m) id,.eff (i64 len) id,FF,.eff TT (fun _=>s3)]=some (i64 8,s3,
 [obR d FF n st 0 s1,bo (neE 0 0)=FF,obL s1 105 (.ptr d 0) (.mp m),obK s1 m n true (.tup [v,FF]),storeA E0 (zSt s1) 104 (.ptr s1.next 0) v=some s2,obL s2 105 (.ptr d 0) (.mp m),lenA E0 105 (.mp m)=none∧mapLenA E0 s2 105 (.mp m)=some (i64 len)∧s2=s2,bo (geN len 4096)=FF,obC 60 [.ptr d 0] s2 TT s3]):=by kernel_rfl
theorem crOkT:pgEv 30 [.ptr d 0,str n] st [.eff (i64 0) (fun _=>s1),FF,.eff (.mp m) id,.eff (.tup [v,TT]) id,.eff .undef (fun _=>s2),.eff FF (fun _=>s3),.eff (.mp m) id,.eff .undef (fun _=>s4)]=some (i64 0,s4,
 [obR d FF n st 0 s1,bo (neE 0 0)=FF,obL s1 105 (.ptr d 0) (.mp m),obK s1 m n true (.tup [v,TT]),storeA E0 (zSt s1) 104 (.ptr s1.next 0) v=some s2,obC 60 [.ptr d 0] s2 FF s3,obL s3 105 (.ptr d 0) (.mp m),mapUpdateA E0 s3 105 (.mp m) (str n) (.agg [.nils,i64 0])=some s4]):=by kernel_rfl
theorem crOkF(len:Int):pgEv 30 [.ptr d 0,str n] st [.eff (i64 0) (fun _=>s1),FF,.eff (.mp m) id,.eff (.tup [v,FF]) id,.eff .undef (fun _=>s2),.eff (.mp m) id,.eff (i64 len) id,FF,.eff FF (fun _=>s3),.eff (.mp m) id,.eff .undef (fun _=>s4)]=some (i64 0,s4,
 [obR d FF n st 0 s1,bo (neE 0 0)=FF,obL s1 105 (.ptr d 0) (.mp m),obK s1 m n true (.tup [v,FF]),storeA E0 (zSt s1) 104 (.ptr s1.next 0) v=some s2,obL s2 105 (.ptr d 0) (.mp m),lenA E0 105 (.mp m)=none∧mapLenA E0 s2 105 (.mp m)=some (i64 len)∧s2=s2,bo (geN len 4096)=FF,obC 60 [.ptr d 0] s2 FF s3,obL s3 105 (.ptr d 0) (.mp m),mapUpdateA E0 s3 105 (.mp m) (str n) (.agg [.nils,i64 0])=some s4]):=by kernel_rfl
theorem rmNot:pgEv 54 [.ptr d 0,str n] st [.eff (i64 e) (fun _=>s1),TT]=some (i64 e,s1,[obR d TT n st e s1,bo (neE e 0)=TT]):=by kernel_rfl
theorem rmBurn:pgEv 54 [.ptr d 0,str n] st [.eff (i64 0) (fun _=>s1),FF,.eff TT (fun _=>s2)]=some (i64 8,s2,[obR d TT n st 0 s1,bo (neE 0 0)=FF,obC 60 [.ptr d 0] s1 TT s2]):=by kernel_rfl
theorem rmOk:pgEv 54 [.ptr d 0,str n] st [.eff (i64 0) (fun _=>s1),FF,.eff FF (fun _=>s2),.eff (.mp m) id,.eff (.tup []) (fun _=>s3)]=some (i64 0,s3,[obR d TT n st 0 s1,bo (neE 0 0)=FF,obC 60 [.ptr d 0] s1 FF s2,obL s2 105 (.ptr d 0) (.mp m),mapDeleteA E0 s2 105 (.mp m) (str n)=some s3∧AV.tup []=AV.tup []]):=by kernel_rfl
theorem sySyn:pgEv 52 [.ptr d 0,str n] st [.eff (i64 e) (fun _=>s1),TT]=some (i64 e,s1,[obR d TT n st e s1,bo (neE e 0)=TT]):=by kernel_rfl
theorem syBurn:pgEv 52 [.ptr d 0,str n] st [.eff (i64 0) (fun _=>s1),FF,.eff TT (fun _=>s2)]=some (i64 8,s2,[obR d TT n st 0 s1,bo (neE 0 0)=FF,obC 60 [.ptr d 0] s1 TT s2]):=by kernel_rfl
theorem rdNot:pgEv 29 [.ptr d 0,str n] st [.eff (i64 e) (fun _=>s1),TT]=some (.tup [.nils,i64 e],s1,[obR d TT n st e s1,bo (neE e 0)=TT]):=by kernel_rfl
theorem rdOk(dv l b:AV):pgEv 29 [.ptr d 0,str n] st [.eff (i64 0) (fun _=>s1),FF,.eff (.mp m) id,.eff (.agg [dv,l]) id,.eff b (fun _=>s2)]=some (.tup [b,i64 0],s2,[obR d TT n st 0 s1,bo (neE 0 0)=FF,obL s1 105 (.ptr d 0) (.mp m),obK s1 m n false (.agg [dv,l]),obC 59 [dv] s1 b s2]):=by kernel_rfl
theorem loNot:pgEv 70 [.ptr d 0,str n] st [.eff (i64 e) (fun _=>s1),TT]=some (.tup [i64 0,i64 e],s1,[obR d TT n st e s1,bo (neE e 0)=TT]):=by kernel_rfl
theorem loOk(b:Nat)(fl:Bool)(c:List AV)(k:Int):pgEv 70 [.ptr d 0,str n] st [.eff (i64 0) (fun _=>s1),FF,.eff (.mp m) id,.eff v id,.eff .undef (fun _=>s2),.eff (.imm 1 b fl c) id,.eff (i64 e) id,i64 k]=some (.tup [i64 k,i64 0],s2,[obR d TT n st 0 s1,bo (neE 0 0)=FF,obL s1 105 (.ptr d 0) (.mp m),obK s1 m n false v,storeA E0 (zSt s1) 104 (.ptr s1.next 0) v=some s2,obL s2 22 (.ptr s1.next 0) (.imm 1 b fl c),obL s2 3 (.ptr s1.next 1) (i64 e),i64 (subN b e)=i64 k]):=by kernel_rfl
theorem loOkN(k:Int):pgEv 70 [.ptr d 0,str n] st [.eff (i64 0) (fun _=>s1),FF,.eff (.mp m) id,.eff v id,.eff .undef (fun _=>s2),.eff .nils id,.eff (i64 e) id,i64 k]=some (.tup [i64 k,i64 0],s2,[obR d TT n st 0 s1,bo (neE 0 0)=FF,obL s1 105 (.ptr d 0) (.mp m),obK s1 m n false v,storeA E0 (zSt s1) 104 (.ptr s1.next 0) v=some s2,obL s2 22 (.ptr s1.next 0) .nils,obL s2 3 (.ptr s1.next 1) (i64 e),i64 (subN 0 e)=i64 k]):=by kernel_rfl
def obU(d a m:Nat)(s:St)(n:ByteArray)(l:AV)(s':St):Ob:= [∀k∈ [d,a],k<s.next,[d,a].contains d=true∧loadA E0 s 105 (.ptr d 0)=some (.mp m),[d,a].contains a=true∧loadA E0 s 104 (.ptr a 0)=some l,(false=true→ [d,a].all (fun k=>(s.get k).isSome)=true),mapUpdateA E0 s 105 (.mp m) (str n) l=some s']
theorem syOk(b:Nat)(fl:Bool)(c:List AV)(l:AV)(s5:St):pgEv 52 [.ptr d 0,str n] st [.eff (i64 0) (fun _=>s1),FF,.eff FF (fun _=>s2),.eff (.mp m) id,.eff v id,.eff .undef (fun _=>s3),.eff (.imm 1 b fl c) id,.eff .undef (fun _=>s4),.eff (.mp m) id,.eff l id,.eff .undef (fun _=>s5)]=some (i64 0,s5,
 [obR d TT n st 0 s1,bo (neE 0 0)=FF,obC 60 [.ptr d 0] s1 FF s2,obL s2 105 (.ptr d 0) (.mp m),obK s2 m n false v,storeA E0 (zSt s2) 104 (.ptr s2.next 0) v=some s3,obL s3 22 (.ptr s2.next 0) (.imm 1 b fl c),storeA E0 s3 3 (.ptr s2.next 1) (i64 b)=some s4]++obU d s2.next m s4 n l s5):=by kernel_rfl
theorem syOkN(l:AV)(s5:St):pgEv 52 [.ptr d 0,str n] st [.eff (i64 0) (fun _=>s1),FF,.eff FF (fun _=>s2),.eff (.mp m) id,.eff v id,.eff .undef (fun _=>s3),.eff .nils id,.eff .undef (fun _=>s4),.eff (.mp m) id,.eff l id,.eff .undef (fun _=>s5)]=some (i64 0,s5,
 [obR d TT n st 0 s1,bo (neE 0 0)=FF,obC 60 [.ptr d 0] s1 FF s2,obL s2 105 (.ptr d 0) (.mp m),obK s2 m n false v,storeA E0 (zSt s2) 104 (.ptr s2.next 0) v=some s3,obL s3 22 (.ptr s2.next 0) .nils,storeA E0 s3 3 (.ptr s2.next 1) (i64 0)=some s4]++obU d s2.next m s4 n l s5):=by kernel_rfl
end
end
section
set_option maxRecDepth 100000
def sitesA:Nat→List Nat
 |32=> [6058,14,8000,2018,2028,2029,6065,6060,2036,2038,5000,2040,6059,2043]
 |_=> []
noncomputable def apEv(f:Nat)(args:List AV)(st:St)(o:List Or):=(evCallS Tryz.prog E0 noOv sitesA 100000 f args st o).map fun q=>(q.1,q.2.1,q.2.2.2)
def gtP(a b:Int)(r:AV):Prop:=binA E0 .gtr 3 (i64 a) (i64 b)=some r
def subP(a b x:Int):Prop:=binA E0 .sub 3 (i64 a) (i64 b)=some (i64 x)
def obRoom(d:Nat)(k q u x:Int)(s1 s2:St)(r:AV):Ob:= [∀i∈ [d],i<s1.next,gtP k 0 TT,[d].contains d=true∧loadA E0 s1 3 (.ptr d 1)=some (i64 q),(true=true→ [d].all (fun i=>(s1.get i).isSome)=true),obC 65 [.ptr d 0] (s1.hide [d]) (i64 u) s2,subP q u x,gtP k x r]
def obNoB(d:Nat)(k:Int)(s1:St):Ob:= [∀i∈([]:List Nat),i<s1.next,gtP k 0 FF]
section
variable (d m:Nat) (n:ByteArray) (e q u x:Int) (v dv cl nd l:AV) (st s1 s2 s3 s4 s5 s6 s7 s8:St)
theorem apNotS(i k:Nat)(fl:Bool):apEv 32 [.ptr d 0,str n,.sl i 1 0 k fl] st [.eff (i64 e) (fun _=>s1),TT]=some (i64 e,s1,[obR d TT n st e s1,bo (neE e 0)=TT]):=by kernel_rfl
theorem apFullS(i k:Nat)(fl:Bool):apEv 32 [.ptr d 0,str n,.sl i 1 0 k fl] st [.eff (i64 0) (fun _=>s1),FF,.eff TT id,.eff (i64 q) id,.eff (i64 u) (fun _=>s2),.eff (i64 x) id,.eff TT id]=some (i64 7,s2.show s1 [d],[obR d TT n st 0 s1,bo (neE 0 0)=FF]++obRoom d k q u x s1 s2 TT):=by kernel_rfl
theorem apBurnS(i k:Nat)(fl:Bool):apEv 32 [.ptr d 0,str n,.sl i 1 0 k fl] st [.eff (i64 0) (fun _=>s1),FF,.eff TT id,.eff (i64 q) id,.eff (i64 u) (fun _=>s2),.eff (i64 x) id,.eff FF id,.eff TT (fun _=>s3)]=some (i64 8,s3,[obR d TT n st 0 s1,bo (neE 0 0)=FF]++obRoom d k q u x s1 s2 FF++ [obC 60 [.ptr d 0] (s2.show s1 [d]) TT s3]):=by kernel_rfl
theorem apOkS(i k:Nat)(fl:Bool):apEv 32 [.ptr d 0,str n,.sl i 1 0 k fl] st [.eff (i64 0) (fun _=>s1),FF,.eff TT id,.eff (i64 q) id,.eff (i64 u) (fun _=>s2),.eff (i64 x) id,.eff FF id,.eff FF (fun _=>s3),.eff (.mp m) id,.eff v id,.eff .undef (fun _=>s4),.eff dv id,.eff cl (fun _=>s5),.eff nd (fun _=>s6),.eff .undef (fun _=>s7),.eff (.mp m) id,.eff l id,.eff .undef (fun _=>s8)]=some (i64 0,s8,
 [obR d TT n st 0 s1,bo (neE 0 0)=FF]++obRoom d k q u x s1 s2 FF++ [obC 60 [.ptr d 0] (s2.show s1 [d]) FF s3,obL s3 105 (.ptr d 0) (.mp m),obK s3 m n false v,storeA E0 (zSt s3) 104 (.ptr s3.next 0) v=some s4,obL s4 22 (.ptr s3.next 0) dv,obC 59 [dv] s4 cl s5,appendA E0 s5 22 22 cl (.sl i 1 0 k fl)=some (nd,s6),storeA E0 s6 22 (.ptr s3.next 0) nd=some s7]++obU d s3.next m s7 n l s8):=by kernel_rfl
theorem apBurn0S(i k:Nat)(fl:Bool):apEv 32 [.ptr d 0,str n,.sl i 1 0 k fl] st [.eff (i64 0) (fun _=>s1),FF,.eff FF id,.eff TT (fun _=>s3)]=some (i64 8,s3,[obR d TT n st 0 s1,bo (neE 0 0)=FF]++obNoB d k s1++ [obC 60 [.ptr d 0] s1 TT s3]):=by kernel_rfl
theorem apOk0S(i k:Nat)(fl:Bool):apEv 32 [.ptr d 0,str n,.sl i 1 0 k fl] st [.eff (i64 0) (fun _=>s1),FF,.eff FF id,.eff FF (fun _=>s3),.eff (.mp m) id,.eff v id,.eff .undef (fun _=>s4),.eff dv id,.eff cl (fun _=>s5),.eff nd (fun _=>s6),.eff .undef (fun _=>s7),.eff (.mp m) id,.eff l id,.eff .undef (fun _=>s8)]=some (i64 0,s8,
 [obR d TT n st 0 s1,bo (neE 0 0)=FF]++obNoB d k s1++ [obC 60 [.ptr d 0] s1 FF s3,obL s3 105 (.ptr d 0) (.mp m),obK s3 m n false v,storeA E0 (zSt s3) 104 (.ptr s3.next 0) v=some s4,obL s4 22 (.ptr s3.next 0) dv,obC 59 [dv] s4 cl s5,appendA E0 s5 22 22 cl (.sl i 1 0 k fl)=some (nd,s6),storeA E0 s6 22 (.ptr s3.next 0) nd=some s7]++obU d s3.next m s7 n l s8):=by kernel_rfl
theorem apNotN:apEv 32 [.ptr d 0,str n,.nils] st [.eff (i64 e) (fun _=>s1),TT]=some (i64 e,s1,[obR d TT n st e s1,bo (neE e 0)=TT]):=by kernel_rfl
theorem apBurn0N:apEv 32 [.ptr d 0,str n,.nils] st [.eff (i64 0) (fun _=>s1),FF,.eff FF id,.eff TT (fun _=>s3)]=some (i64 8,s3,[obR d TT n st 0 s1,bo (neE 0 0)=FF]++obNoB d 0 s1++ [obC 60 [.ptr d 0] s1 TT s3]):=by kernel_rfl
theorem apOk0N:apEv 32 [.ptr d 0,str n,.nils] st [.eff (i64 0) (fun _=>s1),FF,.eff FF id,.eff FF (fun _=>s3),.eff (.mp m) id,.eff v id,.eff .undef (fun _=>s4),.eff dv id,.eff cl (fun _=>s5),.eff nd (fun _=>s6),.eff .undef (fun _=>s7),.eff (.mp m) id,.eff l id,.eff .undef (fun _=>s8)]=some (i64 0,s8,
 [obR d TT n st 0 s1,bo (neE 0 0)=FF]++obNoB d 0 s1++ [obC 60 [.ptr d 0] s1 FF s3,obL s3 105 (.ptr d 0) (.mp m),obK s3 m n false v,storeA E0 (zSt s3) 104 (.ptr s3.next 0) v=some s4,obL s4 22 (.ptr s3.next 0) dv,obC 59 [dv] s4 cl s5,appendA E0 s5 22 22 cl (.nils)=some (nd,s6),storeA E0 s6 22 (.ptr s3.next 0) nd=some s7]++obU d s3.next m s7 n l s8):=by kernel_rfl
theorem apNotI(k:Nat)(fl:Bool)(c:List AV):apEv 32 [.ptr d 0,str n,.imm 1 k fl c] st [.eff (i64 e) (fun _=>s1),TT]=some (i64 e,s1,[obR d TT n st e s1,bo (neE e 0)=TT]):=by kernel_rfl
theorem apFullI(k:Nat)(fl:Bool)(c:List AV):apEv 32 [.ptr d 0,str n,.imm 1 k fl c] st [.eff (i64 0) (fun _=>s1),FF,.eff TT id,.eff (i64 q) id,.eff (i64 u) (fun _=>s2),.eff (i64 x) id,.eff TT id]=some (i64 7,s2.show s1 [d],[obR d TT n st 0 s1,bo (neE 0 0)=FF]++obRoom d k q u x s1 s2 TT):=by kernel_rfl
theorem apBurnI(k:Nat)(fl:Bool)(c:List AV):apEv 32 [.ptr d 0,str n,.imm 1 k fl c] st [.eff (i64 0) (fun _=>s1),FF,.eff TT id,.eff (i64 q) id,.eff (i64 u) (fun _=>s2),.eff (i64 x) id,.eff FF id,.eff TT (fun _=>s3)]=some (i64 8,s3,[obR d TT n st 0 s1,bo (neE 0 0)=FF]++obRoom d k q u x s1 s2 FF++ [obC 60 [.ptr d 0] (s2.show s1 [d]) TT s3]):=by kernel_rfl
theorem apOkI(k:Nat)(fl:Bool)(c:List AV):apEv 32 [.ptr d 0,str n,.imm 1 k fl c] st [.eff (i64 0) (fun _=>s1),FF,.eff TT id,.eff (i64 q) id,.eff (i64 u) (fun _=>s2),.eff (i64 x) id,.eff FF id,.eff FF (fun _=>s3),.eff (.mp m) id,.eff v id,.eff .undef (fun _=>s4),.eff dv id,.eff cl (fun _=>s5),.eff nd (fun _=>s6),.eff .undef (fun _=>s7),.eff (.mp m) id,.eff l id,.eff .undef (fun _=>s8)]=some (i64 0,s8,
 [obR d TT n st 0 s1,bo (neE 0 0)=FF]++obRoom d k q u x s1 s2 FF++ [obC 60 [.ptr d 0] (s2.show s1 [d]) FF s3,obL s3 105 (.ptr d 0) (.mp m),obK s3 m n false v,storeA E0 (zSt s3) 104 (.ptr s3.next 0) v=some s4,obL s4 22 (.ptr s3.next 0) dv,obC 59 [dv] s4 cl s5,appendA E0 s5 22 22 cl (.imm 1 k fl c)=some (nd,s6),storeA E0 s6 22 (.ptr s3.next 0) nd=some s7]++obU d s3.next m s7 n l s8):=by kernel_rfl
theorem apBurn0I(k:Nat)(fl:Bool)(c:List AV):apEv 32 [.ptr d 0,str n,.imm 1 k fl c] st [.eff (i64 0) (fun _=>s1),FF,.eff FF id,.eff TT (fun _=>s3)]=some (i64 8,s3,[obR d TT n st 0 s1,bo (neE 0 0)=FF]++obNoB d k s1++ [obC 60 [.ptr d 0] s1 TT s3]):=by kernel_rfl
theorem apOk0I(k:Nat)(fl:Bool)(c:List AV):apEv 32 [.ptr d 0,str n,.imm 1 k fl c] st [.eff (i64 0) (fun _=>s1),FF,.eff FF id,.eff FF (fun _=>s3),.eff (.mp m) id,.eff v id,.eff .undef (fun _=>s4),.eff dv id,.eff cl (fun _=>s5),.eff nd (fun _=>s6),.eff .undef (fun _=>s7),.eff (.mp m) id,.eff l id,.eff .undef (fun _=>s8)]=some (i64 0,s8,
 [obR d TT n st 0 s1,bo (neE 0 0)=FF]++obNoB d k s1++ [obC 60 [.ptr d 0] s1 FF s3,obL s3 105 (.ptr d 0) (.mp m),obK s3 m n false v,storeA E0 (zSt s3) 104 (.ptr s3.next 0) v=some s4,obL s4 22 (.ptr s3.next 0) dv,obC 59 [dv] s4 cl s5,appendA E0 s5 22 22 cl (.imm 1 k fl c)=some (nd,s6),storeA E0 s6 22 (.ptr s3.next 0) nd=some s7]++obU d s3.next m s7 n l s8):=by kernel_rfl
end
end
section
set_option maxRecDepth 100000
def sitesB:Nat→List Nat
 |58=> [2018,2025,2031,6090,8000]
 |59=> [2007]
 |27=> [8,5000]
 |25=> [8,5000]
 |49=> [2009]
 |47=> [5]
 |_=> []
noncomputable def bpEv(f:Nat)(args:List AV)(st:St)(o:List Or):=(evCallS Tryz.prog E0 noOv sitesB 100000 f args st o).map fun q=>(q.1,q.2.1,q.2.2.2)
section
variable (d m i j a:Nat) (n n2:ByteArray) (e q:Int) (v l:AV) (st s1 s2 s3 s4 s5 s6:St) (fl:Bool) (f1 f2:St→St)
theorem clN:bpEv 59 [.nils] st []=some (.nils,st,[]):=by kernel_rfl
theorem clI(k:Nat)(c:List AV):bpEv 59 [.imm 1 k fl c] st [.eff v (fun _=>s1)]=some (v,s1,[appendA E0 (st.push (.row [] 5)) 22 22 (.sl st.next 1 0 0 true) (.imm 1 k fl c)=some (v,s1)]):=by kernel_rfl
theorem offEv(b:Bool):bpEv 49 [.ptr d 0] st [.eff (bo b) id]=some (bo b,st,[obL st 4 (.ptr d 3) (bo b)]):=by kernel_rfl
end
end
section
set_option maxRecDepth 4000
structure Rest (st st':St) (S:List Nat):Prop where
 keep:∀i o,i∉S→st.get i=some o→st'.get i=some o
 next:st.next≤st'.next
 lock:st'.lock=st.lock
 gl:st'.gl=st.gl
 wf:st'.wf
theorem Rest.refl{st:St}(hw:st.wf)(S:List Nat):Rest st st S:=⟨fun _ _ _ h=>h,Nat.le_refl _,rfl,rfl,hw⟩
theorem Rest.trans{a b c:St}{S:List Nat}(h:Rest a b S)(k:Rest b c S):Rest a c S:=
 ⟨fun i o hi ho=>k.keep i o hi (h.keep i o hi ho),Nat.le_trans h.next k.next,k.lock.trans h.lock,k.gl.trans h.gl,k.wf⟩
theorem Rest.weak{a b:St}{S S':List Nat}(h:Rest a b S)(hs:∀i∈S,i∈S'):Rest a b S':=
 ⟨fun i o hi ho=>h.keep i o (fun e=>hi (hs i e)) ho,h.next,h.lock,h.gl,h.wf⟩
theorem set_wf{st:St}(hw:st.wf){id:Nat}(hid:id<st.next)(o:AObj):(st.set id o).wf:=fun i p h=>by
 rw [St.get_set] at h
 show i<st.next
 split at h
 ·omega
 ·exact hw _ _ h
theorem push_wf{st:St}(hw:st.wf)(o:AObj):(st.push o).wf:=fun i p h=>by
 rw [St.get_push] at h
 show i<st.next+1
 split at h
 ·omega
 ·have:=hw _ _ h;omega
theorem bump_wf{st:St}(hw:st.wf)(k:Nat):(bump st k).wf:=fun i p h=>by
 have:=hw i p h
 show i<st.next+k
 omega
theorem Rest.bump{st:St}(hw:st.wf)(k:Nat)(S:List Nat):Rest st (bump st k) S:=⟨fun _ _ _ h=>h,Nat.le_add_right _ _,rfl,rfl,bump_wf hw k⟩
theorem Rest.push{st:St}(hw:st.wf)(o:AObj)(S:List Nat):Rest st (st.push o) S:=
 ⟨fun i p _ h=>by have:=hw _ _ h;rw [St.get_push,if_neg (by omega)];exact h,by simp,rfl,rfl,push_wf hw o⟩
theorem Rest.set{st:St}(hw:st.wf){id:Nat}(hid:id<st.next)(o:AObj){S:List Nat}(hS:id∈S):Rest st (st.set id o) S:=
 ⟨fun i p hi h=>by rw [St.get_set,if_neg (fun e=>hi (by rw [e];exact hS))];exact h,Nat.le_refl _,rfl,rfl,set_wf hw hid o⟩
theorem local_ok{st:St}(hw:st.wf)(hl:st.lock= [])(x y:AV):∃s',storeA E0 (zSt st) 104 (.ptr st.next 0) (.agg [x,y])=some s'∧s'.get st.next=some (.row [x,y] 104)∧Rest st s' []∧s'.next=st.next+1:=by
 refine ⟨_,store105 (st:=zSt st) (a:=st.next) (v0:= .nils) (v1:=i64 0) (ty:=104) (by unfold zSt;rw [St.get_push,if_pos rfl]) (by unfold zSt;rw [St.lock_push,hl];simp),by rw [St.get_set,if_pos rfl],?_,rfl⟩
 refine ⟨fun i o _ ho=> ?_,by show st.next≤st.next+1;omega,rfl,rfl,set_wf (push_wf hw _) (by simp) _⟩
 have:=hw _ _ ho
 rw [St.get_set,if_neg (by omega)]
 unfold zSt
 rw [St.get_push,if_neg (by omega)];exact ho
theorem size3:tySize E0 3=some 1:=by kernel_rfl
theorem size4:tySize E0 4=some 1:=by kernel_rfl
theorem storeN{st:St}{d:Nat}{a b c e:AV}{ty:Nat}(hg:st.get d=some (.row [a,b,c,e] ty))(hl:st.lock= [])(x:Int):storeA E0 st 3 (.ptr d 2) (i64 x)=some (st.set d (.row [a,b,i64 x,e] ty)):=by
 have hwg:=St.wget_of hg (show d∉st.lock by rw [hl];simp)
 simp [storeA,avCells,oneA,size3,hwg]
theorem storeB{st:St}{d:Nat}{a b c e:AV}{ty:Nat}(hg:st.get d=some (.row [a,b,c,e] ty))(hl:st.lock= [])(x:Bool):storeA E0 st 4 (.ptr d 3) (bo x)=some (st.set d (.row [a,b,c,bo x] ty)):=by
 have hwg:=St.wget_of hg (show d∉st.lock by rw [hl];simp)
 simp [storeA,bo,avCells,oneA,size4,hwg]
theorem eqN_eq(a b:Int):eqN a b=(a==b):=rfl
theorem subN_eq(a b:Int)(h: -9223372036854775808≤a- b∧a- b≤9223372036854775807):subN a b=a- b:=by
 have:subN a b=IntKind.i64.wrap (a- b):=rfl
 rw [this,IntWalk.i64_in _ h]
def burnB(fu:Int):Bool:=fu==1
def burnN(fu:Int):Int:=if fu=0 then 0 else fu- 1
theorem PD.rest{st st':St}{d m:Nat}{L:List PF}{q fu:Int}{off:Bool}(h:PD st d L q fu off m)(hr:Rest st st' []):PD st' d L q fu off m:=by
 obtain ⟨bs,c,hm⟩:=h.map
 exact ⟨hr.keep _ _ (by simp) h.row,bs,c,hr.keep _ _ (by simp) hm⟩
theorem burns_ok{st:St}{d m:Nat}{L:List PF}{q fu:Int}(hp:PD st d L q fu false m)(hw:st.wf)(hl:st.lock= [])(hf:0≤fu∧fu≤9223372036854775807):
  ∃st',obC 60 [.ptr d 0] st (bo (burnB fu)) st'∧PD st' d L q (burnN fu) (burnB fu) m∧Rest st st' [d]:=by
 have hd:=hw _ _ hp.row
 obtain ⟨bs,c,hm⟩:=hp.map
 have o1:obL st 3 (.ptr d 2) (i64 fu):=⟨load_row hp.row (p3 rfl),rfl⟩
 by_cases h0:fu=0
 ·subst h0
  refine ⟨st,?_,hp,.refl hw _⟩
  refine dk_run (burn0 d st 0) ?_
  simp only [Ob.ok_cons,Ob.ok_nil,and_true]
  exact ⟨o1,ob_T rfl⟩
 ·have hs1:=storeN hp.row hl (fu- 1)
  have g1:(st.set d (.row [.mp m,i64 q,i64 (fu- 1),bo false] 107)).get d=some (.row [.mp m,i64 q,i64 (fu- 1),bo false] 107):=by rw [St.get_set,if_pos rfl]
  have hs2:=storeB g1 (by simpa using hl) (burnB fu)
  refine ⟨(st.set d (.row [.mp m,i64 q,i64 (fu- 1),bo false] 107)).set d (.row [.mp m,i64 q,i64 (fu- 1),bo (burnB fu)] 107),dk_run (burn1 d st fu (fu- 1) (fun _=>st.set d (.row [.mp m,i64 q,i64 (fu- 1),bo false] 107)) (fun _=>(st.set d (.row [.mp m,i64 q,i64 (fu- 1),bo false] 107)).set d (.row [.mp m,i64 q,i64 (fu- 1),bo (burnB fu)] 107)) (burnB fu)) ?_,⟨by rw [St.get_set,if_pos rfl,burnN,if_neg h0],bs,c,?_⟩,(Rest.set hw hd _ (by simp)).trans (Rest.set (set_wf hw hd _) hd _ (by simp))⟩
  ·simp only [Ob.ok_cons,Ob.ok_nil,and_true]
   refine ⟨o1,ob_F (by rw [eqN_eq,beq_eq_false_iff_ne];exact h0),o1,by rw [subN_eq _ _ (by omega)],hs1,⟨load_row g1 (p3 rfl),rfl⟩,?_,hs2,⟨load_row (by rw [St.get_set,if_pos rfl]) (p4 rfl),rfl⟩⟩
   rw [eqN_eq]
   refine congrArg bo ?_
   unfold burnB
   rw [Bool.eq_iff_iff,beq_iff_eq,beq_iff_eq]
   omega
  ·rw [St.get_set,if_neg hp.ne.symm,St.get_set,if_neg hp.ne.symm];exact hm
end
section
set_option maxRecDepth 4000
theorem pg_run{f:Nat}{args:List AV}{a:AV}{st st':St}{o:List Or}{ob:Ob}(h:pgEv f args st o=some (a,st',ob))(hob:ob.ok):obC f args st a st':=by
 obtain ⟨⟨a1,s1,x1,o1⟩,h1,h2⟩:=Option.map_eq_some_iff.1 h
 simp only [Prod.mk.injEq] at h2
 obtain ⟨rfl,rfl,rfl⟩:=h2
 exact ACalls.run hE (ov:=noOv) noOv_ok h1 hob
theorem ap_run{f:Nat}{args:List AV}{a:AV}{st st':St}{o:List Or}{ob:Ob}(h:apEv f args st o=some (a,st',ob))(hob:ob.ok):obC f args st a st':=by
 obtain ⟨⟨a1,s1,x1,o1⟩,h1,h2⟩:=Option.map_eq_some_iff.1 h
 simp only [Prod.mk.injEq] at h2
 obtain ⟨rfl,rfl,rfl⟩:=h2
 exact ACalls.run hE (ov:=noOv) noOv_ok h1 hob
theorem bp_run{f:Nat}{args:List AV}{a:AV}{st st':St}{o:List Or}{ob:Ob}(h:bpEv f args st o=some (a,st',ob))(hob:ob.ok):obC f args st a st':=by
 obtain ⟨⟨a1,s1,x1,o1⟩,h1,h2⟩:=Option.map_eq_some_iff.1 h
 simp only [Prod.mk.injEq] at h2
 obtain ⟨rfl,rfl,rfl⟩:=h2
 exact ACalls.run hE (ov:=noOv) noOv_ok h1 hob
theorem neE_eq(a b:Int):neE a b=(a !=b):=rfl
theorem geN_eq(a b:Int):geN a b=decide (a≥b):=rfl
theorem neE_T{e:Int}(h:e≠0):bo (neE e 0)=TT:=ob_T (by rw [neE_eq];simpa using h)
theorem neE_F:bo (neE 0 0)=FF:=ob_F rfl
theorem rd_ok{st:St}{d m:Nat}{L:List PF}{q fu:Int}{off:Bool}(hp:PD st d L q fu off m)(hw:st.wf)(hl:st.lock= [])(n:ByteArray)(there:Bool):
  ∃s1,obR d (bo there) n st (rdE L off there n) s1∧Rest st s1 []:=by
 have hp':PD (nmSt st n) d L q fu off m:=hp.rest (Rest.push hw _ _)
 obtain ⟨k,h⟩:=ready_ok (i:=st.next) (fl:=true) (n:=n) (ty:=9) hp' (push_wf hw _) (by unfold nmSt;rw [St.get_push,if_pos rfl]) (by simpa [nmSt] using hl) there
 exact ⟨_,h,(Rest.push hw _ _).trans (Rest.bump (push_wf hw _) k _)⟩
structure PS where
 L:List PF
 q:Int
 fu:Int
 off:Bool
def PDs(st:St)(d m:Nat)(s:PS):Prop:=PD st d s.L s.q s.fu s.off m
def putL(L:List PF)(f:PF):List PF:=match find f.name L with|some k=>L.set k f|none=>L++ [f]
def burnt(s:PS):PS:={s with fu:=burnN s.fu,off:=burnB s.fu}
def pCreate(s:PS)(n:ByteArray):Int×PS:=
 if rdE s.L s.off false n≠0 then (rdE s.L s.off false n,s) else
 if find n s.L=none∧4096≤s.L.length then (7,s) else
 if burnB s.fu=true then (8,burnt s) else
 (0,{burnt s with L:=putL s.L ⟨n,.nils,[],0⟩})
theorem rd0_off{L:List PF}{off there:Bool}{n:ByteArray}(h:¬rdE L off there n≠0):off=false:=by
 cases off with
 |false=>rfl
 |true=>exact absurd (show rdE L true there n≠0 by unfold rdE;rw [if_pos rfl];decide) h
theorem mapLen_ok{st:St}{m:Nat}{L:List PF}{bs:List Nat}{c:Nat}(hm:st.get m=some (.map (L.map ent) bs c)):lenA E0 105 (.mp m)=none∧mapLenA E0 st 105 (.mp m)=some (i64 L.length)∧st=st:=by
 refine ⟨by kernel_rfl,?_,rfl⟩
 simp only [mapLenA,ty101',hm,List.length_map]
theorem put_ok{st:St}{m:Nat}{L:List PF}{bs:List Nat}{c:Nat}(hm:st.get m=some (.map (L.map ent) bs c))(hl:st.lock= [])(f:PF):∃bs' c',mapUpdateA E0 st 105 (.mp m) (str f.name) (ent f).2=some (st.set m (.map ((putL L f).map ent) bs' c')):=by
 have hlm:m∉st.lock:=by rw [hl];simp
 unfold putL
 cases hf:find f.name L with
 |some k=>exact ⟨_,_,update_hit hm hlm hf f rfl⟩
 |none=>exact ⟨_,_,update_miss hm hlm hf f rfl⟩
theorem create_ok{st:St}{d m:Nat}{s:PS}(hp:PDs st d m s)(hw:st.wf)(hl:st.lock= [])(hf:0≤s.fu∧s.fu≤9223372036854775807)(n:ByteArray):
  ∃st',obC 30 [.ptr d 0,str n] st (i64 (pCreate s n).1) st'∧PDs st' d m (pCreate s n).2∧Rest st st' [d,m]:=by
 obtain ⟨L,q,fu,off⟩:=s
 have hp0:PD st d L q fu off m:=hp
 obtain ⟨s1,r1,k1⟩:=rd_ok hp0 hw hl n false
 unfold pCreate
 simp only
 by_cases hr:rdE L off false n≠0
 ·rw [if_pos hr]
  refine ⟨s1,pg_run (crNot d n _ st s1) ?_,hp0.rest k1,k1.weak (by simp)⟩
  simp only [Ob.ok_cons,Ob.ok_nil,and_true]
  exact ⟨r1,neE_T hr⟩
 rw [if_neg hr]
 obtain rfl:=rd0_off hr
 have hr0:rdE L false false n=0:=by simpa using hr
 rw [hr0] at r1
 have l1:s1.lock= []:=k1.lock.trans hl
 have p1:=hp0.rest k1
 obtain ⟨bs,c,hm⟩:=p1.map
 have o1:obL s1 105 (.ptr d 0) (.mp m):=⟨load_row p1.row (p101 rfl),rfl⟩
 have tail:∀{x y:AV},∃s2,storeA E0 (zSt s1) 104 (.ptr s1.next 0) (.agg [x,y])=some s2∧Rest s1 s2 []∧s2.lock= []∧PD s2 d L q fu false m∧obL s2 105 (.ptr d 0) (.mp m)∧(lenA E0 105 (.mp m)=none∧mapLenA E0 s2 105 (.mp m)=some (i64 L.length)∧s2=s2):=fun {x y}=>by
  obtain ⟨s2,a1,_,a3,_⟩:=local_ok k1.wf l1 x y
  have p2:=p1.rest a3
  obtain ⟨bs,c,hm⟩:=p2.map
  exact ⟨s2,a1,a3,a3.lock.trans l1,p2,⟨load_row p2.row (p101 rfl),rfl⟩,mapLen_ok hm⟩
 have fin:∀{s2:St},Rest s1 s2 []→s2.lock= []→PD s2 d L q fu false m→∃s3,obC 60 [.ptr d 0] s2 (bo (burnB fu)) s3∧PD s3 d L q (burnN fu) (burnB fu) m∧Rest st s3 [d,m]∧obL s3 105 (.ptr d 0) (.mp m)∧
   ∃s4,mapUpdateA E0 s3 105 (.mp m) (str n) (.agg [.nils,i64 0])=some s4∧PD s4 d (putL L ⟨n,.nils,[],0⟩) q (burnN fu) (burnB fu) m∧Rest st s4 [d,m]:=fun {s2} h2 l2 p2=>by
  obtain ⟨s3,b1,b2,b3⟩:=burns_ok p2 h2.wf l2 hf
  obtain ⟨bs3,c3,hm3⟩:=b2.map
  obtain ⟨bs',c',hu⟩:=put_ok hm3 (b3.lock.trans l2) ⟨n,.nils,[],0⟩
  have R3:Rest st s3 [d,m]:=((k1.weak (by simp)).trans (h2.weak (by simp))).trans (b3.weak (by simp))
  refine ⟨s3,b1,b2,R3,⟨load_row b2.row (p101 rfl),rfl⟩,_,hu,⟨?_,bs',c',?_⟩,R3.trans (Rest.set b3.wf (b3.wf _ _ hm3) _ (by simp))⟩
  ·rw [St.get_set,if_neg b2.ne];exact b2.row
  ·rw [St.get_set,if_pos rfl]
 cases hfi:find n L with
 |some k=>
  rw [if_neg (fun h=>by cases h.1)]
  obtain ⟨f,hk,hn⟩:=find_some hfi
  obtain ⟨s2,a1,a2,a3,a4,a5,_⟩:=tail (x:=f.dv) (y:=i64 f.last)
  obtain ⟨s3,b1,b2,b3,b4,s4,c1,c2,c3⟩:=fin a2 a3 a4
  have olk:obK s1 m n true (.tup [.agg [f.dv,i64 f.last],TT]):=⟨lookup_hit hm hfi hk true,rfl⟩
  by_cases hb:burnB fu=true
  ·rw [if_pos hb]
   rw [hb] at b1
   refine ⟨s3,pg_run (crBurnT d m n (.agg [f.dv,i64 f.last]) st s1 s2 s3) ?_,b2,b3⟩
   simp only [Ob.ok_cons,Ob.ok_nil,and_true]
   exact ⟨r1,neE_F,o1,olk,a1,b1⟩
  ·rw [if_neg hb]
   rw [Bool.not_eq_true] at hb
   rw [hb] at b1
   refine ⟨s4,pg_run (crOkT d m n (.agg [f.dv,i64 f.last]) st s1 s2 s3 s4) ?_,c2,c3⟩
   simp only [Ob.ok_cons,Ob.ok_nil,and_true]
   exact ⟨r1,neE_F,o1,olk,a1,b1,b4,c1⟩
 |none=>
  obtain ⟨s2,a1,a2,a3,a4,a5,a6⟩:=tail (x:= .nils) (y:=i64 0)
  obtain ⟨s3,b1,b2,b3,b4,s4,c1,c2,c3⟩:=fin a2 a3 a4
  have olk:obK s1 m n true (.tup [.agg [.nils,i64 0],FF]):=⟨lookup_miss hm hfi true,rfl⟩
  by_cases hlen:4096≤L.length
  ·rw [if_pos ⟨rfl,hlen⟩]
   refine ⟨s2,pg_run (crFull d m n (.agg [.nils,i64 0]) st s1 s2 L.length) ?_,a4,(k1.weak (by simp)).trans (a2.weak (by simp))⟩
   simp only [Ob.ok_cons,Ob.ok_nil,and_true]
   exact ⟨r1,neE_F,o1,olk,a1,a5,⟨a6.1,a6.2.1⟩,ob_T (by rw [geN_eq];simp;omega)⟩
  ·rw [if_neg (fun h=>hlen h.2)]
   have hge:bo (geN L.length 4096)=FF:=ob_F (by rw [geN_eq];simp;omega)
   by_cases hb:burnB fu=true
   ·rw [if_pos hb]
    rw [hb] at b1
    refine ⟨s3,pg_run (crBurnF d m n (.agg [.nils,i64 0]) st s1 s2 s3 L.length) ?_,b2,b3⟩
    simp only [Ob.ok_cons,Ob.ok_nil,and_true]
    exact ⟨r1,neE_F,o1,olk,a1,a5,⟨a6.1,a6.2.1⟩,hge,b1⟩
   ·rw [if_neg hb]
    rw [Bool.not_eq_true] at hb
    rw [hb] at b1
    refine ⟨s4,pg_run (crOkF d m n (.agg [.nils,i64 0]) st s1 s2 s3 s4 L.length) ?_,c2,c3⟩
    simp only [Ob.ok_cons,Ob.ok_nil,and_true]
    exact ⟨r1,neE_F,o1,olk,a1,a5,⟨a6.1,a6.2.1⟩,hge,b1,b4,c1⟩
end
section
set_option maxRecDepth 4000
def DV(f:PF):Prop:=(f.bytes= []∧f.dv= .nils)∨∃fl,f.dv= .imm 1 f.bytes.length fl (f.bytes.map u8)
structure Good (s:PS):Prop where
 dv:∀f∈s.L,DV f∧f.last≤f.bytes.length
 fu:0≤s.fu∧s.fu≤9223372036854775807
def pRemove(s:PS)(n:ByteArray):Int×PS:=
 if rdE s.L s.off true n≠0 then (rdE s.L s.off true n,s) else
 if burnB s.fu=true then (8,burnt s) else
 (0,{burnt s with L:=s.L.eraseIdx ((find n s.L).getD 0)})
theorem rd0_find{L:List PF}{off:Bool}{n:ByteArray}(h:¬rdE L off true n≠0):∃k f,find n L=some k∧L[k]? =some f∧f.name=n:=by
 cases hf:find n L with
 |some k=>
  obtain ⟨f,h1,h2⟩:=find_some hf
  exact ⟨k,f,rfl,h1,h2⟩
 |none=>
  refine absurd ?_ h
  unfold rdE
  rw [hf]
  split
  ·decide
  ·split
   ·decide
   ·simp
theorem way{st:St}{d m:Nat}{s:PS}(hp:PDs st d m s)(hw:st.wf)(hl:st.lock= [])(hf:0≤s.fu∧s.fu≤9223372036854775807){n:ByteArray}(hr:¬rdE s.L s.off true n≠0):
  ∃s1 s2,obR d TT n st 0 s1∧Rest st s1 []∧PDs s1 d m s∧obC 60 [.ptr d 0] s1 (bo (burnB s.fu)) s2∧PDs s2 d m (burnt s)∧Rest st s2 [d,m]∧s2.lock= []∧obL s2 105 (.ptr d 0) (.mp m):=by
 obtain ⟨L,q,fu,off⟩:=s
 have hp0:PD st d L q fu off m:=hp
 obtain ⟨s1,r1,k1⟩:=rd_ok hp0 hw hl n true
 obtain rfl:=rd0_off hr
 have hr0:rdE L false true n=0:=by simpa using hr
 rw [hr0] at r1
 have p1:=hp0.rest k1
 obtain ⟨s2,b1,b2,b3⟩:=burns_ok p1 k1.wf (k1.lock.trans hl) hf
 exact ⟨s1,s2,r1,k1,p1,b1,b2,(k1.weak (by simp)).trans (b3.weak (by simp)),b3.lock.trans (k1.lock.trans hl),⟨load_row b2.row (p101 rfl),rfl⟩⟩
theorem remove_ok{st:St}{d m:Nat}{s:PS}(hp:PDs st d m s)(hw:st.wf)(hl:st.lock= [])(hg:Good s)(n:ByteArray):
  ∃st',obC 54 [.ptr d 0,str n] st (i64 (pRemove s n).1) st'∧PDs st' d m (pRemove s n).2∧Rest st st' [d,m]:=by
 unfold pRemove
 by_cases hr:rdE s.L s.off true n≠0
 ·rw [if_pos hr]
  obtain ⟨s1,r1,k1⟩:=rd_ok hp hw hl n true
  refine ⟨s1,pg_run (rmNot d n _ st s1) ?_,PD.rest hp k1,k1.weak (by simp)⟩
  simp only [Ob.ok_cons,Ob.ok_nil,and_true]
  exact ⟨r1,neE_T hr⟩
 rw [if_neg hr]
 obtain ⟨s1,s2,r1,k1,p1,b1,p2,k2,l2,o2⟩:=way hp hw hl hg.fu hr
 obtain ⟨k,f,hfi,hk,hn⟩:=rd0_find hr
 by_cases hb:burnB s.fu=true
 ·rw [if_pos hb]
  rw [hb] at b1
  refine ⟨s2,pg_run (rmBurn d n st s1 s2) ?_,p2,k2⟩
  simp only [Ob.ok_cons,Ob.ok_nil,and_true]
  exact ⟨r1,neE_F,b1⟩
 ·rw [if_neg hb]
  rw [Bool.not_eq_true] at hb
  rw [hb] at b1
  obtain ⟨bs,c,hm⟩:=p2.map
  have hd:=delete_hit hm (by rw [l2];simp) hfi
  refine ⟨s2.set m (.map (((burnt s).L.eraseIdx k).map ent) (bs.eraseIdx k) c),pg_run (rmOk d m n st s1 s2 (s2.set m (.map (((burnt s).L.eraseIdx k).map ent) (bs.eraseIdx k) c))) ?_,⟨?_,bs.eraseIdx k,c,?_⟩,k2.trans (Rest.set k2.wf (k2.wf _ _ hm) _ (by simp))⟩
  ·simp only [Ob.ok_cons,Ob.ok_nil,and_true]
   exact ⟨r1,neE_F,b1,o2,hd⟩
  ·rw [St.get_set,if_neg (PD.ne p2)];exact p2.row
  ·rw [St.get_set,if_pos rfl,hfi];rfl
def pSync(s:PS)(n:ByteArray):Int×PS:=
 if rdE s.L s.off true n≠0 then (rdE s.L s.off true n,s) else
 if burnB s.fu=true then (8,burnt s) else
 match find n s.L with
 |some k=>match s.L[k]? with
  |some f=>(0,{burnt s with L:=s.L.set k {f with last:=f.bytes.length}})
  |none=>(0,burnt s)
 |none=>(0,burnt s)
theorem st105{st:St}{a:Nat}{x y:AV}{ty:Nat}(hg:st.get a=some (.row [x,y] ty))(hl:st.lock= [])(k:Int):storeA E0 st 3 (.ptr a 1) (i64 k)=some (st.set a (.row [x,i64 k] ty)):=by
 have hwg:=St.wget_of hg (show a∉st.lock by rw [hl];simp)
 simp [storeA,avCells,oneA,size3,hwg]
theorem p28{vs:List AV}{off:Nat}{a:AV}(h:vs[off]? =some a):partA E0 22 vs off=some a:=plainT ty28 rfl h
theorem p105{x y:AV}:partA E0 104 [x,y] 0=some (.agg [x,y]):=by
 simp only [partA,ty105]
 rfl
theorem upd_ok{s:St}{d a m:Nat}{L:List PF}{q fu:Int}{off:Bool}(hp:PD s d L q fu off m)(hw:s.wf)(hl:s.lock= [])(f:PF)(ha:s.get a=some (.row [f.dv,i64 f.last] 104)):
  ∃s',(obU d a m s f.name (.agg [f.dv,i64 f.last]) s').ok∧PD s' d (putL L f) q fu off m∧Rest s s' [d,m]:=by
 obtain ⟨bs,c,hm⟩:=hp.map
 obtain ⟨bs',c',hu⟩:=put_ok hm hl f
 refine ⟨_,?_,⟨?_,bs',c',by rw [St.get_set,if_pos rfl]⟩,Rest.set hw (hw _ _ hm) _ (by simp)⟩
 ·unfold obU
  simp only [Ob.ok_cons,Ob.ok_nil,and_true]
  refine ⟨fun k hk=> ?_,⟨by simp,load_row hp.row (p101 rfl)⟩,⟨by simp,load_row ha p105⟩,(fun h=>(by cases h)),hu⟩
  simp only [List.mem_cons,List.not_mem_nil,or_false] at hk
  rcases hk with rfl|rfl
  ·exact hw _ _ hp.row
  ·exact hw _ _ ha
 ·rw [St.get_set,if_neg hp.ne];exact hp.row
theorem putL_hit{L:List PF}{k:Nat}{f:PF}(h:find f.name L=some k):putL L f=L.set k f:=by unfold putL;rw [h]
theorem sync_ok{st:St}{d m:Nat}{s:PS}(hp:PDs st d m s)(hw:st.wf)(hl:st.lock= [])(hg:Good s)(n:ByteArray):
  ∃st',obC 52 [.ptr d 0,str n] st (i64 (pSync s n).1) st'∧PDs st' d m (pSync s n).2∧Rest st st' [d,m]:=by
 unfold pSync
 by_cases hr:rdE s.L s.off true n≠0
 ·rw [if_pos hr]
  obtain ⟨s1,r1,k1⟩:=rd_ok hp hw hl n true
  refine ⟨s1,pg_run (sySyn d n _ st s1) ?_,PD.rest hp k1,k1.weak (by simp)⟩
  simp only [Ob.ok_cons,Ob.ok_nil,and_true]
  exact ⟨r1,neE_T hr⟩
 rw [if_neg hr]
 obtain ⟨s1,s2,r1,k1,p1,b1,p2,k2,l2,o2⟩:=way hp hw hl hg.fu hr
 obtain ⟨k,f,hfi,hk,hn⟩:=rd0_find hr
 by_cases hb:burnB s.fu=true
 ·rw [if_pos hb]
  rw [hb] at b1
  refine ⟨s2,pg_run (syBurn d n st s1 s2) ?_,p2,k2⟩
  simp only [Ob.ok_cons,Ob.ok_nil,and_true]
  exact ⟨r1,neE_F,b1⟩
 rw [if_neg hb]
 rw [Bool.not_eq_true] at hb
 rw [hb] at b1
 obtain ⟨bs,c,hm⟩:=p2.map
 have olk:obK s2 m n false (.agg [f.dv,i64 f.last]):=⟨lookup_hit hm hfi hk false,rfl⟩
 obtain ⟨s3,a1,a2,a3,a4⟩:=local_ok k2.wf l2 f.dv (i64 f.last)
 have l3:s3.lock= []:=a3.lock.trans l2
 have o3:obL s3 22 (.ptr s2.next 0) f.dv:=⟨load_row a2 (p28 rfl),rfl⟩
 have hst:=st105 a2 l3 f.bytes.length
 have w4:=set_wf a3.wf (a3.wf _ _ a2) (.row [f.dv,i64 f.bytes.length] 104)
 have R4:Rest s2 (s3.set s2.next (.row [f.dv,i64 f.bytes.length] 104)) []:=⟨fun i o _ ho=>by
  have:=k2.wf _ _ ho
  rw [St.get_set,if_neg (by omega)];exact a3.keep _ _ (by simp) ho,a3.next,a3.lock,a3.gl,w4⟩
 have p4:PDs (s3.set s2.next (.row [f.dv,i64 f.bytes.length] 104)) d m (burnt s):=PD.rest p2 R4
 obtain ⟨s5,u1,u2,u3⟩:=upd_ok p4 w4 (by simpa using l3) {f with last:=f.bytes.length} (a:=s2.next) (by rw [St.get_set,if_pos rfl])
 have hput:putL (burnt s).L {f with last:=f.bytes.length}=s.L.set k {f with last:=f.bytes.length}:=putL_hit (by rw [hn];exact hfi)
 generalize s3.set s2.next (.row [f.dv,i64 f.bytes.length] 104)=s4 at*
 rw [hfi]
 simp only [hk]
 refine ⟨s5,?_,?_,(k2.trans (R4.weak (by simp))).trans u3⟩
 ·simp only [hn] at u1
  rcases (hg.dv f (List.mem_of_getElem? hk)).1 with ⟨h0,hdv⟩|⟨fl,hdv⟩
  ·refine pg_run (syOkN d m n (.agg [f.dv,i64 f.last]) st s1 s2 s3 s4 (.agg [f.dv,i64 f.bytes.length]) s5) ?_
   rw [Ob.ok_append]
   refine ⟨?_,u1⟩
   simp only [Ob.ok_cons,Ob.ok_nil,and_true]
   rw [hdv] at o3
   have e0:((f.bytes.length:Nat):Int)=0:=by rw [h0];rfl
   rw [e0] at hst
   exact ⟨r1,neE_F,b1,o2,olk,a1,o3,hst⟩
  ·refine pg_run (syOk d m n (.agg [f.dv,i64 f.last]) st s1 s2 s3 s4 f.bytes.length fl (f.bytes.map u8) (.agg [f.dv,i64 f.bytes.length]) s5) ?_
   rw [Ob.ok_append]
   refine ⟨?_,u1⟩
   simp only [Ob.ok_cons,Ob.ok_nil,and_true]
   rw [hdv] at o3
   exact ⟨r1,neE_F,b1,o2,olk,a1,o3,hst⟩
 ·show PD s5 d (s.L.set k {f with last:=f.bytes.length}) s.q (burnN s.fu) (burnB s.fu) m
  rw [←hput];exact u2
end
section
set_option maxRecDepth 4000
theorem el28:elemA E0 22=some (5,⟨.int .u8,1,1,some (.int .u8 0)⟩,[u8 0]):=by kernel_rfl
theorem str28:isStrTy E0 22=false:=by kernel_rfl
theorem src28{st:St}{x:AV}:srcA E0 st 22 x=sliceCells st x:=by simp only [srcA,ty28]
def big:Nat:=1099511627776
theorem app_full{st:St}{id off len n:Nat}{vs c:List AV}{x:AV}(hg:st.get id=some (.row vs 5))(ho:off+len≤vs.length)(hx:sliceCells st x=some (n,c))(hc:c.length=n)(h0:n≠0)(hb:len+n≤big):
  appendA E0 st 22 22 (.sl id 1 off len true) x=some (.sl st.next 1 0 (len+n) false,st.push (.row ((vs.drop off).take len++c) 5)):=by
 unfold big at hb
 simp only [appendA,el28,src28,hx,str28,hg,Nat.mul_one]
 rw [if_pos ⟨hc,fun h=>by cases h⟩,if_neg (fun h=>h rfl),if_neg h0,if_pos ⟨by omega,by omega⟩,if_pos ⟨trivial,ho⟩,if_pos trivial]
theorem app_row{st:St}{id len n:Nat}{vs c:List AV}{x:AV}(hg:st.get id=some (.row vs 5))(hl:st.lock= [])(ho:len=vs.length)(hx:sliceCells st x=some (n,c))(hc:c.length=n)(h0:n≠0)(hb:len+n≤big):
  appendA E0 st 22 22 (.sl id 1 0 len false) x=some (.sl st.next 1 0 (len+n) false,(st.del id).push (.row (vs++c) 5)):=by
 unfold big at hb
 simp only [appendA,el28,src28,hx,str28,hg,Nat.mul_one]
 rw [if_pos ⟨hc,fun h=>by cases h⟩,if_neg (fun h=>h rfl),if_neg h0,if_pos ⟨by omega,by omega⟩,if_pos ⟨trivial,by omega⟩,if_neg (by simp),if_pos ⟨by omega,by rw [hl];simp⟩,List.drop_zero]
theorem app_nil{st:St}{n:Nat}{c:List AV}{x:AV}(hx:sliceCells st x=some (n,c))(hc:c.length=n)(h0:n≠0)(hb:n≤big):
  appendA E0 st 22 22 .nils x=some (.sl st.next 1 0 n false,st.push (.row c 5)):=by
 unfold big at hb
 simp only [appendA,el28,src28,hx,str28,Nat.mul_one]
 rw [if_pos ⟨hc,fun h=>by cases h⟩,if_neg h0,if_pos ⟨by omega,by omega⟩]
theorem app_zero{st:St}{s x:AV}{c:List AV}(hs:s= .nils∨∃i o l f,s= .sl i 1 o l f)(hx:sliceCells st x=some (0,c))(hc:c.length=0):appendA E0 st 22 22 s x=some (s,st):=by
 rcases hs with rfl|⟨i,o,l,f,rfl⟩<;>simp only [appendA,el28,src28,hx,str28,Nat.mul_one]
 ·rw [if_pos ⟨hc,fun h=>by cases h⟩,if_pos trivial]
 ·rw [if_pos ⟨hc,fun h=>by cases h⟩,if_neg (fun h=>h rfl),if_pos trivial]
def OwnB(st:St)(v:AV)(bs:List Int):Prop:=
 (bs= []∧v= .nils)∨(bs= []∧∃i,v= .sl i 1 0 0 true∧st.get i=some (.row [] 5))∨(bs≠ []∧∃i,v= .sl i 1 0 bs.length false∧st.get i=some (.row (bs.map u8) 5))
theorem OwnB.kind{st:St}{v:AV}{bs:List Int}(h:OwnB st v bs):v= .nils∨∃i o l f,v= .sl i 1 o l f:=by
 rcases h with ⟨_,h⟩|⟨_,i,h,_⟩|⟨_,i,h,_⟩
 ·exact .inl h
 ·exact .inr ⟨i,0,0,true,h⟩
 ·exact .inr ⟨i,0,_,false,h⟩
theorem app_own{st:St}{v x:AV}{bs c:List Int}(hv:OwnB st v bs)(hw:st.wf)(hl:st.lock= [])(hx:sliceCells st x=some (c.length,c.map u8))(hb:bs.length+c.length≤big):
  ∃v' st',appendA E0 st 22 22 v x=some (v',st')∧OwnB st' v' (bs++c)∧(∀i,(∀o l f,v≠ .sl i 1 o l f)→∀p,st.get i=some p→st'.get i=some p)∧st.next≤st'.next∧st'.lock= []∧st'.gl=st.gl∧st'.wf∧(v'=v∧st'=st∨∃l f,v'= .sl st.next 1 0 l f):=by
 by_cases h0:c.length=0
 ·have hc:c= []:=List.eq_nil_of_length_eq_zero h0
  subst hc
  exact ⟨v,st,app_zero hv.kind hx rfl,by simpa using hv,fun i _ p h=>h,Nat.le_refl _,hl,rfl,hw,.inl ⟨rfl,rfl⟩⟩
 have hne:bs++c≠ []:=fun e=>h0 (by rw [(List.append_eq_nil_iff.1 e).2];rfl)
 rcases hv with ⟨rfl,rfl⟩|⟨rfl,i,rfl,hg⟩|⟨hbs,i,rfl,hg⟩
 ·refine ⟨_,_,app_nil hx (by simp) h0 (by simpa using hb),.inr (.inr ⟨hne,st.next,by simp,by rw [St.get_push,if_pos rfl];simp⟩),fun i _ p h=> ?_,by simp,by simpa using hl,rfl,push_wf hw _,.inr ⟨_,_,rfl⟩⟩
  have:=hw _ _ h
  rw [St.get_push,if_neg (by omega)];exact h
 ·refine ⟨_,_,app_full hg (by simp) hx (by simp) h0 (by simpa using hb),.inr (.inr ⟨hne,st.next,by simp,by rw [St.get_push,if_pos rfl];simp⟩),fun j _ p h=> ?_,by simp,by simpa using hl,rfl,push_wf hw _,.inr ⟨_,_,rfl⟩⟩
  have:=hw _ _ h
  rw [St.get_push,if_neg (by omega)];exact h
 ·have hdw:(st.del i).wf:=fun j p h=>by
   rw [St.get_del] at h
   split at h
   ·cases h
   ·exact hw _ _ h
  refine ⟨_,_,app_row hg hl (by simp) hx (by simp) h0 hb,.inr (.inr ⟨hne,st.next,by simp,by rw [St.get_push,if_pos (by simp)];simp⟩),fun j hj p h=> ?_,by simp,by simpa using hl,rfl,push_wf hdw _,.inr ⟨_,_,rfl⟩⟩
  have:=hw _ _ h
  rw [St.get_push,if_neg (by simp;omega),St.get_del,if_neg (fun e=>hj _ _ _ (by rw [e]))];exact h
theorem clone_ok{st:St}(hw:st.wf)(hl:st.lock= []){f:PF}(hf:DV f)(hb:f.bytes.length≤big):∃v st',obC 59 [f.dv] st v st'∧OwnB st' v f.bytes∧Rest st st' []∧(v= .nils∨∃i o l g,v= .sl i 1 o l g∧st.next≤i):=by
 rcases hf with ⟨h1,h2⟩|⟨fl,h2⟩
 ·rw [h2]
  exact ⟨.nils,st,bp_run (clN st) Ob.ok_nil,.inl ⟨h1,rfl⟩,Rest.refl hw _,.inl rfl⟩
 ·have hx:sliceCells (st.push (.row [] 5)) (.imm 1 f.bytes.length fl (f.bytes.map u8))=some (f.bytes.length,f.bytes.map u8):=rfl
  have hl':(st.push (.row [] 5)).lock= []:=by simpa using hl
  obtain ⟨v,st',a1,a2,a3,a4,a5,a6,a7,a8⟩:=app_own (v:= .sl st.next 1 0 0 true) (bs:= []) (.inr (.inl ⟨rfl,st.next,rfl,by rw [St.get_push,if_pos rfl]⟩)) (push_wf hw (.row [] 5)) hl' hx (by simpa using hb)
  rw [h2]
  refine ⟨v,st',bp_run (clI v st st' fl f.bytes.length (f.bytes.map u8)) (by simp only [Ob.ok_cons,Ob.ok_nil,and_true];exact a1),by simpa using a2,⟨fun i o _ ho=> ?_,by simp at a4;omega,a5.trans hl.symm,a6,a7⟩,?_⟩
  ·have:=hw _ _ ho
   refine a3 i (fun o l g e=>by cases e;omega) o ?_
   rw [St.get_push,if_neg (by omega)];exact ho
  ·rcases a8 with ⟨rfl,_⟩|⟨l,g,rfl⟩
   ·exact .inr ⟨_,_,_,_,rfl,Nat.le_refl _⟩
   ·exact .inr ⟨_,_,_,_,rfl,by simp⟩
end
section
set_option maxRecDepth 4000
def ArgB(st:St)(x:AV)(c:List Int):Prop:=(c= []∧x= .nils)∨(∃fl,x= .imm 1 c.length fl (c.map u8))∨∃i fl,x= .sl i 1 0 c.length fl∧st.get i=some (.row (c.map u8) 5)
theorem ArgB.cells{st:St}{x:AV}{c:List Int}(h:ArgB st x c):sliceCells st x=some (c.length,c.map u8):=by
 rcases h with ⟨rfl,rfl⟩|⟨fl,rfl⟩|⟨i,fl,rfl,hg⟩
 ·rfl
 ·rfl
 ·simp only [sliceCells,hg,Nat.mul_one]
  rw [if_pos (by simp),List.drop_zero,List.take_of_length_le (by simp)]
theorem ArgB.keep{st st':St}{x:AV}{c:List Int}(h:ArgB st x c)(hk:∀i,st.get i=some (.row (c.map u8) 5)→st'.get i=some (.row (c.map u8) 5)):ArgB st' x c:=by
 rcases h with h|h|⟨i,fl,h,hg⟩
 ·exact .inl h
 ·exact .inr (.inl h)
 ·exact .inr (.inr ⟨i,fl,h,hk i hg⟩)
theorem Rest.bytes{st st':St}{d m:Nat}{L:List PF}{q fu:Int}{off:Bool}(hr:Rest st st' [d,m])(hp:PD st d L q fu off m){i:Nat}{vs:List AV}(hg:st.get i=some (.row vs 5)):st'.get i=some (.row vs 5):=by
 refine hr.keep i _ (fun hi=> ?_) hg
 simp only [List.mem_cons,List.not_mem_nil,or_false] at hi
 obtain ⟨bs,c,hm⟩:=hp.map
 rcases hi with rfl|rfl
 ·rw [hp.row] at hg
  simp only [Option.some.injEq,AObj.row.injEq] at hg
  exact absurd hg.2 (by decide)
 ·rw [hm] at hg;cases hg
theorem ACalls.mwf{P:Program}{f:Nat}{args:List AV}{Q:AV→St→Prop}{st:St}(h:(∀m es bs c,st.get m=some (.map es bs c)→es.length=bs.length∧bs.Nodup∧∀b∈bs,b<c)→ACalls P f args Q st):ACalls P f args Q st:=
 fun g w us hok hv=>h (fun m es bs c hm=>by
  obtain ⟨_,es',h1,h2,h3,h4,h5,h6⟩:=hok.obj m _ hm
  refine ⟨?_,h5,h6⟩
  have e1:=h2.1
  rw [←h4]
  simpa using e1.symm) g w us hok hv
def usedL(L:List PF):Nat:=(L.map fun f=>f.bytes.length).sum
theorem lenFile_ent{f:PF}(h:DV f):lenFile (ent f).2=f.bytes.length∧okFile (ent f).2=true:=by
 rcases h with ⟨h1,h2⟩|⟨fl,h2⟩
 ·simp [ent,h2,h1,lenFile,okFile,lenV,isSlice]
 ·simp [ent,h2,lenFile,okFile,lenV,isSlice]
theorem used_ok{st:St}{d m:Nat}{L:List PF}{q fu:Int}{off:Bool}(hrow:st.get d=some (.row [.mp m,i64 q,i64 fu,bo off] 107)){bs:List Nat}{c:Nat}(hm:st.get m=some (.map (L.map ent) bs c))(hd:∀f∈L,DV f)(hlk:∀i∈st.lock,i<st.next)(hu:usedL L<1000000000):
  obC 65 [.ptr d 0] st (i64 (usedL L)) {st with next:=st.next+1+bs.length}:=by
 refine ACalls.mwf fun hmw=> ?_
 obtain ⟨h1,h2,h3⟩:=hmw m _ bs c hm
 simp only [List.length_map] at h1
 have hi:∀i,i<bs.length→((L.map ent).getD i default).2=(ent (L.getD i ⟨⟨#[]⟩,.nils,[],0⟩)).2∧∃f,L[i]? =some f∧L.getD i ⟨⟨#[]⟩,.nils,[],0⟩=f:=fun i hi=>by
  have:i<L.length:=by omega
  refine ⟨?_,L[i],List.getElem?_eq_getElem this,?_⟩
  ·rw [List.getD_eq_getElem?_getD,List.getD_eq_getElem?_getD,List.getElem?_map,List.getElem?_eq_getElem this];rfl
  ·rw [List.getD_eq_getElem?_getD,List.getElem?_eq_getElem this];rfl
 have hsum:((List.range bs.length).map fun i=>lenFile ((L.map ent).getD i default).2).sum=usedL L:=by
  unfold usedL
  congr 1
  rw [←h1]
  apply List.ext_getElem?
  intro i
  by_cases hlt:i<L.length
  ·obtain ⟨e1,f,e2,e3⟩:=hi i (by omega)
   rw [List.getElem?_map,List.getElem?_range hlt,List.getElem?_map,e2]
   simp only [Option.map_some]
   rw [e1,e3,(lenFile_ent (hd f (List.mem_of_getElem? e2))).1]
  ·rw [List.getElem?_eq_none (by simp;omega),List.getElem?_eq_none (by simp;omega)]
 refine (used d m st 107 _ (L.map ent) bs c hrow hm (fun i=>lenFile ((L.map ent).getD i default).2) (usedL L) (fun _=>rfl) hsum h2 (by simpa using h3) (by simpa using h1) (fun i hlt=> ?_) hlk hu).mono fun a s e=> ?_
 ·obtain ⟨e1,f,e2,e3⟩:=hi i hlt
  rw [e1,e3];exact (lenFile_ent (hd f (List.mem_of_getElem? e2))).2
 ·cases e;exact ⟨rfl,rfl⟩
end
section
set_option maxRecDepth 4000
theorem le_sum:∀{l:List Nat} {x:Nat},x∈l→x≤l.sum
 |a::r,x,h=>by
  rw [List.sum_cons]
  rcases List.mem_cons.1 h with rfl|h
  ·omega
  ·have:=le_sum h;omega
theorem small_of{s:PS}{f:PF}(h:usedL s.L≤big)(hf:f∈s.L):f.bytes.length≤big:=by
 refine Nat.le_trans ?_ h
 unfold usedL
 exact le_sum (List.mem_map.2 ⟨f,hf,rfl⟩)
theorem way0{st:St}{d m:Nat}{s:PS}(hp:PDs st d m s)(hw:st.wf)(hl:st.lock= []){n:ByteArray}(hr:¬rdE s.L s.off true n≠0):
  ∃s1,obR d TT n st 0 s1∧Rest st s1 []∧PDs s1 d m s∧s1.lock= []∧obL s1 105 (.ptr d 0) (.mp m):=by
 obtain ⟨s1,r1,k1⟩:=rd_ok hp hw hl n true
 have hr0:rdE s.L s.off true n=0:=by simpa using hr
 rw [hr0] at r1
 have p1:PDs s1 d m s:=PD.rest hp k1
 exact ⟨s1,r1,k1,p1,k1.lock.trans hl,⟨load_row p1.row (p101 rfl),rfl⟩⟩
theorem read_ok{st:St}{d m:Nat}{s:PS}(hp:PDs st d m s)(hw:st.wf)(hl:st.lock= [])(hg:Good s)(hu:usedL s.L≤big)(n:ByteArray):
  ∃v st',obC 29 [.ptr d 0,str n] st (.tup [v,i64 (rdE s.L s.off true n)]) st'∧Rest st st' []∧
   ((rdE s.L s.off true n≠0∧v= .nils)∨rdE s.L s.off true n=0∧∃k f,find n s.L=some k∧s.L[k]? =some f∧OwnB st' v f.bytes∧(v= .nils∨∃i o l g,v= .sl i 1 o l g∧st.next≤i)):=by
 by_cases hr:rdE s.L s.off true n≠0
 ·obtain ⟨s1,r1,k1⟩:=rd_ok hp hw hl n true
  refine ⟨.nils,s1,pg_run (rdNot d n _ st s1) ?_,k1,.inl ⟨hr,rfl⟩⟩
  simp only [Ob.ok_cons,Ob.ok_nil,and_true]
  exact ⟨r1,neE_T hr⟩
 obtain ⟨s1,r1,k1,p1,l1,o1⟩:=way0 hp hw hl hr
 have hr0:rdE s.L s.off true n=0:=by simpa using hr
 rw [hr0]
 obtain ⟨k,f,hfi,hk,hn⟩:=rd0_find hr
 obtain ⟨bs,c,hm⟩:=p1.map
 have olk:obK s1 m n false (.agg [f.dv,i64 f.last]):=⟨lookup_hit hm hfi hk false,rfl⟩
 obtain ⟨v,s2,c1,c2,c3,c4⟩:=clone_ok k1.wf l1 (hg.dv f (List.mem_of_getElem? hk)).1 (small_of hu (List.mem_of_getElem? hk))
 refine ⟨v,s2,pg_run (rdOk d m n st s1 s2 f.dv (i64 f.last) v) ?_,k1.trans c3,.inr ⟨rfl,k,f,hfi,hk,c2,?_⟩⟩
 ·simp only [Ob.ok_cons,Ob.ok_nil,and_true]
  exact ⟨r1,neE_F,o1,olk,c1⟩
 ·rcases c4 with h|⟨i,o,l,g,h,hi⟩
  ·exact .inl h
  ·exact .inr ⟨i,o,l,g,h,Nat.le_trans k1.next hi⟩
def pLoose(s:PS)(n:ByteArray):Int:=
 if rdE s.L s.off true n≠0 then 0 else match find n s.L with
 |some k=>match s.L[k]? with
  |some f=>(f.bytes.length:Int)- f.last
  |none=>0
 |none=>0
theorem loose_ok{st:St}{d m:Nat}{s:PS}(hp:PDs st d m s)(hw:st.wf)(hl:st.lock= [])(hg:Good s)(hu:usedL s.L≤big)(n:ByteArray):
  ∃st',obC 70 [.ptr d 0,str n] st (.tup [i64 (pLoose s n),i64 (rdE s.L s.off true n)]) st'∧Rest st st' []:=by
 unfold pLoose
 by_cases hr:rdE s.L s.off true n≠0
 ·rw [if_pos hr]
  obtain ⟨s1,r1,k1⟩:=rd_ok hp hw hl n true
  refine ⟨s1,pg_run (loNot d n _ st s1) ?_,k1⟩
  simp only [Ob.ok_cons,Ob.ok_nil,and_true]
  exact ⟨r1,neE_T hr⟩
 rw [if_neg hr]
 obtain ⟨s1,r1,k1,p1,l1,o1⟩:=way0 hp hw hl hr
 have hr0:rdE s.L s.off true n=0:=by simpa using hr
 rw [hr0]
 obtain ⟨k,f,hfi,hk,hn⟩:=rd0_find hr
 obtain ⟨bs,c,hm⟩:=p1.map
 have olk:obK s1 m n false (.agg [f.dv,i64 f.last]):=⟨lookup_hit hm hfi hk false,rfl⟩
 obtain ⟨s2,a1,a2,a3,a4⟩:=local_ok k1.wf l1 f.dv (i64 f.last)
 have o2:obL s2 22 (.ptr s1.next 0) f.dv:=⟨load_row a2 (p28 rfl),rfl⟩
 have o3:obL s2 3 (.ptr s1.next 1) (i64 f.last):=⟨load_row a2 (p3 rfl),rfl⟩
 have hlast:=(hg.dv f (List.mem_of_getElem? hk)).2
 have hsm:=small_of hu (List.mem_of_getElem? hk)
 unfold big at hsm
 rw [hfi]
 simp only [hk]
 refine ⟨s2,?_,k1.trans a3⟩
 rcases (hg.dv f (List.mem_of_getElem? hk)).1 with ⟨h0,hdv⟩|⟨fl,hdv⟩
 ·have e0:(f.bytes.length:Int)=0:=by rw [h0];rfl
  rw [hdv] at o2
  refine pg_run (loOkN d m n f.last (.agg [f.dv,i64 f.last]) st s1 s2 ((f.bytes.length:Int)- f.last)) ?_
  simp only [Ob.ok_cons,Ob.ok_nil,and_true]
  exact ⟨r1,neE_F,o1,olk,a1,o2,o3,by rw [subN_eq _ _ (by omega),e0]⟩
 ·rw [hdv] at o2
  refine pg_run (loOk d m n f.last (.agg [f.dv,i64 f.last]) st s1 s2 f.bytes.length fl (f.bytes.map u8) ((f.bytes.length:Int)- f.last)) ?_
  simp only [Ob.ok_cons,Ob.ok_nil,and_true]
  exact ⟨r1,neE_F,o1,olk,a1,o2,o3,by rw [subN_eq _ _ (by omega)]⟩
theorem gtP_T{a b:Int}(h:b<a):gtP a b TT:=by
 have:gtP a b TT=(some (bo (gtN a b))=some TT):=rfl
 rw [this];exact congrArg some (gt_T h)
theorem gtP_F{a b:Int}(h:a≤b):gtP a b FF:=by
 have:gtP a b FF=(some (bo (gtN a b))=some FF):=rfl
 rw [this];exact congrArg some (gt_F h)
theorem subP_ok{a b:Int}(h: -9223372036854775808≤a- b∧a- b≤9223372036854775807):subP a b (a- b):=by
 have:subP a b (a- b)=(some (i64 (subN a b))=some (i64 (a- b))):=rfl
 rw [this,subN_eq _ _ h]
end
section
set_option maxRecDepth 4000
section
variable {d m:Nat} {n:ByteArray} {st s1 s2 s3 s4 s5 s6 s7 s8:St} {x:AV} {c:List Int}
theorem ap_not{e:Int}(hx:ArgB st x c)(h1:obR d TT n st e s1)(he:e≠0):obC 32 [.ptr d 0,str n,x] st (i64 e) s1:=by
 have ob:Ob.ok [obR d TT n st e s1,bo (neE e 0)=TT]:=by simp only [Ob.ok_cons,Ob.ok_nil,and_true];exact ⟨h1,neE_T he⟩
 rcases hx with ⟨rfl,rfl⟩|⟨fl,rfl⟩|⟨i,fl,rfl,hg⟩
 ·exact ap_run (apNotN d n e st s1) ob
 ·exact ap_run (apNotI d n e st s1 _ fl _) ob
 ·exact ap_run (apNotS d n e st s1 i _ fl) ob
theorem ap_full{q u y:Int}(hx:ArgB st x c)(hc:0<c.length)(h1:obR d TT n st 0 s1)(h2:(obRoom d c.length q u y s1 s2 TT).ok):obC 32 [.ptr d 0,str n,x] st (i64 7) (s2.show s1 [d]):=by
 have ob:Ob.ok ([obR d TT n st 0 s1,bo (neE 0 0)=FF]++obRoom d c.length q u y s1 s2 TT):=by rw [Ob.ok_append];simp only [Ob.ok_cons,Ob.ok_nil,and_true];exact ⟨⟨h1,neE_F⟩,h2⟩
 rcases hx with ⟨rfl,rfl⟩|⟨fl,rfl⟩|⟨i,fl,rfl,hg⟩
 ·simp at hc
 ·exact ap_run (apFullI d n q u y st s1 s2 _ fl _) ob
 ·exact ap_run (apFullS d n q u y st s1 s2 i _ fl) ob
theorem ap_burn{q u y:Int}(hx:ArgB st x c)(hc:0<c.length)(h1:obR d TT n st 0 s1)(h2:(obRoom d c.length q u y s1 s2 FF).ok)(h3:obC 60 [.ptr d 0] (s2.show s1 [d]) TT s3):obC 32 [.ptr d 0,str n,x] st (i64 8) s3:=by
 have ob:Ob.ok ([obR d TT n st 0 s1,bo (neE 0 0)=FF]++obRoom d c.length q u y s1 s2 FF++ [obC 60 [.ptr d 0] (s2.show s1 [d]) TT s3]):=by
  rw [Ob.ok_append,Ob.ok_append];simp only [Ob.ok_cons,Ob.ok_nil,and_true];exact ⟨⟨⟨h1,neE_F⟩,h2⟩,h3⟩
 rcases hx with ⟨rfl,rfl⟩|⟨fl,rfl⟩|⟨i,fl,rfl,hg⟩
 ·simp at hc
 ·exact ap_run (apBurnI d n q u y st s1 s2 s3 _ fl _) ob
 ·exact ap_run (apBurnS d n q u y st s1 s2 s3 i _ fl) ob
theorem ap_burn0(hx:ArgB st x c)(hc:c.length=0)(h1:obR d TT n st 0 s1)(h3:obC 60 [.ptr d 0] s1 TT s3):obC 32 [.ptr d 0,str n,x] st (i64 8) s3:=by
 have e0:(c.length:Int)=0:=by rw [hc];rfl
 have ob:Ob.ok ([obR d TT n st 0 s1,bo (neE 0 0)=FF]++obNoB d c.length s1++ [obC 60 [.ptr d 0] s1 TT s3]):=by
  rw [Ob.ok_append,Ob.ok_append];unfold obNoB;simp only [Ob.ok_cons,Ob.ok_nil,and_true];exact ⟨⟨⟨h1,neE_F⟩,(fun i hi=>(by cases hi)),gtP_F (by omega)⟩,h3⟩
 rcases hx with ⟨rfl,rfl⟩|⟨fl,rfl⟩|⟨i,fl,rfl,hg⟩
 ·exact ap_run (apBurn0N d n st s1 s3) ob
 ·exact ap_run (apBurn0I d n st s1 s3 _ fl _) ob
 ·exact ap_run (apBurn0S d n st s1 s3 i _ fl) ob
def obApp(d m:Nat)(n:ByteArray)(x v dv cl nd l:AV)(sb s3 s4 s5 s6 s7 s8:St):Ob:= [obC 60 [.ptr d 0] sb FF s3,obL s3 105 (.ptr d 0) (.mp m),obK s3 m n false v,storeA E0 (zSt s3) 104 (.ptr s3.next 0) v=some s4,obL s4 22 (.ptr s3.next 0) dv,obC 59 [dv] s4 cl s5,appendA E0 s5 22 22 cl x=some (nd,s6),storeA E0 s6 22 (.ptr s3.next 0) nd=some s7]++obU d s3.next m s7 n l s8
theorem ap_ok{q u y:Int}{v dv cl nd l:AV}(hx:ArgB st x c)(hc:0<c.length)(h1:obR d TT n st 0 s1)(h2:(obRoom d c.length q u y s1 s2 FF).ok)(h3:(obApp d m n x v dv cl nd l (s2.show s1 [d]) s3 s4 s5 s6 s7 s8).ok):obC 32 [.ptr d 0,str n,x] st (i64 0) s8:=by
 have ob:Ob.ok ([obR d TT n st 0 s1,bo (neE 0 0)=FF]++obRoom d c.length q u y s1 s2 FF++obApp d m n x v dv cl nd l (s2.show s1 [d]) s3 s4 s5 s6 s7 s8):=by
  rw [Ob.ok_append,Ob.ok_append];simp only [Ob.ok_cons,Ob.ok_nil,and_true];exact ⟨⟨⟨h1,neE_F⟩,h2⟩,h3⟩
 rcases hx with ⟨rfl,rfl⟩|⟨fl,rfl⟩|⟨i,fl,rfl,hg⟩
 ·simp at hc
 ·exact ap_run (apOkI d m n q u y v dv cl nd l st s1 s2 s3 s4 s5 s6 s7 s8 _ fl _) ob
 ·exact ap_run (apOkS d m n q u y v dv cl nd l st s1 s2 s3 s4 s5 s6 s7 s8 i _ fl) ob
theorem ap_ok0{v dv cl nd l:AV}(hx:ArgB st x c)(hc:c.length=0)(h1:obR d TT n st 0 s1)(h3:(obApp d m n x v dv cl nd l s1 s3 s4 s5 s6 s7 s8).ok):obC 32 [.ptr d 0,str n,x] st (i64 0) s8:=by
 have ob:Ob.ok ([obR d TT n st 0 s1,bo (neE 0 0)=FF]++obNoB d c.length s1++obApp d m n x v dv cl nd l s1 s3 s4 s5 s6 s7 s8):=by
  rw [Ob.ok_append,Ob.ok_append];unfold obNoB;simp only [Ob.ok_cons,Ob.ok_nil,and_true];exact ⟨⟨⟨h1,neE_F⟩,(fun i hi=>(by cases hi)),gtP_F (by omega)⟩,h3⟩
 rcases hx with ⟨rfl,rfl⟩|⟨fl,rfl⟩|⟨i,fl,rfl,hg⟩
 ·exact ap_run (apOk0N d m n v dv cl nd l st s1 s3 s4 s5 s6 s7 s8) ob
 ·exact ap_run (apOk0I d m n v dv cl nd l st s1 s3 s4 s5 s6 s7 s8 _ fl _) ob
 ·exact ap_run (apOk0S d m n v dv cl nd l st s1 s3 s4 s5 s6 s7 s8 i _ fl) ob
end
end
section
set_option maxRecDepth 4000
structure RestF (st st':St) (S:List Nat):Prop where
 keep:∀i o,i∉S→st.get i=some o→(∀id vs,st.next≤id→frzO id vs o=o)→st'.get i=some o
 next:st.next≤st'.next
 lock:st'.lock=st.lock
 gl:st'.gl=st.gl
 wf:st'.wf
theorem Rest.f{st st':St}{S:List Nat}(h:Rest st st' S):RestF st st' S:=⟨fun i o hi ho _=>h.keep i o hi ho,h.next,h.lock,h.gl,h.wf⟩
theorem store28{st:St}{a:Nat}{x y v:AV}{ty:Nat}(hg:st.get a=some (.row [x,y] ty))(hl:st.lock= [])(hv:avCells v=some [v]):storeA E0 st 22 (.ptr a 0) v=some (st.set a (.row [v,y] ty)):=by
 have hwg:=St.wget_of hg (show a∉st.lock by rw [hl];simp)
 have sz:tySize E0 22=some 1:=by kernel_rfl
 simp [storeA,hv,sz,hwg]
theorem OwnB.cell{st:St}{v:AV}{bs:List Int}(h:OwnB st v bs):avCells v=some [v]:=by
 rcases h with ⟨_,rfl⟩|⟨_,i,rfl,_⟩|⟨_,i,rfl,_⟩<;>rfl
def appE(s:PS)(n:ByteArray)(c:List Int):Int:=
 if rdE s.L s.off true n≠0 then rdE s.L s.off true n else
 if 0<c.length∧s.q- usedL s.L<c.length then 7 else
 if burnB s.fu=true then 8 else 0
def AppS(s:PS)(n:ByteArray)(c:List Int)(s':PS):Prop:=
 if rdE s.L s.off true n≠0 then s'=s else
 if 0<c.length∧s.q- usedL s.L<c.length then s'=s else
 if burnB s.fu=true then s'=burnt s else
 ∃k f dv,find n s.L=some k∧s.L[k]? =some f∧f.name=n∧DV ⟨n,dv,f.bytes++c,f.last⟩∧s'={burnt s with L:=s.L.set k ⟨n,dv,f.bytes++c,f.last⟩}
theorem room_ok{s1:St}{d m:Nat}{s:PS}(hp:PDs s1 d m s)(hw:s1.wf)(hl:s1.lock= [])(hg:Good s)(hu:usedL s.L<1000000000)(hq:0≤s.q∧s.q≤9223372036854775807){k:Nat}(hk:0<k):
  ∃s2 y,(∀{r:AV},gtP k y r→(obRoom d k s.q (usedL s.L) y s1 s2 r).ok)∧Rest s1 (s2.show s1 [d]) []∧y=s.q- usedL s.L:=by
 obtain ⟨bs,c,hm⟩:=hp.map
 have hd:=hw _ _ hp.row
 refine ⟨{(s1.hide [d]) with next:=s1.next+1+bs.length},s.q- usedL s.L,fun {r} hr=> ?_,?_,rfl⟩
 ·unfold obRoom
  simp only [Ob.ok_cons,Ob.ok_nil,and_true]
  refine ⟨fun i hi=> ?_,gtP_T (by omega),⟨by simp,load_row hp.row (p3 rfl)⟩,fun _=>by simp [hp.row],?_,subP_ok (by omega),hr⟩
  ·obtain rfl:=List.mem_singleton.1 hi;exact hd
  ·refine used_ok (st:=s1.hide [d]) (L:=s.L) (q:=s.q) (fu:=s.fu) (off:=s.off) (m:=m) hp.row hm (fun f hf=>(hg.dv f hf).1) (fun i hi=> ?_) hu
   simp only [St.hide,hl,List.append_nil,List.mem_singleton] at hi
   subst hi;exact hd
 ·refine ⟨fun i o _ ho=> ?_,?_,rfl,?_,fun i o ho=> ?_⟩
  ·rw [St.show_get]
   split
   ·exact ho
   ·exact ho
  ·show s1.next≤(St.show1 _ _ _).next
   rw [St.show1_next]
   show s1.next≤s1.next+1+bs.length
   omega
  ·show (St.show1 _ _ _).gl=_
   rw [St.show1_gl];rfl
  ·show i<(St.show1 _ _ _).next
   rw [St.show1_next]
   rw [St.show_get] at ho
   have hi:i<s1.next:=by
    split at ho
    ·exact hw _ _ ho
    ·exact hw _ _ ho
   show i<s1.next+1+bs.length
   omega
end
section
set_option maxRecDepth 4000
theorem frz_u8(id:Nat)(vs:List AV)(d:List Int):frzL id vs (d.map u8)=d.map u8:=by
 rw [frzL_eq,List.map_map]
 congr 1
theorem frz_dv{id:Nat}{vs:List AV}{f:PF}(h:DV f):frz id vs f.dv=f.dv:=by
 rcases h with ⟨_,h⟩|⟨fl,h⟩
 ·rw [h];rfl
 ·rw [h];simp only [frz,frz_u8]
theorem frz_ent{id:Nat}{vs:List AV}{f:PF}(h:DV f):((frz id vs (ent f).1,frz id vs (ent f).2):AV×AV)=ent f:=by
 simp only [ent,frz,frzL,frz_dv h]
theorem frz_wf{id:Nat}{vs:List AV}{st:St}(hw:st.wf):(frzSt id vs st).wf:=fun i o ho=>by
 rw [(frzSt_ok hw).get] at ho
 show i<st.next
 split at ho
 ·cases ho
 ·obtain ⟨p,hp,_⟩:=Option.map_eq_some_iff.1 ho
  exact hw _ _ hp
theorem app_tail{st3 sb:St}{d m:Nat}{q0 fu0:Int}{off0:Bool}{L:List PF}(p3:PD st3 d L q0 fu0 off0 m)(hw:st3.wf)(hl:st3.lock= [])(hg:∀f∈L,DV f){n:ByteArray}{x:AV}{c:List Int}(hx:ArgB st3 x c)(hburn:obC 60 [.ptr d 0] sb FF st3)
  {k:Nat} {f:PF} (hfi:find n L=some k) (hk:L[k]? =some f) (hb:f.bytes.length+c.length≤big):
  ∃(cl nd:AV) (s4 s5 s6 s7 s8:St),(obApp d m n x (.agg [f.dv,i64 f.last]) f.dv cl nd (.agg [nd,i64 f.last]) sb st3 s4 s5 s6 s7 s8).ok∧PD s8 d (L.set k ⟨n,nd,f.bytes++c,f.last⟩) q0 fu0 off0 m∧Rest st3 s8 [d,m]∧OwnB s8 nd (f.bytes++c)∧(nd= .nils∨∃i o l g,nd= .sl i 1 o l g∧st3.next≤i):=by
 have hdv:=hg f (List.mem_of_getElem? hk)
 obtain ⟨bs,cc,hm⟩:=p3.map
 have o1:obL st3 105 (.ptr d 0) (.mp m):=⟨load_row p3.row (p101 rfl),rfl⟩
 have olk:obK st3 m n false (.agg [f.dv,i64 f.last]):=⟨lookup_hit hm hfi hk false,rfl⟩
 obtain ⟨s4,a1,a2,a3,a4⟩:=local_ok hw hl f.dv (i64 f.last)
 have l4:s4.lock= []:=a3.lock.trans hl
 have o4:obL s4 22 (.ptr st3.next 0) f.dv:=⟨load_row a2 (p28 rfl),rfl⟩
 obtain ⟨cl,s5,c1,c2,c3,c4⟩:=clone_ok a3.wf l4 hdv (by omega)
 have l5:s5.lock= []:=c3.lock.trans l4
 have x5:ArgB s5 x c:=hx.keep fun i h=>c3.keep _ _ (by simp) (a3.keep _ _ (by simp) h)
 obtain ⟨nd,s6,e1,e2,e3,e4,e5,e6,e7,e8⟩:=app_own c2 c3.wf l5 x5.cells hb
 have clid:∀i o l,(∃g,cl= .sl i 1 o l g)→s4.next≤i:=fun i o l ⟨g,h⟩=>by
  rcases c4 with h'|⟨i',o',l',g',h',hi'⟩
  ·rw [h'] at h;cases h
  ·rw [h'] at h;cases h;exact hi'
 have k46:∀i p,s4.get i=some p→s6.get i=some p:=fun i p h=>by
  have hi:=a3.wf _ _ h
  exact e3 i (fun o l g e=>by have:=clid i o l ⟨g,e⟩;omega) p (c3.keep _ _ (by simp) h)
 have r46:Rest s4 s6 []:=⟨fun i o _ h=>k46 i o h,Nat.le_trans c3.next e4,e5.trans l4.symm,e6.trans c3.gl,e7⟩
 have g6:=k46 _ _ a2
 have l6:s6.lock= []:=e5
 have hst:=store28 g6 l6 e2.cell
 have w7:=set_wf e7 (e7 _ _ g6) (.row [nd,i64 f.last] 104)
 have n4:st3.next<s4.next:=by omega
 have r37:Rest st3 (s6.set st3.next (.row [nd,i64 f.last] 104)) []:=⟨fun i o _ h=>by
  have:=hw _ _ h
  rw [St.get_set,if_neg (by omega)];exact k46 i o (a3.keep _ _ (by simp) h),Nat.le_trans a3.next r46.next,l6.trans hl.symm,e6.trans (c3.gl.trans a3.gl),w7⟩
 have p7:=p3.rest r37
 have ndid:nd= .nils∨∃i o l g,nd= .sl i 1 o l g∧s4.next≤i:=by
  rcases e8 with ⟨h,_⟩|⟨l,g,h⟩
  ·rw [h];exact c4
  ·exact .inr ⟨_,_,_,_,h,c3.next⟩
 have own7:OwnB (s6.set st3.next (.row [nd,i64 f.last] 104)) nd (f.bytes++c):=by
  rcases e2 with h|⟨h1,i,h2,h3⟩|⟨h1,i,h2,h3⟩
  ·exact .inl h
  ·refine .inr (.inl ⟨h1,i,h2,?_⟩)
   rcases ndid with h|⟨i',_,_,_,h,hi⟩
   ·rw [h] at h2;cases h2
   ·rw [h] at h2;cases h2
    rw [St.get_set,if_neg (by omega)];exact h3
  ·refine .inr (.inr ⟨h1,i,h2,?_⟩)
   rcases ndid with h|⟨i',_,_,_,h,hi⟩
   ·rw [h] at h2;cases h2
   ·rw [h] at h2;cases h2
    rw [St.get_set,if_neg (by omega)];exact h3
 obtain ⟨s8,u1,u2,u3⟩:=upd_ok p7 w7 l6 ⟨n,nd,f.bytes++c,f.last⟩ (a:=st3.next) (by rw [St.get_set,if_pos rfl])
 rw [putL_hit (show find n L=some k from hfi)] at u2
 refine ⟨cl,nd,s4,s5,s6,s6.set st3.next (.row [nd,i64 f.last] 104),s8,?_,u2,(r37.weak (by simp)).trans u3,?_,?_⟩
 ·unfold obApp
  rw [Ob.ok_append]
  refine ⟨?_,u1⟩
  simp only [Ob.ok_cons,Ob.ok_nil,and_true]
  exact ⟨hburn,o1,olk,a1,o4,c1,e1,hst⟩
 ·rcases own7 with h|⟨h1,i,h2,h3⟩|⟨h1,i,h2,h3⟩
  ·exact .inl h
  ·exact .inr (.inl ⟨h1,i,h2,u3.bytes p7 h3⟩)
  ·exact .inr (.inr ⟨h1,i,h2,u3.bytes p7 h3⟩)
 ·rcases ndid with h|⟨i,o,l,g,h,hi⟩
  ·exact .inl h
  ·exact .inr ⟨i,o,l,g,h,by omega⟩
theorem frz_list{id:Nat}{vs:List AV}{L:List PF}(h:∀f∈L,DV f):(L.map ent).map (fun p=>(frz id vs p.1,frz id vs p.2))=L.map ent:=by
 rw [List.map_map]
 exact List.map_congr_left fun f hf=>frz_ent (h f hf)
theorem freeze_disk{st s8:St}{d m:Nat}{L:List PF}{q fu:Int}{off:Bool}{k:Nat}{n:ByteArray}{bs:List Int}{last j l:Nat}{g:Bool}{vs:List AV}{args:List AV}{f:Nat}{e:Int}
  (h:obC f args st (i64 e) s8) (hp:PD s8 d (L.set k ⟨n,.sl j 1 0 l g,bs,last⟩) q fu off m) (hr:Rest st s8 [d,m]) (hw:st.wf) (hl:st.lock= []) (hL:∀f∈L,DV f) (hj:s8.get j=some (.row vs 5)) (hvs:vs=bs.map u8) (hlb:l=bs.length) (hjn:st.next≤j):
  ∃st',obC f args st (i64 e) st'∧PD st' d (L.set k ⟨n,.imm 1 bs.length g (bs.map u8),bs,last⟩) q fu off m∧RestF st st' [d,m]:=by
 subst hvs
 subst hlb
 have hF:=frzSt_ok (id:=j) (vs:=bs.map u8) hr.wf
 obtain ⟨b1,c1,hm⟩:=hp.map
 have hd8:=hp.row
 have hjd:d≠j:=fun e=>by
  rw [←e,hd8] at hj
  simp only [Option.some.injEq,AObj.row.injEq] at hj
  exact absurd hj.2 (by decide)
 have hjm:m≠j:=fun e=>by rw [←e,hm] at hj;cases hj
 refine ⟨frzSt j (bs.map u8) s8,?_,⟨?_,b1,c1,?_⟩,⟨fun i o hi ho hs=> ?_,hr.next,hr.lock,hr.gl,frz_wf hr.wf⟩⟩
 ·refine ACalls.freeze h fun a s' ⟨e1,e2⟩ _ _=>⟨j,bs.map u8,5,by rw [e2];exact hj,by rw [e2];exact hr.lock.trans hl,by rw [e1];rfl,by rw [e2]⟩
 ·rw [hF.get,if_neg hjd,hd8]
  rfl
 ·rw [hF.get,if_neg hjm,hm]
  simp only [Option.map_some,frzO]
  congr 2
  rw [List.map_set,List.map_set,frz_list hL,List.map_set]
  congr 1
  simp [ent,frz,frzL]
  rw [List.take_of_length_le (by simp)]
 ·have:=hr.keep i o hi ho
  have hii:=hw _ _ ho
  rw [hF.get,if_neg (by omega),this,Option.map_some,hs j _ hjn]
theorem settle{st s8:St}{d m:Nat}{L:List PF}{q fu:Int}{off:Bool}{k:Nat}{n:ByteArray}{bs:List Int}{last:Nat}{nd:AV}{args:List AV}{f:Nat}{e:Int}
  (h:obC f args st (i64 e) s8) (hp:PD s8 d (L.set k ⟨n,nd,bs,last⟩) q fu off m) (hr:Rest st s8 [d,m]) (hw:st.wf) (hl:st.lock= []) (hL:∀f∈L,DV f) (ho:OwnB s8 nd bs) (hn:nd= .nils∨∃i o l g,nd= .sl i 1 o l g∧st.next≤i):
  ∃st' dv,obC f args st (i64 e) st'∧DV ⟨n,dv,bs,last⟩∧PD st' d (L.set k ⟨n,dv,bs,last⟩) q fu off m∧RestF st st' [d,m]:=by
 rcases ho with ⟨rfl,rfl⟩|⟨rfl,i,rfl,hg⟩|⟨hb,i,rfl,hg⟩
 ·exact ⟨s8,.nils,h,.inl ⟨rfl,rfl⟩,hp,hr.f⟩
 ·obtain ⟨st',a,b,c⟩:=freeze_disk h hp hr hw hl hL hg rfl rfl (by
   rcases hn with h|⟨i',_,_,_,h,hi⟩
   ·cases h
   ·cases h;exact hi)
  exact ⟨st',_,a,.inr ⟨true,rfl⟩,b,c⟩
 ·obtain ⟨st',a,b,c⟩:=freeze_disk h hp hr hw hl hL hg rfl rfl (by
   rcases hn with h|⟨i',_,_,_,h,hi⟩
   ·cases h
   ·cases h;exact hi)
  exact ⟨st',_,a,.inr ⟨false,rfl⟩,b,c⟩
theorem append_ok{st:St}{d m:Nat}{s:PS}(hp:PDs st d m s)(hw:st.wf)(hl:st.lock= [])(hg:Good s)(hu:usedL s.L<1000000000)(hq:0≤s.q∧s.q≤9223372036854775807)(n:ByteArray){x:AV}{c:List Int}(hx:ArgB st x c)(hc:c.length<1000000000):
  ∃st' s',obC 32 [.ptr d 0,str n,x] st (i64 (appE s n c)) st'∧PDs st' d m s'∧RestF st st' [d,m]∧AppS s n c s':=by
 unfold appE AppS
 by_cases hr:rdE s.L s.off true n≠0
 ·rw [if_pos hr]
  obtain ⟨s1,r1,k1⟩:=rd_ok hp hw hl n true
  exact ⟨s1,s,ap_not hx r1 hr,PD.rest hp k1,(k1.weak (by simp)).f,by rw [if_pos hr]⟩
 rw [if_neg hr]
 obtain ⟨k,f,hfi,hk,hn⟩:=rd0_find hr
 obtain ⟨s1,r1,k1,p1,l1,o1⟩:=way0 hp hw hl hr
 have hoff:=rd0_off hr
 have hsm:f.bytes.length≤usedL s.L:=le_sum (List.mem_map.2 ⟨f,List.mem_of_getElem? hk,rfl⟩)
 have main:∀{sb:St},Rest s1 sb []→(∀{s3:St},obC 60 [.ptr d 0] sb TT s3→obC 32 [.ptr d 0,str n,x] st (i64 8) s3)→(∀{v dv cl nd l:AV} {s3 s4 s5 s6 s7 s8:St},(obApp d m n x v dv cl nd l sb s3 s4 s5 s6 s7 s8).ok→obC 32 [.ptr d 0,str n,x] st (i64 0) s8)→
   ∃st' s',obC 32 [.ptr d 0,str n,x] st (i64 (if burnB s.fu=true then 8 else 0)) st'∧PDs st' d m s'∧RestF st st' [d,m]∧(if burnB s.fu=true then s'=burnt s else∃k f dv,find n s.L=some k∧s.L[k]? =some f∧f.name=n∧DV ⟨n,dv,f.bytes++c,f.last⟩∧s'={burnt s with L:=s.L.set k ⟨n,dv,f.bytes++c,f.last⟩}):=fun {sb} rb hbT hok=>by
  have pb:PD sb d s.L s.q s.fu false m:=by have:=PD.rest p1 rb;rw [hoff] at this;exact this
  obtain ⟨s3,b1,b2,b3⟩:=burns_ok pb rb.wf (rb.lock.trans l1) hg.fu
  have R3:Rest st s3 [d,m]:=((k1.trans rb).weak (by simp)).trans (b3.weak (by simp))
  by_cases hb:burnB s.fu=true
  ·rw [if_pos hb]
   rw [hb] at b1
   exact ⟨s3,burnt s,hbT b1,b2,R3.f,by rw [if_pos hb]⟩
  ·rw [if_neg hb]
   rw [Bool.not_eq_true] at hb
   rw [hb] at b1
   have x3:ArgB s3 x c:=hx.keep fun i h=>R3.bytes hp h
   obtain ⟨cl,nd,s4,s5,s6,s7,s8,u1,u2,u3,u4,u5⟩:=app_tail b2 b3.wf (b3.lock.trans (rb.lock.trans l1)) (fun f hf=>(hg.dv f hf).1) x3 b1 hfi hk (by unfold big;omega)
   obtain ⟨st',dv,v1,v2,v3,v4⟩:=settle (hok u1) u2 (R3.trans u3) hw hl (fun f hf=>(hg.dv f hf).1) u4 (by
    rcases u5 with h|⟨i,o,l,g,h,hi⟩
    ·exact .inl h
    ·exact .inr ⟨i,o,l,g,h,Nat.le_trans R3.next hi⟩)
   refine ⟨st',{burnt s with L:=s.L.set k ⟨n,dv,f.bytes++c,f.last⟩},v1,v3,v4,?_⟩
   rw [if_neg (by rw [hb];simp)]
   exact ⟨k,f,dv,hfi,hk,hn,v2,rfl⟩
 simp only [if_neg hr]
 by_cases hc0:0<c.length
 ·obtain ⟨s2,y,h1,h2,rfl⟩:=room_ok p1 k1.wf l1 hg hu hq hc0
  by_cases hroom:s.q- usedL s.L<c.length
  ·simp only [if_pos (show 0<c.length∧s.q- (usedL s.L:Int)<(c.length:Int) from ⟨hc0,hroom⟩)]
   exact ⟨_,s,ap_full hx hc0 r1 (h1 (gtP_T hroom)),PD.rest p1 h2,((k1.trans h2).weak (by simp)).f,rfl⟩
  ·simp only [if_neg (show¬(0<c.length∧s.q- (usedL s.L:Int)<(c.length:Int)) from fun h=>hroom h.2)]
   exact main h2 (fun h=>ap_burn hx hc0 r1 (h1 (gtP_F (by omega))) h) (fun h=>ap_ok hx hc0 r1 (h1 (gtP_F (by omega))) h)
 ·simp only [if_neg (show¬(0<c.length∧s.q- (usedL s.L:Int)<(c.length:Int)) from fun h=>hc0 h.1)]
  exact main (Rest.refl k1.wf []) (fun h=>ap_burn0 hx (by omega) r1 h) (fun h=>ap_ok0 hx (by omega) r1 h)
end
section
set_option maxRecDepth 4000
open Go.RowKit Go.Maps Go.Shelf
def Tryz.clone68_ren : Go.Shelf.Ren := ⟨fun | 5 => 91 | 7 => 102 | n => n, fun | 23 => 105 | 25 => 9 | 3 => 104 | 4 => 4 | 20 => 20 | n => n, fun | n => n⟩
theorem Tryz.clone68 : Go.Proofs.SlLaysW.n5 Tryz.prog Tryz.clone68_ren := {
  mixed := by kernel_rfl
  f5 := ⟨Tryz.f91.name, by decide, Tryz.func91.trans (congrArg some (by kernel_rfl))⟩
  f7 := Tryz.func102.trans (congrArg some (by kernel_rfl))
  t4 := Tryz.underlying4
  a4 := Tryz.isAgg4
  z4 := Tryz.sizeOf4
  v4 := Tryz.zeroValue4
  t20 := Tryz.underlying20
  a20 := Tryz.isAgg20
  z20 := Tryz.sizeOf20
  v20 := Tryz.zeroValue20
  t23 := Tryz.underlying105
  a23 := Tryz.isAgg105
  z23 := Tryz.sizeOf105
  v23 := Tryz.zeroValue105 }
theorem mclone_ok{st:St}{m:Nat}{es:List (AV×AV)}{bs:List Nat}{c:Nat}(hm:st.get m=some (.map es bs c)):obC 91 [.mp m] st (.mp st.next) (st.push (.map es bs c)):=by
 intro g w us hok hv
 obtain ⟨es',h1,h2,h3,h4,h5,h6⟩:=(hok.obj m _ hm).2
 match us,hv with
 | [u],hv=>
  cases hv.head with
  |mp _ hid=>
  refine (AnyW.maps_Clone Tryz.clone68 (g.blk m) es' c w h1).mono fun e w' ⟨he,hw⟩=> ?_
  subst hw
  have hle:=g.le_add w.heap.size 0 0
  refine ⟨g.add w.heap.size 0 0,st.push (.map es bs c),.mp st.next,.map (some w.heap.size),he,step_new hok (.map es' c) 0 (.map es bs c) rfl rfl rfl rfl ⟨es',by rw [G.add_blk];show (w.heap.push _)[w.heap.size]? =_;simp,h2.mono hle,h3.mono hle,h4,h5,h6⟩,?_,rfl,rfl⟩
  rw [←hok.n]
  have:=VR.mp (g:=g.add w.heap.size 0 0) g.n (Nat.lt_succ_self _)
  simpa using this
 | [],hv=>exact absurd hv.1 (by simp)
 |_::_::_,hv=>exact absurd hv.1 (by simp)
end
section
set_option maxRecDepth 100000
def sitesK:Nat→List Nat
 |68=> [2008,5000,2012,6091]
 |47=> [5]
 |25=> [8,5000]
 |27=> [8,5000]
 |_=> []
noncomputable def cpEv(f:Nat)(args:List AV)(st:St)(o:List Or):=(evCallS Tryz.prog E0 noOv sitesK 100000 f args st o).map fun q=>(q.1,q.2.1,q.2.2.2)
def zD:AObj:= .row [.nilm,i64 0,i64 0,FF] 107
section
variable (d m m2:Nat) (v:AV) (q k:Int) (st s1 s2 s3:St)
theorem cpRun:cpEv 68 [.ptr d 0] st [.eff v id,.eff .undef (fun _=>s1),.eff (.mp m) id,.eff (.mp m2) (fun _=>s2),.eff .undef (fun _=>s3)]=some (.ptr st.next 0,s3,[obL st 107 (.ptr d 0) v,storeA E0 (st.push zD) 107 (.ptr st.next 0) v=some s1,obL s1 105 (.ptr d 0) (.mp m),obC 91 [.mp m] s1 (.mp m2) s2,storeA E0 s2 105 (.ptr st.next 0) (.mp m2)=some s3]):=by kernel_rfl
theorem newBad:cpEv 47 [i64 q] st [TT]=some (.tup [.nilp,i64 1],st,[bo (ltN q 0)=TT]):=by kernel_rfl
theorem newOk:cpEv 47 [i64 q] st [FF]=some (.tup [.ptr (st.next+1) 0,i64 0],(st.push (.map [] [] 0)).push (.row [.mp st.next,i64 q,i64 0,FF] 107),[bo (ltN q 0)=FF]):=by kernel_rfl
def maxN(a b:Int):AV:=match pureVal (Builtin.max_ #[] 0 #[.int .i64 a,.int .i64 b]) with|some x=>x|none=> .undef
theorem fuRun:cpEv 27 [.ptr d 0,i64 q] st [i64 k,.eff .undef (fun _=>s1)]=some (.tup [],s1,[maxN q 0=i64 k,storeA E0 st 3 (.ptr d 2) (i64 k)=some s1]):=by kernel_rfl
theorem quRun:cpEv 25 [.ptr d 0,i64 q] st [i64 k,.eff .undef (fun _=>s1)]=some (.tup [],s1,[maxN q 0=i64 k,storeA E0 st 3 (.ptr d 1) (i64 k)=some s1]):=by kernel_rfl
end
theorem maxN_eq(a:Int):maxN a 0=i64 (if a<0 then 0 else a):=rfl
theorem cp_run{f:Nat}{args:List AV}{a:AV}{st st':St}{o:List Or}{ob:Ob}(h:cpEv f args st o=some (a,st',ob))(hob:ob.ok):obC f args st a st':=by
 obtain ⟨⟨a1,s1,x1,o1⟩,h1,h2⟩:=Option.map_eq_some_iff.1 h
 simp only [Prod.mk.injEq] at h2
 obtain ⟨rfl,rfl,rfl⟩:=h2
 exact ACalls.run hE (ov:=noOv) noOv_ok h1 hob
theorem new_ok{st:St}(hw:st.wf)(q:Int):(q<0→obC 47 [i64 q] st (.tup [.nilp,i64 1]) st)∧(0≤q→∃st',obC 47 [i64 q] st (.tup [.ptr (st.next+1) 0,i64 0]) st'∧PDs st' (st.next+1) st.next ⟨[],q,0,false⟩∧Rest st st' []):=by
 refine ⟨fun h=>cp_run (newBad q st) (by simp only [Ob.ok_cons,Ob.ok_nil,and_true];exact lt_T h),fun h=>⟨_,cp_run (newOk q st) (by simp only [Ob.ok_cons,Ob.ok_nil,and_true];exact lt_F h),⟨by rw [St.get_push,if_pos (by simp)];rfl,[],0,?_⟩,(Rest.push hw _ _).trans (Rest.push (push_wf hw _) _ _)⟩⟩
 rw [St.get_push,if_neg (by simp),St.get_push,if_pos rfl]
 rfl
def nn(a:Int):Int:=if a<0 then 0 else a
theorem storeQ{st:St}{d:Nat}{a b c e:AV}{ty:Nat}(hg:st.get d=some (.row [a,b,c,e] ty))(hl:st.lock= [])(x:Int):storeA E0 st 3 (.ptr d 1) (i64 x)=some (st.set d (.row [a,i64 x,c,e] ty)):=by
 have hwg:=St.wget_of hg (show d∉st.lock by rw [hl];simp)
 simp [storeA,avCells,oneA,size3,hwg]
theorem fuse_ok{st:St}{d m:Nat}{s:PS}(hp:PDs st d m s)(hw:st.wf)(hl:st.lock= [])(k:Int):∃st',obC 27 [.ptr d 0,i64 k] st (.tup []) st'∧PDs st' d m {s with fu:=nn k}∧Rest st st' [d,m]:=by
 obtain ⟨bs,c,hm⟩:=hp.map
 have hs:=storeN hp.row hl (nn k)
 refine ⟨_,cp_run (fuRun d k (nn k) st (st.set d (.row [.mp m,i64 s.q,i64 (nn k),bo s.off] 107))) (by simp only [Ob.ok_cons,Ob.ok_nil,and_true];exact ⟨maxN_eq k,hs⟩),⟨by rw [St.get_set,if_pos rfl],bs,c,?_⟩,Rest.set hw (hw _ _ hp.row) _ (by simp)⟩
 rw [St.get_set,if_neg (PD.ne hp).symm];exact hm
theorem quota_ok{st:St}{d m:Nat}{s:PS}(hp:PDs st d m s)(hw:st.wf)(hl:st.lock= [])(k:Int):∃st',obC 25 [.ptr d 0,i64 k] st (.tup []) st'∧PDs st' d m {s with q:=nn k}∧Rest st st' [d,m]:=by
 obtain ⟨bs,c,hm⟩:=hp.map
 have hs:=storeQ hp.row hl (nn k)
 refine ⟨_,cp_run (quRun d k (nn k) st (st.set d (.row [.mp m,i64 (nn k),i64 s.fu,bo s.off] 107))) (by simp only [Ob.ok_cons,Ob.ok_nil,and_true];exact ⟨maxN_eq k,hs⟩),⟨by rw [St.get_set,if_pos rfl],bs,c,?_⟩,Rest.set hw (hw _ _ hp.row) _ (by simp)⟩
 rw [St.get_set,if_neg (PD.ne hp).symm];exact hm
theorem off_ok{st:St}{d m:Nat}{s:PS}(hp:PDs st d m s):obC 49 [.ptr d 0] st (bo s.off) st:=
 bp_run (offEv d st s.off) (by simp only [Ob.ok_cons,Ob.ok_nil,and_true];exact ⟨load_row hp.row (p4 rfl),rfl⟩)
theorem size103:tySize E0 107=some 4:=by kernel_rfl
theorem size101:tySize E0 105=some 1:=by kernel_rfl
theorem p103{a b c e:AV}:partA E0 107 [a,b,c,e] 0=some (.agg [a,b,c,e]):=by
 simp only [partA,ty103]
 rfl
theorem dcopy_ok{st:St}{d m:Nat}{s:PS}(hp:PDs st d m s)(hw:st.wf)(hl:st.lock= []):∃st' m2,obC 68 [.ptr d 0] st (.ptr st.next 0) st'∧PDs st' st.next m2 s∧Rest st st' []∧st.next≤m2:=by
 obtain ⟨bs,c,hm⟩:=hp.map
 have hd:=hw _ _ hp.row
 have o1:obL st 107 (.ptr d 0) (.agg [.mp m,i64 s.q,i64 s.fu,bo s.off]):=⟨load_row hp.row p103,rfl⟩
 have g0:(st.push zD).get st.next=some zD:=by rw [St.get_push,if_pos rfl]
 have l0:(st.push zD).lock= []:=by simpa using hl
 have hwg:=St.wget_of g0 (by rw [l0];simp)
 have hs1:storeA E0 (st.push zD) 107 (.ptr st.next 0) (.agg [.mp m,i64 s.q,i64 s.fu,bo s.off])=some ((st.push zD).set st.next (.row [.mp m,i64 s.q,i64 s.fu,bo s.off] 107)):=by
  simp only [storeA,avCells,hwg,size103]
  simp [zD]
 have w1:((st.push zD).set st.next (.row [.mp m,i64 s.q,i64 s.fu,bo s.off] 107)).wf:=set_wf (push_wf hw _) (by simp) _
 have r1:Rest st ((st.push zD).set st.next (.row [.mp m,i64 s.q,i64 s.fu,bo s.off] 107)) []:=⟨fun i o _ h=>by
  have:=hw _ _ h
  rw [St.get_set,if_neg (by omega),St.get_push,if_neg (by omega)];exact h,by simp,rfl,rfl,w1⟩
 have n1:((st.push zD).set st.next (.row [.mp m,i64 s.q,i64 s.fu,bo s.off] 107)).next=st.next+1:=rfl
 have gn:((st.push zD).set st.next (.row [.mp m,i64 s.q,i64 s.fu,bo s.off] 107)).get st.next=some (.row [.mp m,i64 s.q,i64 s.fu,bo s.off] 107):=by rw [St.get_set,if_pos rfl]
 generalize (st.push zD).set st.next (.row [.mp m,i64 s.q,i64 s.fu,bo s.off] 107)=s1 at*
 have p1:=PD.rest hp r1
 have hc:=mclone_ok (r1.keep _ _ (by simp) hm)
 have gn2:(s1.push (.map (s.L.map ent) bs c)).get st.next=some (.row [.mp m,i64 s.q,i64 s.fu,bo s.off] 107):=by rw [St.get_push,if_neg (by omega)];exact gn
 have l2:(s1.push (.map (s.L.map ent) bs c)).lock= []:=by show s1.lock= [];exact r1.lock.trans hl
 have hwg2:=St.wget_of gn2 (by rw [l2];simp)
 have hs3:storeA E0 (s1.push (.map (s.L.map ent) bs c)) 105 (.ptr st.next 0) (.mp s1.next)=some ((s1.push (.map (s.L.map ent) bs c)).set st.next (.row [.mp s1.next,i64 s.q,i64 s.fu,bo s.off] 107)):=by
  simp [storeA,avCells,oneA,size101,hwg2]
 refine ⟨((s1.push (.map (s.L.map ent) bs c)).set st.next (.row [.mp s1.next,i64 s.q,i64 s.fu,bo s.off] 107)),s1.next,cp_run (cpRun d m s1.next (.agg [.mp m,i64 s.q,i64 s.fu,bo s.off]) st s1 (s1.push (.map (s.L.map ent) bs c)) ((s1.push (.map (s.L.map ent) bs c)).set st.next (.row [.mp s1.next,i64 s.q,i64 s.fu,bo s.off] 107))) ?_,⟨by rw [St.get_set,if_pos rfl],bs,c,?_⟩,⟨fun i o _ h=> ?_,?_,?_,?_,?_⟩,by omega⟩
 ·simp only [Ob.ok_cons,Ob.ok_nil,and_true]
  exact ⟨o1,hs1,⟨load_row (PD.row p1) (p101 rfl),rfl⟩,hc,hs3⟩
 ·rw [St.get_set,if_neg (by omega),St.get_push,if_pos rfl]
 ·have:=hw _ _ h
  rw [St.get_set,if_neg (by omega),St.get_push,if_neg (by omega)];exact r1.keep _ _ (by simp) h
 ·show st.next≤s1.next+1;omega
 ·exact r1.lock
 ·exact r1.gl
 ·exact set_wf (push_wf r1.wf _) (by simp;omega) _
end
section
set_option maxRecDepth 4000
end
section
set_option maxRecDepth 100000
structure RF where
 name:ByteArray
 lv:AV
 ov:AV
 lb:List Int
 ob:List Int
def cells:List RF→List AV
 | []=> []
 |f::r=>str f.name::f.lv::f.ov::cells r
def ltS(a b:ByteArray):Bool:=boolI (binOp .lss 9 (.string a) (.string b))
def eqS(a b:ByteArray):Bool:=boolI (binOp .eql 9 (.string a) (.string b))
noncomputable def atP(i:Nat):Code:=match Tryz.f62.body with
 |some (.seq r0 (.seq r1 (.seq (.block 0 (.loop b)) (.seq r4 _))))=> [r0,r1,b,r4].getD i .skip
 |_=> .skip
theorem body70:Tryz.f62.body=some (.seq (atP 0) (.seq (atP 1) (.seq (.block 0 (.loop (atP 2))) (.seq (atP 3) .ret)))):=by kernel_rfl
noncomputable def atEv(i:Nat)(l:List (Nat×AV))(st:St)(x:List Or):=(evS Tryz.prog E0 noOv noS 100000 [2011,13,2018,2020,2022,24,27,2035,2042,2046,8000] (atP i) ⟨48,l,[]⟩ st x).map fun q=>(q.1,q.2.1.n,[q.2.1.get 0,q.2.1.get 1,q.2.1.get 4,q.2.1.get 5,q.2.1.get 6],q.2.2.1,q.2.2.2.2)
section
variable (d f len i j:Nat) (fl b:Bool) (n nm:ByteArray) (st:St)
abbrev atT(d:Nat)(n:ByteArray)(i:Nat):List (Nat×AV):= [(0,.ptr d 0),(1,str n),(6,i64 i)]
theorem at_0:atEv 0 [(0,.ptr d 0),(1,str n)] st []=some (.normal,48,[.ptr d 0,str n,i64 0,FF,.undef],st,[]):=by kernel_rfl
theorem at_1:atEv 1 [(0,.ptr d 0),(1,str n)] st []=some (.normal,48,[.ptr d 0,str n,.undef,.undef,i64 0],st,[]):=by kernel_rfl
theorem at_endN:atEv 2 (atT d n i) st [.eff .nils id,FF]=some (.exit 0,48,[.ptr d 0,str n,.undef,.undef,i64 i],st,[obL st 96 (.ptr d 0) .nils,bo (ltN i 0)=FF]):=by kernel_rfl
theorem at_end:atEv 2 (atT d n i) st [.eff (.sl f 3 0 len fl) id,FF]=some (.exit 0,48,[.ptr d 0,str n,.undef,.undef,i64 i],st,[obL st 96 (.ptr d 0) (.sl f 3 0 len fl),bo (ltN i len)=FF]):=by kernel_rfl
theorem at_stop:atEv 2 (atT d n i) st [.eff (.sl f 3 0 len fl) id,TT,.eff (.sl f 3 0 len fl) id,.eff (str nm) id,FF]=some (.exit 0,48,[.ptr d 0,str n,.undef,.undef,i64 i],st,
 [obL st 96 (.ptr d 0) (.sl f 3 0 len fl),bo (ltN i len)=TT,obL st 96 (.ptr d 0) (.sl f 3 0 len fl),0≤(i:Int)∧(i:Int)<len,obL st 9 (.ptr f (0+i*3+0)) (str nm),bo (ltS nm n)=FF]):=by kernel_rfl
theorem at_go:atEv 2 (atT d n i) st [.eff (.sl f 3 0 len fl) id,TT,.eff (.sl f 3 0 len fl) id,.eff (str nm) id,TT,i64 j]=some (.normal,48,[.ptr d 0,str n,.undef,.undef,i64 j],st,
 [obL st 96 (.ptr d 0) (.sl f 3 0 len fl),bo (ltN i len)=TT,obL st 96 (.ptr d 0) (.sl f 3 0 len fl),0≤(i:Int)∧(i:Int)<len,obL st 9 (.ptr f (0+i*3+0)) (str nm),bo (ltS nm n)=TT,i64 (addN i 1)=i64 j]):=by kernel_rfl
def ltP(a b:Nat)(v:AV):Prop:=binA E0 .lss 3 (i64 a) (i64 b)=some v
def eqP(a b:ByteArray)(v:AV):Prop:=binA E0 .eql 9 (str a) (str b)=some v
theorem at_outN:atEv 3 (atT d n i) st [.eff .nils id,.eff FF id]=some (.normal,48,[.ptr d 0,str n,i64 i,FF,i64 i],st,
 [∀k∈ [d],k<st.next,[d].contains d=true∧loadA E0 st 96 (.ptr d 0)=some .nils,ltP i 0 FF]):=by kernel_rfl
theorem at_out:atEv 3 (atT d n i) st [.eff (.sl f 3 0 len fl) id,.eff FF id]=some (.normal,48,[.ptr d 0,str n,i64 i,FF,i64 i],st,
 [∀k∈ [d],k<st.next,[d].contains d=true∧loadA E0 st 96 (.ptr d 0)=some (.sl f 3 0 len fl),ltP i len FF]):=by kernel_rfl
theorem at_in:atEv 3 (atT d n i) st [.eff (.sl f 3 0 len fl) id,.eff TT id,.eff (.sl f 3 0 len fl) id,.eff (.ptr f j) id,.eff (str nm) id,.eff (bo b) id]=some (.normal,48,[.ptr d 0,str n,i64 i,bo b,i64 i],st,
 [∀k∈ [d,d,f],k<st.next,[d,d,f].contains d=true∧loadA E0 st 96 (.ptr d 0)=some (.sl f 3 0 len fl),ltP i len TT,[d,d,f].contains d=true∧loadA E0 st 96 (.ptr d 0)=some (.sl f 3 0 len fl),indexAddrA E0 96 (.sl f 3 0 len fl) (i64 i)=some (.ptr f j),[d,d,f].contains f=true∧loadA E0 st 9 (.ptr f (j+0))=some (str nm),eqP nm n (bo b)]):=by kernel_rfl
end
end
section
set_option maxRecDepth 4000
theorem cells_at:∀(F:List RF) (i:Nat) (f:RF),F[i]? =some f→(cells F)[i*3]? =some (str f.name)∧(cells F)[i*3+1]? =some f.lv∧(cells F)[i*3+2]? =some f.ov
 | [],i,f,h=>by cases h
 |g::r,0,f,h=>by
  obtain rfl:g=f:=by simpa using h
  exact ⟨rfl,rfl,rfl⟩
 |g::r,i+1,f,h=>by
  have:=cells_at r i f (by simpa using h)
  have e:(i+1)*3=i*3+3:=by omega
  rw [e]
  exact this
theorem cells_length:∀F:List RF,(cells F).length=F.length*3
 | []=>rfl
 |_::r=>by simp only [cells,List.length_cons,cells_length r];omega
def FV(st:St)(fv:AV)(F:List RF):Prop:=(F= []∧fv= .nils)∨(F≠ []∧∃f fl,fv= .sl f 3 0 F.length fl∧st.get f=some (.row (cells F) 110))
structure RS where
 F:List RF
 q:Int
 fu:Int
 off:Bool
structure RD (st:St) (d:Nat) (fv:AV) (s:RS):Prop where
 row:st.get d=some (.row [fv,i64 s.q,i64 s.fu,bo s.off] 98)
 fv:FV st fv s.F
def pos:ByteArray→List RF→Nat
 |_,[]=>0
 |n,f::r=>if ltS f.name n then pos n r+1 else 0
def hit(n:ByteArray)(F:List RF):Bool:=match F[pos n F]? with
 |some f=>eqS f.name n
 |none=>false
theorem pos_le:∀(n:ByteArray) (F:List RF),pos n F≤F.length
 |_,[]=>Nat.le_refl _
 |n,f::r=>by
  unfold pos
  have:=pos_le n r
  split<;>simp<;>omega
theorem ty113:E0.ty 96=some ⟨.slice 110,1,24,some (.slice none 0 0)⟩:=by kernel_rfl
theorem size121:tySize E0 110=some 3:=by kernel_rfl
theorem p113{vs:List AV}{off:Nat}{a:AV}(h:vs[off]? =some a):partA E0 96 vs off=some a:=plainT ty113 rfl h
theorem iA113{f len:Nat}{fl:Bool}{i:Nat}(hi:i<len):indexAddrA E0 96 (.sl f 3 0 len fl) (i64 i)=some (.ptr f (i*3)):=by
 simp only [indexAddrA,ty113,size121]
 rw [if_pos (by refine ⟨trivial,?_,?_⟩<;>omega),Nat.zero_add];rfl
theorem RD.load{st:St}{d:Nat}{fv:AV}{s:RS}(h:RD st d fv s):loadA E0 st 96 (.ptr d 0)=some fv:=load_row h.row (p113 rfl)
theorem FV.of{st:St}{fv:AV}{F:List RF}(h:FV st fv F){i:Nat}{f:RF}(hf:F[i]? =some f):∃r fl,fv= .sl r 3 0 F.length fl∧st.get r=some (.row (cells F) 110):=by
 rcases h with ⟨rfl,_⟩|⟨_,r,fl,h1,h2⟩
 ·cases hf
 ·exact ⟨r,fl,h1,h2⟩
theorem ltP_T{a b:Nat}(h:a<b):ltP a b TT:=by
 have:ltP a b TT=(some (bo (ltN a b))=some TT):=rfl
 rw [this];exact congrArg some (lt_T (by omega))
theorem ltP_F{a b:Nat}(h:b≤a):ltP a b FF:=by
 have:ltP a b FF=(some (bo (ltN a b))=some FF):=rfl
 rw [this];exact congrArg some (lt_F (by omega))
theorem eqP_ok(a b:ByteArray):eqP a b (bo (eqS a b)):=rfl
def GA(T:Tm):List AV:= [T.get 0,T.get 1,T.get 4,T.get 5,T.get 6]
theorem drop_at{F:List RF}{i:Nat}{f:RF}(h:F[i]? =some f):F.drop i=f::F.drop (i+1):=by
 obtain ⟨h1,h2⟩:=List.getElem?_eq_some_iff.1 h
 rw [←h2];exact List.drop_eq_getElem_cons h1
theorem at_loop{d:Nat}{fv:AV}{s:RS}{n:ByteArray}{T:Tm}{st:St}(hr:RD st d fv s)(hsz:s.F.length≤1000000)(hn:T.n=48)(h0:T.get 0= .ptr d 0)(h1:T.get 1=str n)(h6:T.get 6=i64 0):
  AW Tryz.prog (.loop (atP 2)) (fun e T' st'=>e= .exit 0∧T'.n=48∧st'=st∧T'.get 0= .ptr d 0∧T'.get 1=str n∧T'.get 6=i64 (pos n s.F)) T st:=by
 refine .loop (fun k T st'=>∃i:Nat,i≤s.F.length∧k=s.F.length- i∧st'=st∧T.n=48∧T.get 0= .ptr d 0∧T.get 1=str n∧T.get 6=i64 i∧pos n s.F=i+pos n (s.F.drop i)) s.F.length ⟨0,by omega,rfl,rfl,hn,h0,h1,h6,by simp⟩ fun k T st' hI=> ?_
 obtain ⟨i,hi,rfl,rfl,hn,h0,h1,h6,hp⟩:=hI
 have hT:=conz (P:=fun p=>T.get p.1=p.2) (p:=(0,.ptr d 0)) h0 (conz (p:=(1,str n)) h1 (one (p:=(6,i64 i)) h6))
 have o1:obL st' 96 (.ptr d 0) fv:=⟨hr.load,rfl⟩
 cases hf:s.F[i]? with
 |none=>
  have hl:s.F.length≤i:=List.getElem?_eq_none_iff.1 hf
  have hp':pos n s.F=i:=by rw [hp,List.drop_eq_nil_of_le hl];rfl
  rcases hr.fv with ⟨h2,rfl⟩|⟨_,f,fl,rfl,h3⟩
  ·refine (any_run (G:=GA) (at_endN d i n st') (by simp only [Ob.ok_cons,Ob.ok_nil,and_true];exact ⟨o1,lt_F (by omega)⟩) hn hT).mono fun e T' st2 ⟨he,hn',hF,hst⟩=> ?_
   subst he;subst hst
   simp only [GA,List.cons.injEq,and_true] at hF
   exact ⟨rfl,hn',rfl,hF.1,hF.2.1,by rw [hp'];exact hF.2.2.2.2⟩
  ·refine (any_run (G:=GA) (at_end d f s.F.length i fl n st') (by simp only [Ob.ok_cons,Ob.ok_nil,and_true];exact ⟨o1,lt_F (by omega)⟩) hn hT).mono fun e T' st2 ⟨he,hn',hF,hst⟩=> ?_
   subst he;subst hst
   simp only [GA,List.cons.injEq,and_true] at hF
   exact ⟨rfl,hn',rfl,hF.1,hF.2.1,by rw [hp'];exact hF.2.2.2.2⟩
 |some g=>
  obtain ⟨f,fl,rfl,h3⟩:=hr.fv.of hf
  have hl:i<s.F.length:=(List.getElem?_eq_some_iff.1 hf).1
  have o2:obL st' 9 (.ptr f (0+i*3+0)) (str g.name):=⟨load_row h3 (p9 (by simpa using (cells_at _ _ _ hf).1)),rfl⟩
  have hd:pos n (s.F.drop i)=if ltS g.name n then pos n (s.F.drop (i+1))+1 else 0:=by rw [drop_at hf];rfl
  cases hlt:ltS g.name n with
  |true=>
   rw [hlt,if_pos rfl] at hd
   refine (any_run (G:=GA) (at_go d f s.F.length i (i+1) fl n g.name st') (by simp only [Ob.ok_cons,Ob.ok_nil,and_true];exact ⟨o1,lt_T (by omega),o1,by omega,o2,ob_T hlt,by rw [addN_eq _ _ (by omega)];rfl⟩) hn hT).mono fun e T' st2 ⟨he,hn',hF,hst⟩=> ?_
   subst he;subst hst
   simp only [GA,List.cons.injEq,and_true] at hF
   exact ⟨s.F.length- (i+1),by omega,i+1,by omega,rfl,rfl,hn',hF.1,hF.2.1,hF.2.2.2.2,by omega⟩
  |false=>
   rw [hlt,if_neg (by decide)] at hd
   refine (any_run (G:=GA) (at_stop d f s.F.length i fl n g.name st') (by simp only [Ob.ok_cons,Ob.ok_nil,and_true];exact ⟨o1,lt_T (by omega),o1,by omega,o2,ob_F hlt⟩) hn hT).mono fun e T' st2 ⟨he,hn',hF,hst⟩=> ?_
   subst he;subst hst
   simp only [GA,List.cons.injEq,and_true] at hF
   exact ⟨rfl,hn',rfl,hF.1,hF.2.1,by rw [hp,hd];exact hF.2.2.2.2⟩
theorem at_ok{d:Nat}{fv:AV}{s:RS}{st:St}(hr:RD st d fv s)(hw:st.wf)(hsz:s.F.length≤1000000)(n:ByteArray):obC 62 [.ptr d 0,str n] st (.tup [i64 (pos n s.F),bo (hit n s.F)]) st:=by
 refine ACalls.body (E:=E0) hE Tryz.func62 body70 ?_
 refine .seq ((any_run (G:=GA) (at_0 d n st) Ob.ok_nil rfl (conz rfl (one rfl))).mono fun e T1 s1 ⟨he,n1,F1,hst⟩=> ?_)
 subst he;subst hst
 simp only [GA,List.cons.injEq] at F1
 simp only [thenA]
 refine .seq ((any_run (G:=GA) (at_1 d n s1) Ob.ok_nil n1 (conz F1.1 (one F1.2.1))).mono fun e T2 s2 ⟨he,n2,F2,hst⟩=> ?_)
 subst he;subst hst
 simp only [GA,List.cons.injEq,and_true] at F2
 simp only [thenA]
 refine .seq (.block ((at_loop hr hsz n2 F2.1 F2.2.1 F2.2.2.2.2).mono fun e T3 s3 ⟨he,n3,hst,h0,h1,h6⟩=> ?_))
 subst he;subst hst
 simp only [blockA,if_true,thenA]
 have hT:=conz (P:=fun p=>T3.get p.1=p.2) (p:=(0,.ptr d 0)) h0 (conz (p:=(1,str n)) h1 (one (p:=(6,i64 (pos n s.F))) h6))
 have hd:=hw _ _ hr.row
 have fin:∀{T:Tm},T.get 4=i64 (pos n s.F)→T.get 5=bo (hit n s.F)→AW Tryz.prog .ret (endA E0 Tryz.f62 fun r s'=>r= .tup [i64 (pos n s.F),bo (hit n s.F)]∧s'=s3) T s3:=fun {T} h4 h5=>
  .ret ⟨[T.get 4,T.get 5],rfl,by simp only [oneOrTup];rw [h4,h5],rfl⟩
 cases hf:s.F[pos n s.F]? with
 |none=>
  have hh:hit n s.F=false:=by unfold hit;rw [hf]
  have hl:s.F.length≤pos n s.F:=List.getElem?_eq_none_iff.1 hf
  have fin':∀{T:Tm},T.get 4=i64 (pos n s.F)→T.get 5=FF→AW Tryz.prog .ret (endA E0 Tryz.f62 fun r s'=>r= .tup [i64 (pos n s.F),bo (hit n s.F)]∧s'=s3) T s3:=fun h4 h5=>fin h4 (by rw [hh];exact h5)
  rcases hr.fv with ⟨h2,rfl⟩|⟨_,f,fl,rfl,h3⟩
  ·refine .seq ((any_run (G:=GA) (at_outN d (pos n s.F) n s3) (by simp only [Ob.ok_cons,Ob.ok_nil,and_true];exact ⟨by simpa using hd,⟨by simp,hr.load⟩,ltP_F (by omega)⟩) n3 hT).mono fun e T' st2 ⟨he,hn',hF,hst⟩=> ?_)
   subst he;subst hst
   simp only [GA,List.cons.injEq,and_true] at hF
   exact fin' hF.2.2.1 hF.2.2.2.1
  ·refine .seq ((any_run (G:=GA) (at_out d f s.F.length (pos n s.F) fl n s3) (by simp only [Ob.ok_cons,Ob.ok_nil,and_true];exact ⟨by simpa using hd,⟨by simp,hr.load⟩,ltP_F hl⟩) n3 hT).mono fun e T' st2 ⟨he,hn',hF,hst⟩=> ?_)
   subst he;subst hst
   simp only [GA,List.cons.injEq,and_true] at hF
   exact fin' hF.2.2.1 hF.2.2.2.1
 |some g=>
  have hh:hit n s.F=eqS g.name n:=by unfold hit;rw [hf]
  obtain ⟨f,fl,rfl,h3⟩:=hr.fv.of hf
  have hl:=(List.getElem?_eq_some_iff.1 hf).1
  have hfn:=hw _ _ h3
  refine .seq ((any_run (G:=GA) (at_in d f s.F.length (pos n s.F) (pos n s.F*3) fl (eqS g.name n) n g.name s3) (by
   simp only [Ob.ok_cons,Ob.ok_nil,and_true]
   exact ⟨by simp only [List.mem_cons,List.not_mem_nil,or_false];rintro k (rfl|rfl|rfl)<;>assumption,⟨by simp,hr.load⟩,ltP_T hl,⟨by simp,hr.load⟩,iA113 hl,⟨by simp,load_row h3 (p9 (cells_at _ _ _ hf).1)⟩,eqP_ok _ _⟩) n3 hT).mono fun e T' st2 ⟨he,hn',hF,hst⟩=> ?_)
  subst he;subst hst
  simp only [GA,List.cons.injEq,and_true] at hF
  exact fin hF.2.2.1 (by rw [hh];exact hF.2.2.2.1)
end
section
set_option maxRecDepth 100000
def sitesR:Nat→List Nat
 |48=> [5]
 |26=> [5000,9]
 |28=> [5000,9]
 |63=> [2006,7,2011,12,5000,2019,20,2026]
 |66=> [2011,6061,6062]
 |57=> [2006]
 |64=> [2003,2010,6062,2021,8000,2026,2028,2029,2031,2032,2033,2039,2041,2042,5000]
 |_=> []
noncomputable def rfEv(f:Nat)(args:List AV)(st:St)(o:List Or):=(evCallS Tryz.prog E0 noOv sitesR 100000 f args st o).map fun q=>(q.1,q.2.1,q.2.2.2)
section
variable (d f len i j p:Nat) (fl b:Bool) (n nm:ByteArray) (q fu fu2:Int) (F v w a c o1 o2 o3 c2 bs lv ov:AV) (st s1 s2 s3 s4 s5 s6:St)
theorem rnewBad:rfEv 48 [i64 q] st [TT]=some (.tup [.nilp,i64 1],st,[bo (ltN q 0)=TT]):=by kernel_rfl
theorem rnewOk:rfEv 48 [i64 q] st [FF]=some (.tup [.ptr st.next 0,i64 0],st.push (.row [.nils,i64 q,i64 0,FF] 98),[bo (ltN q 0)=FF]):=by kernel_rfl
theorem rquF:rfEv 26 [.ptr d 0,i64 q] st [.eff .undef (fun _=>s1),FF]=some (.tup [],s1,[storeA E0 st 3 (.ptr d 1) (i64 q)=some s1,bo (ltN q 0)=FF]):=by kernel_rfl
theorem rquT:rfEv 26 [.ptr d 0,i64 q] st [.eff .undef (fun _=>s1),TT,.eff .undef (fun _=>s2)]=some (.tup [],s2,[storeA E0 st 3 (.ptr d 1) (i64 q)=some s1,bo (ltN q 0)=TT,storeA E0 s1 3 (.ptr d 1) (i64 0)=some s2]):=by kernel_rfl
theorem rfuF:rfEv 28 [.ptr d 0,i64 q] st [.eff .undef (fun _=>s1),FF]=some (.tup [],s1,[storeA E0 st 3 (.ptr d 2) (i64 q)=some s1,bo (ltN q 0)=FF]):=by kernel_rfl
theorem rfuT:rfEv 28 [.ptr d 0,i64 q] st [.eff .undef (fun _=>s1),TT,.eff .undef (fun _=>s2)]=some (.tup [],s2,[storeA E0 st 3 (.ptr d 2) (i64 q)=some s1,bo (ltN q 0)=TT,storeA E0 s1 3 (.ptr d 2) (i64 0)=some s2]):=by kernel_rfl
theorem go0:rfEv 63 [.ptr d 0] st [.eff (i64 fu) id,TT]=some (FF,st,[obL st 3 (.ptr d 2) (i64 fu),bo (eqN fu 0)=TT]):=by kernel_rfl
theorem go1:rfEv 63 [.ptr d 0] st [.eff (i64 fu) id,FF,.eff (i64 fu) id,i64 fu2,.eff .undef (fun _=>s1),.eff (i64 fu2) id,bo b,.eff .undef (fun _=>s2),.eff (bo b) id]=some (bo b,s2,
 [obL st 3 (.ptr d 2) (i64 fu),bo (eqN fu 0)=FF,obL st 3 (.ptr d 2) (i64 fu),i64 (subN fu 1)=i64 fu2,storeA E0 st 3 (.ptr d 2) (i64 fu2)=some s1,obL s1 3 (.ptr d 2) (i64 fu2),bo (eqN fu2 0)=bo b,storeA E0 s1 4 (.ptr d 3) (bo b)=some s2,obL s2 4 (.ptr d 3) (bo b)]):=by kernel_rfl
theorem thOff:rfEv 66 [.ptr d 0,str n] st [.eff TT id]=some (.tup [i64 0,i64 8],st,[obL st 4 (.ptr d 3) TT]):=by kernel_rfl
theorem thBad:rfEv 66 [.ptr d 0,str n] st [.eff FF id,.eff FF id]=some (.tup [i64 0,i64 1],st,[obL st 4 (.ptr d 3) FF,obC 61 [str n] st FF st]):=by kernel_rfl
theorem thMiss:rfEv 66 [.ptr d 0,str n] st [.eff FF id,.eff TT id,.eff (.tup [i64 i,FF]) id]=some (.tup [i64 0,i64 6],st,[obL st 4 (.ptr d 3) FF,obC 61 [str n] st TT st,obC 62 [.ptr d 0,str n] st (.tup [i64 i,FF]) st]):=by kernel_rfl
theorem thHit:rfEv 66 [.ptr d 0,str n] st [.eff FF id,.eff TT id,.eff (.tup [i64 i,TT]) id]=some (.tup [i64 i,i64 0],st,[obL st 4 (.ptr d 3) FF,obC 61 [str n] st TT st,obC 62 [.ptr d 0,str n] st (.tup [i64 i,TT]) st]):=by kernel_rfl
theorem ownRun:rfEv 57 [v] st [.eff a (fun _=>s1)]=some (a,s1,[appendA E0 st 22 22 .nils v=some (a,s1)]):=by kernel_rfl
theorem putHit:rfEv 64 [.ptr d 0,v] st [.eff (.ptr p 0) (fun _=>s1),.eff (str n) id,.eff (.tup [i64 i,TT]) id,.eff (.sl f 3 0 len fl) id,.eff a id,.eff (.ptr f j) id,.eff .undef (fun _=>s2)]=some (.tup [],s2,
 [boxA st 110 v=some (.ptr p 0,s1),obL s1 9 (.ptr p 0) (str n),obC 62 [.ptr d 0,str n] s1 (.tup [i64 i,TT]) s1,∀k∈ [d,p],k<s1.next,[d,p].contains d=true∧loadA E0 s1 96 (.ptr d 0)=some (.sl f 3 0 len fl),[d,p].contains p=true∧loadA E0 s1 110 (.ptr p 0)=some a,indexAddrA E0 96 (.sl f 3 0 len fl) (i64 i)=some (.ptr f j),(false=true→ [d,p].all (fun k=>(s1.get k).isSome)=true),storeA E0 s1 110 (.ptr f j) a=some s2]):=by kernel_rfl
theorem putNew:rfEv 64 [.ptr d 0,v] st [.eff (.ptr p 0) (fun _=>s1),.eff (str n) id,.eff (.tup [i64 i,FF]) id,.eff F id,.eff c id,.eff o1 (fun _=>s2),.eff a id,.eff bs (fun _=>s3),.eff o2 (fun _=>s4),.eff F id,.eff c2 id,.eff o3 (fun _=>s5),.eff .undef (fun _=>s6)]=some (.tup [],s6,
  [boxA st 110 v=some (.ptr p 0,s1),obL s1 9 (.ptr p 0) (str n),obC 62 [.ptr d 0,str n] s1 (.tup [i64 i,FF]) s1,obL s1 96 (.ptr d 0) F,sliceA E0 s1 96 F none (some (i64 i)) none=some c∧s1=s1,appendA E0 s1 96 96 .nils c=some (o1,s2),obL s2 110 (.ptr p 0) a,buildSliceA E0 s2 96 1 [(0,a)]=some (bs,s3),appendA E0 s3 96 96 o1 bs=some (o2,s4),
   obL s4 96 (.ptr d 0) F,sliceA E0 s4 96 F (some (i64 i)) none none=some c2∧s4=s4,appendA E0 s4 96 96 o2 c2=some (o3,s5),storeA E0 s5 96 (.ptr d 0) o3=some s6]):=by kernel_rfl
noncomputable def usP(i:Nat):Code:=match Tryz.f67.body with
 |some (.seq r0 (.seq r1 (.seq (.seq r2 (.block 0 (.loop b))) (.seq r6 _))))=> [r0,r1,r2,b,r6].getD i .skip
 |_=> .skip
theorem body74:Tryz.f67.body=some (.seq (usP 0) (.seq (usP 1) (.seq (.seq (usP 2) (.block 0 (.loop (usP 3)))) (.seq (usP 4) .ret)))):=by kernel_rfl
noncomputable def usEv(i:Nat)(l:List (Nat×AV))(st:St)(x:List Or):=(evS Tryz.prog E0 noOv noS 100000 [2009,11,2020,2029,2033,2034,13,8000] (usP i) ⟨36,l,[]⟩ st x).map fun q=>(q.1,q.2.1.n,[q.2.1.get 0,q.2.1.get 2,q.2.1.get 3,q.2.1.get 4],q.2.2.1,q.2.2.2.2)
abbrev usT(d:Nat)(u:Int)(i:Nat):List (Nat×AV):= [(0,.ptr d 0),(3,i64 u),(4,i64 i)]
theorem us_0:usEv 0 [(0,.ptr d 0)] st []=some (.normal,36,[.ptr d 0,i64 0,.undef,.undef],st,[]):=by kernel_rfl
theorem us_1:usEv 1 [(0,.ptr d 0)] st []=some (.normal,36,[.ptr d 0,.undef,i64 0,.undef],st,[]):=by kernel_rfl
theorem us_2:usEv 2 [(0,.ptr d 0),(3,i64 q)] st []=some (.normal,36,[.ptr d 0,.undef,i64 q,i64 0],st,[]):=by kernel_rfl
theorem us_6:usEv 4 [(3,i64 q)] st []=some (.normal,36,[.undef,i64 q,i64 q,.undef],st,[]):=by kernel_rfl
theorem us_endN:usEv 3 (usT d q i) st [.eff .nils id,FF]=some (.exit 0,36,[.ptr d 0,.undef,i64 q,i64 i],st,[obL st 96 (.ptr d 0) .nils,bo (ltN i 0)=FF]):=by kernel_rfl
theorem us_end:usEv 3 (usT d q i) st [.eff (.sl f 3 0 len fl) id,FF]=some (.exit 0,36,[.ptr d 0,.undef,i64 q,i64 i],st,[obL st 96 (.ptr d 0) (.sl f 3 0 len fl),bo (ltN i len)=FF]):=by kernel_rfl
def addP(a b:Int)(v:AV):Prop:=binA E0 .add 3 (i64 a) (i64 b)=some v
def usO(d f len i j:Nat)(fl:Bool)(lv ov:AV)(x y:Int)(q z u:Int)(k:Nat)(st:St):Ob:=
 [obL st 96 (.ptr d 0) (.sl f 3 0 len fl),bo (ltN i len)=TT,∀k∈ [d,f,d,f],k<st.next,[d,f,d,f].contains d=true∧loadA E0 st 96 (.ptr d 0)=some (.sl f 3 0 len fl),indexAddrA E0 96 (.sl f 3 0 len fl) (i64 i)=some (.ptr f j),[d,f,d,f].contains f=true∧loadA E0 st 22 (.ptr f (j+1))=some lv,[d,f,d,f].contains d=true∧loadA E0 st 96 (.ptr d 0)=some (.sl f 3 0 len fl),indexAddrA E0 96 (.sl f 3 0 len fl) (i64 i)=some (.ptr f j),[d,f,d,f].contains f=true∧loadA E0 st 22 (.ptr f (j+2))=some ov,addP x y (i64 z),addP q z (i64 u),i64 (addN i 1)=i64 k]
section
variable (x y k:Nat) (g1 g2:Bool) (z u:Int) (c1 c2:List AV)
def usX(F lv ov pf:AV)(z u:Int)(k:Nat):List Or:= [.eff F id,TT,.eff F id,.eff pf id,.eff lv id,.eff F id,.eff pf id,.eff ov id,.eff (i64 z) id,.eff (i64 u) id,i64 k]
theorem us_II:usEv 3 (usT d q i) st (usX (.sl f 3 0 len fl) (.imm 1 x g1 c1) (.imm 1 y g2 c2) (.ptr f j) z u k)=some (.normal,36,[.ptr d 0,.undef,i64 u,i64 k],st,usO d f len i j fl (.imm 1 x g1 c1) (.imm 1 y g2 c2) x y q z u k st):=by kernel_rfl
theorem us_NI:usEv 3 (usT d q i) st (usX (.sl f 3 0 len fl) .nils (.imm 1 y g2 c2) (.ptr f j) z u k)=some (.normal,36,[.ptr d 0,.undef,i64 u,i64 k],st,usO d f len i j fl .nils (.imm 1 y g2 c2) 0 y q z u k st):=by kernel_rfl
theorem us_IN:usEv 3 (usT d q i) st (usX (.sl f 3 0 len fl) (.imm 1 x g1 c1) .nils (.ptr f j) z u k)=some (.normal,36,[.ptr d 0,.undef,i64 u,i64 k],st,usO d f len i j fl (.imm 1 x g1 c1) .nils x 0 q z u k st):=by kernel_rfl
theorem us_NN:usEv 3 (usT d q i) st (usX (.sl f 3 0 len fl) .nils .nils (.ptr f j) z u k)=some (.normal,36,[.ptr d 0,.undef,i64 u,i64 k],st,usO d f len i j fl .nils .nils 0 0 q z u k st):=by kernel_rfl
end
noncomputable def cuP(i:Nat):Code:=match Tryz.f87.body with
 |some (.seq r0 (.seq (.seq r1 (.block 0 (.loop b))) r6))=> [r0,r1,b,r6].getD i .skip
 |_=> .skip
theorem body76:Tryz.f87.body=some (.seq (cuP 0) (.seq (.seq (cuP 1) (.block 0 (.loop (cuP 2)))) (cuP 3))):=by kernel_rfl
noncomputable def cuEv(i:Nat)(l:List (Nat×AV))(st:St)(x:List Or):=(evS Tryz.prog E0 noOv noS 100000 [2010,12,17,2022,2024,2025,2026,2027,14,5000] (cuP i) ⟨32,l,[]⟩ st x).map fun q=>(q.1,q.2.1.n,[q.2.1.get 0,q.2.1.get 1,q.2.1.get 4,q.2.1.get 5],q.2.2.1,q.2.2.2.2)
abbrev cuT(d k:Nat)(o:AV)(i:Nat):List (Nat×AV):= [(0,.ptr d 0),(1,i64 k),(4,o),(5,i64 i)]
variable (k:Nat)
theorem cu_0:cuEv 0 [(0,.ptr d 0),(1,i64 k)] st []=some (.normal,32,[.ptr d 0,i64 k,.nils,.undef],st,[]):=by kernel_rfl
theorem cu_1:cuEv 1 [(0,.ptr d 0),(1,i64 k),(4,.nils)] st []=some (.normal,32,[.ptr d 0,i64 k,.nils,i64 0],st,[]):=by kernel_rfl
theorem cu_endN:cuEv 2 (cuT d k v i) st [.eff .nils id,FF]=some (.exit 0,32,[.ptr d 0,i64 k,v,i64 i],st,[obL st 96 (.ptr d 0) .nils,bo (ltN i 0)=FF]):=by kernel_rfl
theorem cu_end:cuEv 2 (cuT d k v i) st [.eff (.sl f 3 0 len fl) id,FF]=some (.exit 0,32,[.ptr d 0,i64 k,v,i64 i],st,[obL st 96 (.ptr d 0) (.sl f 3 0 len fl),bo (ltN i len)=FF]):=by kernel_rfl
theorem cu_skip:cuEv 2 (cuT d k v i) st [.eff (.sl f 3 0 len fl) id,TT,FF,i64 j]=some (.normal,32,[.ptr d 0,i64 k,v,i64 j],st,[obL st 96 (.ptr d 0) (.sl f 3 0 len fl),bo (ltN i len)=TT,bo (neN i k)=FF,i64 (addN i 1)=i64 j]):=by kernel_rfl
theorem cu_take:cuEv 2 (cuT d k v i) st [.eff (.sl f 3 0 len fl) id,TT,TT,.eff (.sl f 3 0 len fl) id,.eff a id,.eff bs (fun _=>s1),.eff w (fun _=>s2),i64 j]=some (.normal,32,[.ptr d 0,i64 k,w,i64 j],s2,[obL st 96 (.ptr d 0) (.sl f 3 0 len fl),bo (ltN i len)=TT,bo (neN i k)=TT,obL st 96 (.ptr d 0) (.sl f 3 0 len fl),0≤(i:Int)∧(i:Int)<len,obL st 110 (.ptr f (0+i*3)) a,buildSliceA E0 st 96 1 [(0,a)]=some (bs,s1),appendA E0 s1 96 96 v bs=some (w,s2),i64 (addN i 1)=i64 j]):=by kernel_rfl
theorem cu_3:cuEv 3 [(0,.ptr d 0),(4,v)] st [.eff .undef (fun _=>s1)]=some (.normal,32,[.ptr d 0,.undef,v,.undef],s1,[storeA E0 st 96 (.ptr d 0) v=some s1]):=by kernel_rfl
end
end
section
set_option maxRecDepth 4000
theorem rf_run{f:Nat}{args:List AV}{a:AV}{st st':St}{o:List Or}{ob:Ob}(h:rfEv f args st o=some (a,st',ob))(hob:ob.ok):obC f args st a st':=by
 obtain ⟨⟨a1,s1,x1,o1⟩,h1,h2⟩:=Option.map_eq_some_iff.1 h
 simp only [Prod.mk.injEq] at h2
 obtain ⟨rfl,rfl,rfl⟩:=h2
 exact ACalls.run hE (ov:=noOv) noOv_ok h1 hob
def fid:AV→List Nat
 | .sl f _ _ _ _=> [f]
 |_=> []
theorem FV.keep{st st':St}{fv:AV}{F:List RF}(h:FV st fv F)(hk:∀i∈fid fv,∀o,st.get i=some o→st'.get i=some o):FV st' fv F:=by
 rcases h with h|⟨h,f,fl,rfl,hg⟩
 ·exact .inl h
 ·exact .inr ⟨h,f,fl,rfl,hk f (by simp [fid]) _ hg⟩
theorem RD.rest{st st':St}{d:Nat}{fv:AV}{s:RS}(h:RD st d fv s){S:List Nat}(hr:Rest st st' S)(h1:d∉S)(h2:∀i∈fid fv,i∉S):RD st' d fv s:=
 ⟨hr.keep _ _ h1 h.row,h.fv.keep fun i hi _ ho=>hr.keep _ _ (h2 i hi) ho⟩
theorem row_ne{st:St}{a b:Nat}{v w:List AV}{t u:Nat}(h1:st.get a=some (.row v t))(h2:st.get b=some (.row w u))(h:t≠u):a≠b:=fun e=>by
 rw [e,h2] at h1
 simp only [Option.some.injEq,AObj.row.injEq] at h1
 exact h h1.2.symm
theorem RD.ne{st:St}{d:Nat}{fv:AV}{s:RS}(h:RD st d fv s):∀i∈fid fv,i≠d:=fun i hi=>by
 rcases h.fv with ⟨_,h⟩|⟨_,f,fl,e,hg⟩
 ·rw [h] at hi;cases hi
 ·rw [e] at hi
  obtain rfl:=List.mem_singleton.1 hi
  exact row_ne hg h.row (by decide)
theorem RD.set{st:St}{d:Nat}{fv:AV}{s s':RS}(h:RD st d fv s)(hF:s'.F=s.F):RD (st.set d (.row [fv,i64 s'.q,i64 s'.fu,bo s'.off] 98)) d fv s':=
 ⟨by rw [St.get_set,if_pos rfl],by rw [hF];exact h.fv.keep fun i hi o ho=>by rw [St.get_set,if_neg (h.ne i hi)];exact ho⟩
def rBurnt(s:RS):RS:={s with fu:=burnN s.fu,off:=burnB s.fu}
theorem goes_ok{st:St}{d:Nat}{fv:AV}{s:RS}(hp:RD st d fv s)(hw:st.wf)(hl:st.lock= [])(hoff:s.off=false)(hf:0≤s.fu∧s.fu≤9223372036854775807):
  ∃st',obC 63 [.ptr d 0] st (bo (burnB s.fu)) st'∧RD st' d fv (rBurnt s)∧Rest st st' [d]:=by
 have hd:=hw _ _ hp.row
 have o1:obL st 3 (.ptr d 2) (i64 s.fu):=⟨load_row hp.row (p3 rfl),rfl⟩
 obtain ⟨F,q,fu,off⟩:=s
 obtain rfl:off=false:=hoff
 by_cases h0:fu=0
 ·subst h0
  refine ⟨st,rf_run (go0 d 0 st) ?_,hp,.refl hw _⟩
  simp only [Ob.ok_cons,Ob.ok_nil,and_true]
  exact ⟨o1,ob_T rfl⟩
 ·have hs1:=storeN hp.row hl (fu- 1)
  have g1:(st.set d (.row [fv,i64 q,i64 (fu- 1),bo false] 98)).get d=some (.row [fv,i64 q,i64 (fu- 1),bo false] 98):=by rw [St.get_set,if_pos rfl]
  have hs2:=storeB g1 (by simpa using hl) (burnB fu)
  have h1:RD (st.set d (.row [fv,i64 q,i64 (fu- 1),bo false] 98)) d fv ⟨F,q,fu- 1,false⟩:=hp.set (s':=⟨F,q,fu- 1,false⟩) rfl
  have h2:=h1.set (s':=rBurnt ⟨F,q,fu,false⟩) rfl
  have e:burnN fu=fu- 1:=by rw [burnN,if_neg h0]
  refine ⟨_,rf_run (go1 d (burnB fu) fu (fu- 1) st (st.set d (.row [fv,i64 q,i64 (fu- 1),bo false] 98)) ((st.set d (.row [fv,i64 q,i64 (fu- 1),bo false] 98)).set d (.row [fv,i64 q,i64 (fu- 1),bo (burnB fu)] 98))) ?_,by simpa only [rBurnt,e] using h2,(Rest.set hw hd _ (by simp)).trans (Rest.set (set_wf hw hd _) hd _ (by simp))⟩
  simp only [Ob.ok_cons,Ob.ok_nil,and_true]
  simp only at hf
  refine ⟨o1,ob_F (by rw [eqN_eq,beq_eq_false_iff_ne];exact h0),o1,by rw [subN_eq _ _ (by omega)],hs1,⟨load_row g1 (p3 rfl),rfl⟩,?_,hs2,⟨load_row (by rw [St.get_set,if_pos rfl]) (p4 rfl),rfl⟩⟩
  rw [eqN_eq]
  refine congrArg bo ?_
  unfold burnB
  rw [Bool.eq_iff_iff,beq_iff_eq,beq_iff_eq]
  omega
def thE(s:RS)(n:ByteArray):Int:=if s.off=true then 8 else if¬mayS n then 1 else if hit n s.F=false then 6 else 0
theorem there_ok{st:St}{d:Nat}{fv:AV}{s:RS}(hp:RD st d fv s)(hw:st.wf)(hsz:s.F.length≤1000000){n:ByteArray}(hn:n.size≤1000000000000):
  obC 66 [.ptr d 0,str n] st (.tup [i64 (if thE s n=0 then pos n s.F else 0),i64 (thE s n)]) st:=by
 have o1:obL st 4 (.ptr d 3) (bo s.off):=⟨load_row hp.row (p4 rfl),rfl⟩
 have o2:=refMay_ok n hn st
 have o3:=at_ok hp hw hsz n
 cases hoff:s.off with
 |true=>
  have e:thE s n=8:=by unfold thE;rw [if_pos hoff]
  rw [e]
  exact rf_run (thOff d n st) (by simp only [Ob.ok_cons,Ob.ok_nil,and_true];rw [hoff] at o1;exact o1)
 |false=>
  rw [hoff] at o1
  by_cases hm:mayS n
  ·rw [decide_eq_true hm] at o2
   cases hh:hit n s.F with
   |false=>
    have e:thE s n=6:=by unfold thE;rw [if_neg (by rw [hoff];decide),if_neg (fun h=>h hm),if_pos hh]
    rw [e]
    rw [hh] at o3
    exact rf_run (thMiss d (pos n s.F) n st) (by simp only [Ob.ok_cons,Ob.ok_nil,and_true];exact ⟨o1,o2,o3⟩)
   |true=>
    have e:thE s n=0:=by unfold thE;rw [if_neg (by rw [hoff];decide),if_neg (fun h=>h hm),if_neg (by rw [hh];decide)]
    rw [e,if_pos rfl]
    rw [hh] at o3
    exact rf_run (thHit d (pos n s.F) n st) (by simp only [Ob.ok_cons,Ob.ok_nil,and_true];exact ⟨o1,o2,o3⟩)
  ·rw [decide_eq_false hm] at o2
   have e:thE s n=1:=by unfold thE;rw [if_neg (by rw [hoff];decide),if_pos hm]
   rw [e]
   exact rf_run (thBad d n st) (by simp only [Ob.ok_cons,Ob.ok_nil,and_true];exact ⟨o1,o2⟩)
theorem rnew_ok{st:St}(hw:st.wf)(q:Int):(q<0→obC 48 [i64 q] st (.tup [.nilp,i64 1]) st)∧(0≤q→∃st',obC 48 [i64 q] st (.tup [.ptr st.next 0,i64 0]) st'∧RD st' st.next .nils ⟨[],q,0,false⟩∧Rest st st' []):=
 ⟨fun h=>rf_run (rnewBad q st) (by simp only [Ob.ok_cons,Ob.ok_nil,and_true];exact lt_T h),fun h=>⟨_,rf_run (rnewOk q st) (by simp only [Ob.ok_cons,Ob.ok_nil,and_true];exact lt_F h),⟨by rw [St.get_push,if_pos rfl];rfl,.inl ⟨rfl,rfl⟩⟩,Rest.push hw _ _⟩⟩
theorem rquota_ok{st:St}{d:Nat}{fv:AV}{s:RS}(hp:RD st d fv s)(hw:st.wf)(hl:st.lock= [])(k:Int):∃st',obC 26 [.ptr d 0,i64 k] st (.tup []) st'∧RD st' d fv {s with q:=nn k}∧Rest st st' [d]:=by
 have hd:=hw _ _ hp.row
 have hs1:=storeQ hp.row hl k
 have h1:RD (st.set d (.row [fv,i64 k,i64 s.fu,bo s.off] 98)) d fv {s with q:=k}:=hp.set (s':={s with q:=k}) rfl
 have R1:=Rest.set hw hd (.row [fv,i64 k,i64 s.fu,bo s.off] 98) (S:= [d]) (by simp)
 by_cases h:k<0
 ·have hs2:=storeQ h1.row (by simpa using hl) 0
  have e:nn k=0:=by unfold nn;rw [if_pos h]
  rw [e]
  exact ⟨_,rf_run (rquT d k st _ _) (by simp only [Ob.ok_cons,Ob.ok_nil,and_true];exact ⟨hs1,lt_T h,hs2⟩),h1.set (s':={s with q:=0}) rfl,R1.trans (Rest.set R1.wf hd _ (by simp))⟩
 ·have e:nn k=k:=by unfold nn;rw [if_neg h]
  rw [e]
  exact ⟨_,rf_run (rquF d k st _) (by simp only [Ob.ok_cons,Ob.ok_nil,and_true];exact ⟨hs1,lt_F (by omega)⟩),h1,R1⟩
theorem rfuse_ok{st:St}{d:Nat}{fv:AV}{s:RS}(hp:RD st d fv s)(hw:st.wf)(hl:st.lock= [])(k:Int):∃st',obC 28 [.ptr d 0,i64 k] st (.tup []) st'∧RD st' d fv {s with fu:=nn k}∧Rest st st' [d]:=by
 have hd:=hw _ _ hp.row
 have hs1:=storeN hp.row hl k
 have h1:RD (st.set d (.row [fv,i64 s.q,i64 k,bo s.off] 98)) d fv {s with fu:=k}:=hp.set (s':={s with fu:=k}) rfl
 have R1:=Rest.set hw hd (.row [fv,i64 s.q,i64 k,bo s.off] 98) (S:= [d]) (by simp)
 by_cases h:k<0
 ·have hs2:=storeN h1.row (by simpa using hl) 0
  have e:nn k=0:=by unfold nn;rw [if_pos h]
  rw [e]
  exact ⟨_,rf_run (rfuT d k st _ _) (by simp only [Ob.ok_cons,Ob.ok_nil,and_true];exact ⟨hs1,lt_T h,hs2⟩),h1.set (s':={s with fu:=0}) rfl,R1.trans (Rest.set R1.wf hd _ (by simp))⟩
 ·have e:nn k=k:=by unfold nn;rw [if_neg h]
  rw [e]
  exact ⟨_,rf_run (rfuF d k st _) (by simp only [Ob.ok_cons,Ob.ok_nil,and_true];exact ⟨hs1,lt_F (by omega)⟩),h1,R1⟩
end
section
set_option maxRecDepth 4000
def BV(v:AV)(bs:List Int):Prop:=(bs= []∧v= .nils)∨∃fl,v= .imm 1 bs.length fl (bs.map u8)
theorem BV.cells{v:AV}{bs:List Int}(h:BV v bs)(st:St):sliceCells st v=some (bs.length,bs.map u8):=by
 rcases h with ⟨h1,h2⟩|⟨fl,h2⟩
 ·rw [h2,h1];rfl
 ·rw [h2];rfl
def RGood(F:List RF):Prop:=∀f∈F,BV f.lv f.lb∧BV f.ov f.ob
def usedR(F:List RF):Nat:=(F.map fun f=>f.lb.length+f.ob.length).sum
theorem addP_ok{a b:Int}(h:0≤a+b∧a+b≤9223372036854775807):addP a b (i64 (a+b)):=by
 have:addP a b (i64 (a+b))=(some (i64 (addN a b))=some (i64 (a+b))):=rfl
 rw [this,addN_eq _ _ h]
theorem usedR_take{F:List RF}{i:Nat}{f:RF}(h:F[i]? =some f):usedR (F.take (i+1))=usedR (F.take i)+(f.lb.length+f.ob.length):=by
 obtain ⟨h1,h2⟩:=List.getElem?_eq_some_iff.1 h
 unfold usedR
 rw [List.take_add_one,h]
 simp
theorem usedR_le{F:List RF}(i:Nat):usedR (F.take i)≤usedR F:=by
 have:usedR F=usedR (F.take i)+usedR (F.drop i):=by
  unfold usedR
  conv=>lhs;rw [←List.take_append_drop i F]
  rw [List.map_append,List.sum_append]
 omega
theorem us_turn{d f len i:Nat}{fl:Bool}{q:Int}{lv ov:AV}{x y:List Int}(hx:BV lv x)(hy:BV ov y){z u:Int}{k:Nat}{st:St}(hob:(usO d f len i (i*3) fl lv ov x.length y.length q z u k st).ok):
  usEv 3 (usT d q i) st (usX (.sl f 3 0 len fl) lv ov (.ptr f (i*3)) z u k)=some (.normal,36,[.ptr d 0,.undef,i64 u,i64 k],st,usO d f len i (i*3) fl lv ov x.length y.length q z u k st):=by
 rcases hx with ⟨rfl,rfl⟩|⟨g1,rfl⟩<;>rcases hy with ⟨rfl,rfl⟩|⟨g2,rfl⟩
 ·exact us_NN d f len i (i*3) fl q st k z u
 ·exact us_NI d f len i (i*3) fl q st _ k g2 z u _
 ·exact us_IN d f len i (i*3) fl q st _ k g1 z u _
 ·exact us_II d f len i (i*3) fl q st _ _ k g1 g2 z u _ _
def GU(T:Tm):List AV:= [T.get 0,T.get 2,T.get 3,T.get 4]
theorem p28'{vs:List AV}{off:Nat}{a:AV}(h:vs[off]? =some a):partA E0 22 vs off=some a:=plainT ty28 rfl h
theorem us_loop{d:Nat}{fv:AV}{s:RS}{T:Tm}{st:St}(hr:RD st d fv s)(hw:st.wf)(hg:RGood s.F)(hsz:s.F.length≤1000000)(hu:usedR s.F<1000000000)(hn:T.n=36)(h0:T.get 0= .ptr d 0)(h3:T.get 3=i64 0)(h4:T.get 4=i64 0):
  AW Tryz.prog (.loop (usP 3)) (fun e T' st'=>e= .exit 0∧T'.n=36∧st'=st∧T'.get 3=i64 (usedR s.F)) T st:=by
 refine .loop (fun k T st'=>∃i:Nat,i≤s.F.length∧k=s.F.length- i∧st'=st∧T.n=36∧T.get 0= .ptr d 0∧T.get 3=i64 (usedR (s.F.take i))∧T.get 4=i64 i) s.F.length ⟨0,by omega,rfl,rfl,hn,h0,h3,h4⟩ fun k T st' hI=> ?_
 obtain ⟨i,hi,rfl,rfl,hn,h0,h3,h4⟩:=hI
 have hT:=conz (P:=fun p=>T.get p.1=p.2) (p:=(0,.ptr d 0)) h0 (conz (p:=(3,i64 (usedR (s.F.take i)))) h3 (one (p:=(4,i64 i)) h4))
 have o1:obL st' 96 (.ptr d 0) fv:=⟨hr.load,rfl⟩
 have hd:=hw _ _ hr.row
 cases hf:s.F[i]? with
 |none=>
  have hl:s.F.length≤i:=List.getElem?_eq_none_iff.1 hf
  have ht:s.F.take i=s.F:=List.take_of_length_le hl
  rcases hr.fv with ⟨h2,rfl⟩|⟨_,f,fl,rfl,h3⟩
  ·refine (any_run (G:=GU) (us_endN d i _ st') (by simp only [Ob.ok_cons,Ob.ok_nil,and_true];exact ⟨o1,lt_F (by omega)⟩) hn hT).mono fun e T' st2 ⟨he,hn',hF,hst⟩=> ?_
   subst he;subst hst
   simp only [GU,List.cons.injEq,and_true] at hF
   exact ⟨rfl,hn',rfl,by rw [hF.2.2.1,ht]⟩
  ·refine (any_run (G:=GU) (us_end d f s.F.length i fl _ st') (by simp only [Ob.ok_cons,Ob.ok_nil,and_true];exact ⟨o1,lt_F (by omega)⟩) hn hT).mono fun e T' st2 ⟨he,hn',hF,hst⟩=> ?_
   subst he;subst hst
   simp only [GU,List.cons.injEq,and_true] at hF
   exact ⟨rfl,hn',rfl,by rw [hF.2.2.1,ht]⟩
 |some g=>
  obtain ⟨f,fl,rfl,hgf⟩:=hr.fv.of hf
  have hl:i<s.F.length:=(List.getElem?_eq_some_iff.1 hf).1
  obtain ⟨hx,hy⟩:=hg g (List.mem_of_getElem? hf)
  have hfn:=hw _ _ hgf
  have hc:=cells_at _ _ _ hf
  have ht:=usedR_take hf
  have hle:=usedR_le (F:=s.F) (i+1)
  have hob:(usO d f s.F.length i (i*3) fl g.lv g.ov g.lb.length g.ob.length (usedR (s.F.take i)) ((g.lb.length:Int)+g.ob.length) ((usedR (s.F.take i):Int)+((g.lb.length:Int)+g.ob.length)) (i+1) st').ok:=by
   unfold usO
   simp only [Ob.ok_cons,Ob.ok_nil,and_true]
   refine ⟨o1,lt_T (by omega),?_,⟨by simp,hr.load⟩,iA113 hl,⟨by simp,load_row hgf (p28' hc.2.1)⟩,⟨by simp,hr.load⟩,iA113 hl,⟨by simp,load_row hgf (p28' hc.2.2)⟩,addP_ok (by omega),addP_ok (by omega),by rw [addN_eq _ _ (by omega)];rfl⟩
   simp only [List.mem_cons,List.not_mem_nil,or_false]
   rintro k (rfl|rfl|rfl|rfl)<;>assumption
  refine (any_run (G:=GU) (us_turn hx hy hob) hob hn hT).mono fun e T' st2 ⟨he,hn',hF,hst⟩=> ?_
  subst he;subst hst
  simp only [GU,List.cons.injEq,and_true] at hF
  exact ⟨s.F.length- (i+1),by omega,i+1,by omega,rfl,rfl,hn',hF.1,by rw [hF.2.2.1,ht];norm_cast,hF.2.2.2⟩
theorem rused_ok{d:Nat}{fv:AV}{s:RS}{st:St}(hr:RD st d fv s)(hw:st.wf)(hg:RGood s.F)(hsz:s.F.length≤1000000)(hu:usedR s.F<1000000000):obC 67 [.ptr d 0] st (i64 (usedR s.F)) st:=by
 refine ACalls.body (E:=E0) hE Tryz.func67 body74 ?_
 refine .seq ((any_run (G:=GU) (us_0 d st) Ob.ok_nil rfl (one rfl)).mono fun e T1 s1 ⟨he,n1,F1,hst⟩=> ?_)
 subst he;subst hst
 simp only [GU,List.cons.injEq] at F1
 simp only [thenA]
 refine .seq ((any_run (G:=GU) (us_1 d s1) Ob.ok_nil n1 (one F1.1)).mono fun e T2 s2 ⟨he,n2,F2,hst⟩=> ?_)
 subst he;subst hst
 simp only [GU,List.cons.injEq] at F2
 simp only [thenA]
 refine .seq (.seq ((any_run (G:=GU) (us_2 d 0 s2) Ob.ok_nil n2 (conz F2.1 (one F2.2.2.1))).mono fun e T3 s3 ⟨he,n3,F3,hst⟩=> ?_))
 subst he;subst hst
 simp only [GU,List.cons.injEq,and_true] at F3
 simp only [thenA]
 refine .block ((us_loop hr hw hg hsz hu n3 F3.1 F3.2.2.1 F3.2.2.2).mono fun e T4 s4 ⟨he,n4,hst,h3⟩=> ?_)
 subst he;subst hst
 simp only [blockA,if_true,thenA]
 refine .seq ((any_run (G:=GU) (us_6 (usedR s.F) s4) Ob.ok_nil n4 (one h3)).mono fun e T5 s5 ⟨he,n5,F5,hst⟩=> ?_)
 subst he;subst hst
 simp only [GU,List.cons.injEq] at F5
 simp only [thenA]
 exact .ret ⟨[T5.get 2],rfl,by simp only [oneOrTup];rw [F5.2.1],rfl⟩
end
section
set_option maxRecDepth 4000
theorem cells_append:∀(F G:List RF),cells (F++G)=cells F++cells G
 | [],G=>rfl
 |f::r,G=>by simp only [List.cons_append,cells,cells_append r G]
theorem cells_take:∀(F:List RF) (i:Nat),(cells F).take (i*3)=cells (F.take i)
 | [],i=>by simp [cells]
 |f::r,0=>rfl
 |f::r,i+1=>by
  have e:(i+1)*3=i*3+1+1+1:=by omega
  rw [e]
  simp only [cells,List.take_succ_cons,cells_take r i]
theorem cells_drop:∀(F:List RF) (i:Nat),(cells F).drop (i*3)=cells (F.drop i)
 | [],i=>by simp [cells]
 |f::r,0=>rfl
 |f::r,i+1=>by
  have e:(i+1)*3=i*3+1+1+1:=by omega
  rw [e]
  simp only [cells,List.drop_succ_cons,cells_drop r i]
theorem el113:∃ti z,elemA E0 96=some (110,ti,z)∧ti.size=3∧ti.bytes=64:=by
 have h:(elemA E0 96).map (fun q=>(q.1,q.2.1.size,q.2.1.bytes))=some (110,3,64):=by kernel_rfl
 obtain ⟨⟨a,ti,z⟩,h1,h2⟩:=Option.map_eq_some_iff.1 h
 simp only [Prod.mk.injEq] at h2
 obtain ⟨rfl,h3,h4⟩:=h2
 exact ⟨ti,z,h1,h3,h4⟩
theorem str113:isStrTy E0 96=false:=by kernel_rfl
theorem src113{st:St}{x:AV}:srcA E0 st 96 x=sliceCells st x:=by simp only [srcA,ty113]
def OwnF(st:St)(v:AV)(F:List RF):Prop:=(F= []∧v= .nils)∨(F≠ []∧∃i,v= .sl i 3 0 F.length false∧st.get i=some (.row (cells F) 110))
theorem OwnF.fv{st:St}{v:AV}{F:List RF}(h:OwnF st v F):FV st v F:=by
 rcases h with h|⟨h,i,h2⟩
 ·exact .inl h
 ·exact .inr ⟨h,i,false,h2⟩
theorem OwnF.cell{st:St}{v:AV}{F:List RF}(h:OwnF st v F):avCells v=some [v]:=by
 rcases h with ⟨_,rfl⟩|⟨_,i,rfl,_⟩<;>rfl
theorem appF{st:St}{v x:AV}{F G:List RF}(hv:OwnF st v F)(hw:st.wf)(hl:st.lock= [])(hx:sliceCells st x=some (G.length,cells G))(hb:F.length+G.length≤1000000):
  ∃v' st',appendA E0 st 96 96 v x=some (v',st')∧OwnF st' v' (F++G)∧Rest st st' (fid v)∧(v'=v∧st'=st∨∃l f,v'= .sl st.next 3 0 l f):=by
 obtain ⟨ti,z,he,h3,h64⟩:=el113
 by_cases h0:G.length=0
 ·have hG:G= []:=List.eq_nil_of_length_eq_zero h0
  subst hG
  refine ⟨v,st,?_,by simpa using hv,Rest.refl hw _,.inl ⟨rfl,rfl⟩⟩
  rcases hv with ⟨_,rfl⟩|⟨_,i,rfl,_⟩<;>simp only [appendA,he,src113,hx,str113,h3]
  ·rw [if_pos ⟨rfl,fun h=>by cases h⟩,if_pos h0]
  ·rw [if_pos ⟨rfl,fun h=>by cases h⟩,if_neg (fun h=>h rfl),if_pos h0]
 have hne:F++G≠ []:=fun e=>h0 (by rw [(List.append_eq_nil_iff.1 e).2];rfl)
 rcases hv with ⟨rfl,rfl⟩|⟨hF,i,rfl,hg⟩
 ·refine ⟨.sl st.next 3 0 G.length false,st.push (.row (cells G) 110),?_,.inr ⟨hne,st.next,by simp,by rw [St.get_push,if_pos rfl];rfl⟩,Rest.push hw _ _,.inr ⟨_,_,rfl⟩⟩
  simp only [appendA,he,src113,hx,str113,h3,h64]
  rw [if_pos ⟨by rw [cells_length],fun h=>by cases h⟩,if_neg h0,if_pos (by simp only [List.length_nil] at hb;omega)]
 ·have hdw:(st.del i).wf:=fun j p h=>by
   rw [St.get_del] at h
   split at h
   ·cases h
   ·exact hw _ _ h
  refine ⟨.sl st.next 3 0 (F.length+G.length) false,(st.del i).push (.row (cells F++cells G) 110),?_,.inr ⟨hne,st.next,by simp,by rw [St.get_push,if_pos (by simp),cells_append]⟩,⟨fun j o hj ho=> ?_,by simp,rfl,rfl,push_wf hdw _⟩,.inr ⟨_,_,rfl⟩⟩
  ·simp only [appendA,he,src113,hx,str113,h3,h64,hg,hl]
   rw [if_pos ⟨by rw [cells_length],fun h=>by cases h⟩,if_neg (fun h=>h rfl),if_neg h0,if_pos (by omega),if_pos ⟨trivial,by rw [cells_length];omega⟩,if_neg (by simp),if_pos ⟨by rw [cells_length];omega,by simp⟩]
   rfl
  ·have:=hw _ _ ho
   rw [St.get_push,if_neg (by simp;omega),St.get_del,if_neg (fun e=>hj (by simp [fid,e]))];exact ho
theorem Rest.old{a b c:St}{S:List Nat}(h:Rest a b [])(k:Rest b c S)(hS:∀i∈S,a.next≤i)(hw:a.wf):Rest a c []:=
 ⟨fun i o _ ho=>k.keep i o (fun hi=>by have:=hS i hi;have:=hw _ _ ho;omega) (h.keep i o (by simp) ho),Nat.le_trans h.next k.next,k.lock.trans h.lock,k.gl.trans h.gl,k.wf⟩
theorem natLe_ok{i len:Nat}(h:i≤len):natLe (i64 i) len=some i:=by
 show (if 0≤(i:Int)∧(i:Int)≤len then some (i:Int).toNat else none)=some i
 rw [if_pos ⟨by omega,by omega⟩];rfl
theorem boundsA_hi(len i:Nat)(h:i≤len):boundsA len len none (some (i64 i)) none=some (0,i,len):=by
 delta boundsA
 simp only [natLe_ok h]
theorem boundsA_lo(len i:Nat)(h:i≤len):boundsA len len (some (i64 i)) none none=some (i,len,len):=by
 delta boundsA
 simp only [natLe_ok h]
theorem sl_hi{st:St}{fv:AV}{F:List RF}(h:FV st fv F){i:Nat}(hi:i≤F.length):∃c,sliceA E0 st 96 fv none (some (i64 i)) none=some c∧sliceCells st c=some ((F.take i).length,cells (F.take i)):=by
 rcases h with ⟨rfl,rfl⟩|⟨hF,f,fl,rfl,hg⟩
 ·have:i=0:=by simpa using hi
  subst this
  exact ⟨.nils,by kernel_rfl,rfl⟩
 ·simp only [sliceA,ty113,size121,if_true,boundsA_hi _ _ hi]
  by_cases h0:i=0
  ·subst h0
   exact ⟨.imm 3 0 false [],rfl,rfl⟩
  ·rw [if_neg h0]
   refine ⟨_,rfl,?_⟩
   simp only [sliceCells,hg]
   rw [if_pos (by rw [cells_length];omega)]
   simp only [Nat.zero_mul,Nat.add_zero,Nat.sub_zero,List.drop_zero,cells_take,List.length_take]
   rw [Nat.min_eq_left hi]
theorem sl_lo{st:St}{fv:AV}{F:List RF}(h:FV st fv F){i:Nat}(hi:i≤F.length):∃c,sliceA E0 st 96 fv (some (i64 i)) none none=some c∧sliceCells st c=some ((F.drop i).length,cells (F.drop i)):=by
 rcases h with ⟨rfl,rfl⟩|⟨hF,f,fl,rfl,hg⟩
 ·have:i=0:=by simpa using hi
  subst this
  exact ⟨.nils,by kernel_rfl,rfl⟩
 ·simp only [sliceA,ty113,size121,if_true,boundsA_lo _ _ hi]
  by_cases h0:F.length=i
  ·subst h0
   rw [if_pos rfl]
   exact ⟨.imm 3 0 false [],rfl,by simp [sliceCells,cells]⟩
  ·rw [if_neg h0]
   refine ⟨_,rfl,?_⟩
   simp only [sliceCells,hg]
   rw [if_pos (by rw [cells_length];omega)]
   simp only [Nat.zero_add,cells_drop,List.length_drop]
   rw [List.take_of_length_le (by rw [cells_length,List.length_drop];omega)]
theorem bs113(st:St)(x y z:AV):buildSliceA E0 st 96 1 [(0,.agg [x,y,z])]=some (.sl st.next 3 0 1 true,st.push (.row [x,y,z] 110)):=by kernel_rfl
theorem p121{x y z:AV}:partA E0 110 [x,y,z] 0=some (.agg [x,y,z]):=by
 have h:(E0.ty 110).map (fun i=>(isAggD i.desc,i.size))=some (true,3):=by kernel_rfl
 obtain ⟨i,h1,h2⟩:=Option.map_eq_some_iff.1 h
 simp only [Prod.mk.injEq] at h2
 simp only [partA,h1,h2.1,h2.2]
 rfl
theorem cells_set{F:List RF}{i:Nat}{f:RF}(hi:i<F.length):(cells F).take (i*3)++ [str f.name,f.lv,f.ov]++(cells F).drop (i*3+3)=cells (F.set i f):=by
 have e:i*3+3=(i+1)*3:=by omega
 rw [e,cells_take,cells_drop,List.set_eq_take_append_cons_drop,if_pos hi,cells_append]
 simp [cells]
theorem store121{st:St}{r i:Nat}{F:List RF}(hg:st.get r=some (.row (cells F) 110))(hl:st.lock= [])(hi:i<F.length)(f:RF):storeA E0 st 110 (.ptr r (i*3)) (.agg [str f.name,f.lv,f.ov])=some (st.set r (.row (cells (F.set i f)) 110)):=by
 have hwg:=St.wget_of hg (show r∉st.lock by rw [hl];simp)
 simp only [storeA,avCells,hwg,size121,List.length_cons,List.length_nil]
 rw [if_pos ⟨trivial,by rw [cells_length];omega⟩,←cells_set hi]
theorem size113:tySize E0 96=some 1:=by kernel_rfl
theorem store113{st:St}{d:Nat}{a b c e v:AV}{ty:Nat}(hg:st.get d=some (.row [a,b,c,e] ty))(hl:st.lock= [])(hv:avCells v=some [v]):storeA E0 st 96 (.ptr d 0) v=some (st.set d (.row [v,b,c,e] ty)):=by
 have hwg:=St.wget_of hg (show d∉st.lock by rw [hl];simp)
 simp [storeA,hv,size113,hwg]
end
section
set_option maxRecDepth 4000
theorem d121:∃i,E0.ty 110=some i∧isAggD i.desc=true∧i.size=3:=by
 have h:(E0.ty 110).map (fun i=>(isAggD i.desc,i.size))=some (true,3):=by kernel_rfl
 obtain ⟨i,h1,h2⟩:=Option.map_eq_some_iff.1 h
 simp only [Prod.mk.injEq] at h2
 exact ⟨i,h1,h2.1,h2.2⟩
def agg(f:RF):AV:= .agg [str f.name,f.lv,f.ov]
theorem p121'{F:List RF}{i:Nat}{f:RF}(hf:F[i]? =some f):partA E0 110 (cells F) (i*3)=some (agg f):=by
 obtain ⟨t,h1,h2,h3⟩:=d121
 have hi:=(List.getElem?_eq_some_iff.1 hf).1
 simp only [partA,h1,h2,h3,if_true]
 rw [if_pos (by rw [cells_length];omega),cells_drop,drop_at hf]
 rfl
def putF(F:List RF)(f:RF):List RF:=if hit f.name F=true then F.set (pos f.name F) f else F.take (pos f.name F)++f::F.drop (pos f.name F)
theorem hit_lt{n:ByteArray}{F:List RF}(h:hit n F=true):pos n F<F.length:=by
 unfold hit at h
 split at h
 ·rename_i f hf;exact (List.getElem?_eq_some_iff.1 hf).1
 ·cases h
theorem one_cells(st:St)(f:RF):sliceCells (st.push (.row [str f.name,f.lv,f.ov] 110)) (.sl st.next 3 0 1 true)=some ([f].length,cells [f]):=by
 simp only [sliceCells,St.get_push,if_true]
 rfl
theorem put_ok'{st:St}{d:Nat}{fv:AV}{s:RS}(hp:RD st d fv s)(hw:st.wf)(hl:st.lock= [])(hsz:s.F.length+1≤1000000)(f:RF):
  ∃st' fv',obC 64 [.ptr d 0,agg f] st (.tup []) st'∧RD st' d fv' {s with F:=putF s.F f}∧Rest st st' (d::fid fv):=by
 have hd:=hw _ _ hp.row
 have R1:Rest st (st.push (.row [str f.name,f.lv,f.ov] 110)) []:=Rest.push hw _ _
 have hp1:=hp.rest R1 (by simp) (by simp)
 have l1:(st.push (.row [str f.name,f.lv,f.ov] 110)).lock= []:=by simpa using hl
 have gp:(st.push (.row [str f.name,f.lv,f.ov] 110)).get st.next=some (.row [str f.name,f.lv,f.ov] 110):=by rw [St.get_push,if_pos rfl]
 have n1:(st.push (.row [str f.name,f.lv,f.ov] 110)).next=st.next+1:=rfl
 have hbox:boxA st 110 (agg f)=some (.ptr st.next 0,st.push (.row [str f.name,f.lv,f.ov] 110)):=rfl
 have hat:=at_ok hp1 R1.wf (by omega) f.name
 have onm:obL (st.push (.row [str f.name,f.lv,f.ov] 110)) 9 (.ptr st.next 0) (str f.name):=⟨load_row gp (p9 rfl),rfl⟩
 have oag:loadA E0 (st.push (.row [str f.name,f.lv,f.ov] 110)) 110 (.ptr st.next 0)=some (agg f):=load_row gp p121
 generalize st.push (.row [str f.name,f.lv,f.ov] 110)=s1 at*
 unfold putF
 cases hh:hit f.name s.F with
 |true=>
  rw [if_pos rfl]
  rw [hh] at hat
  have hlt:=hit_lt hh
  obtain ⟨r,fl,rfl,hg⟩:=hp1.fv.of (List.getElem?_eq_getElem hlt)
  have hst:=store121 hg l1 hlt f
  have hr:=R1.wf _ _ hg
  have hrd:r≠d:=hp1.ne r (by simp [fid])
  refine ⟨s1.set r (.row (cells (s.F.set (pos f.name s.F) f)) 110),.sl r 3 0 s.F.length fl,rf_run (putHit d r s.F.length (pos f.name s.F) (pos f.name s.F*3) st.next fl f.name (agg f) (agg f) st s1 _) ?_,⟨?_,.inr ⟨?_,r,fl,by simp,by rw [St.get_set,if_pos rfl]⟩⟩,(R1.weak (by simp)).trans (Rest.set R1.wf hr _ (by simp [fid]))⟩
  ·simp only [Ob.ok_cons,Ob.ok_nil,and_true]
   refine ⟨hbox,onm,hat,?_,⟨by simp,hp1.load⟩,⟨by simp,oag⟩,iA113 hlt,(fun h=>(by cases h)),hst⟩
   simp only [List.mem_cons,List.not_mem_nil,or_false]
   rintro k (rfl|rfl)<;>omega
  ·rw [St.get_set,if_neg hrd.symm];exact hp1.row
  ·intro e
   have:(s.F.set (pos f.name s.F) f).length=0:=by rw [show s.F.set (pos f.name s.F) f= [] from e];rfl
   rw [List.length_set] at this;omega
 |false=>
  rw [if_neg (by decide)]
  rw [hh] at hat
  have hle:=pos_le f.name s.F
  generalize pos f.name s.F=i at*
  obtain ⟨c,c1,c2⟩:=sl_hi hp1.fv hle
  obtain ⟨o1,s2,a1,a2,a3,a4⟩:=appF (v:= .nils) (F:= []) (.inl ⟨rfl,rfl⟩) R1.wf l1 c2 (by simp;omega)
  have f1:∀j∈fid o1,st.next≤j:=by
   rcases a4 with ⟨rfl,_⟩|⟨_,_,rfl⟩
   ·intro j hj;cases hj
   ·intro j hj;simp only [fid,List.mem_singleton] at hj;omega
  have R2:Rest st s2 []:=R1.trans a3
  have R3:Rest s2 (s2.push (.row [str f.name,f.lv,f.ov] 110)) []:=Rest.push a3.wf _ _
  have hown:OwnF (s2.push (.row [str f.name,f.lv,f.ov] 110)) o1 ([]++s.F.take i):=by
   rcases a2 with h|⟨h,j,rfl,hg⟩
   ·exact .inl h
   ·exact .inr ⟨h,j,rfl,R3.keep _ _ (by simp) hg⟩
  have l2:s2.lock= []:=a3.lock.trans l1
  have l3:(s2.push (.row [str f.name,f.lv,f.ov] 110)).lock= []:=by simpa using l2
  obtain ⟨o2,s4,b1,b2,b3,b4⟩:=appF hown R3.wf l3 (one_cells s2 f) (by simp;omega)
  have R4:Rest st s4 []:=(R2.trans R3).old b3 f1 hw
  have f2:∀j∈fid o2,st.next≤j:=by
   rcases b4 with ⟨rfl,_⟩|⟨_,_,rfl⟩
   ·exact f1
   ·intro j hj
    simp only [fid,List.mem_singleton] at hj
    have:=(R2.trans R3).next
    omega
  have hp4:=hp.rest R4 (by simp) (by simp)
  obtain ⟨c',c3,c4⟩:=sl_lo hp4.fv hle
  have l4:s4.lock= []:=b3.lock.trans l3
  obtain ⟨o3,s5,e1,e2,e3,e4⟩:=appF b2 R4.wf l4 c4 (by simp;omega)
  have R5:Rest st s5 []:=R4.old e3 f2 hw
  have hp5:=hp.rest R5 (by simp) (by simp)
  have hst:=store113 hp5.row (R5.lock.trans hl) e2.cell
  have hd5:=R5.wf _ _ hp5.row
  have hp2:=hp.rest R2 (by simp) (by simp)
  have oag2:obL s2 110 (.ptr st.next 0) (agg f):=by
   refine ⟨?_,rfl⟩
   have:s2.get st.next=s1.get st.next:=by
    rw [gp];exact a3.keep _ _ (by simp [fid]) gp
   simp only [loadA,this]
   simpa only [loadA] using oag
  refine ⟨s5.set d (.row [o3,i64 s.q,i64 s.fu,bo s.off] 98),o3,rf_run (putNew d i st.next f.name fv (agg f) (agg f) c o1 o2 o3 c' (.sl s2.next 3 0 1 true) st s1 s2 (s2.push (.row [str f.name,f.lv,f.ov] 110)) s4 s5 _) ?_,⟨by rw [St.get_set,if_pos rfl],?_⟩,(R5.weak (by simp)).trans (Rest.set R5.wf hd5 _ (by simp))⟩
  ·simp only [Ob.ok_cons,Ob.ok_nil,and_true]
   exact ⟨hbox,onm,hat,⟨hp1.load,rfl⟩,c1,a1,oag2,bs113 _ _ _ _,b1,⟨hp4.load,rfl⟩,c3,e1,hst⟩
  ·have hx:OwnF s5 o3 (s.F.take i++f::s.F.drop i):=by simpa using e2
   refine hx.fv.keep fun j hj o ho=> ?_
   rw [St.get_set,if_neg fun e=> ?_]
   ·exact ho
   ·rcases hx with ⟨_,rfl⟩|⟨_,r,rfl,hg⟩
    ·cases hj
    ·simp only [fid,List.mem_singleton] at hj
     exact row_ne hg hp5.row (by decide) (hj.symm.trans e)
end
end Go.Proofs.YtalchcdenhfmiaaGreatDoor.E

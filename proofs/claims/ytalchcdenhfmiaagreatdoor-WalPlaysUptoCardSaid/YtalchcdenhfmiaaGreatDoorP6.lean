/- Part 6 of the proof, over the abstract machine: contracts of the functions that the statement reaches, joined out of several texts. Condition: none beyond those that the lemmas name. -/
import Derived.Test.YtalchcdenhfmiaaGreatDoorP5
namespace Go.Proofs.YtalchcdenhfmiaaGreatDoor.E
open Go Go.Proofs
section
set_option maxRecDepth 8000
structure RA (st:St) (v e:Nat) (fv:AV) (r:RS) (nx op ct:Nat):Prop where
 disk:RD st e fv r
 row:st.get v=some (.row [.ptr e 0,i64 nx,i64 op,i64 ct] 71)
 wf:st.wf
 lock:st.lock= []
structure RFine (r:RS) (U:Nat):Prop where
 good:RGood r.F
 used:usedR r.F≤U
 len:r.F.length≤4096
 fu:0≤r.fu∧r.fu≤9223372036854775807
theorem pW39{vs:List AV}{off:Nat}{a:AV}(h:vs[off]? =some a):partA E0 39 vs off=some a:=by
 have:(E0.ty 39).map (fun i=>isAggD i.desc)=some false:=by kernel_rfl
 obtain ⟨i,h1,h2⟩:=Option.map_eq_some_iff.1 this
 exact plainT h1 h2 h
theorem nmG_small(n:Nat):(nmG n).size≤1000000000000:=by rw [nmG_size];omega
section
variable {st:St} {v e nx op ct:Nat} {fv:AV} {r:RS}
theorem RA.ve(h:RA st v e fv r nx op ct):v≠e:=fun q=>by
 have:=h.disk.row;rw [←q,h.row] at this
 simp at this
theorem RA.vf(h:RA st v e fv r nx op ct):v∉fid fv:=fun hm=>by
 rcases h.disk.fv with ⟨_,q⟩|⟨_,i,fl,q,hg⟩
 ·rw [q] at hm;simp [fid] at hm
 ·rw [q] at hm
  simp only [fid,List.mem_singleton] at hm
  rw [←hm,h.row] at hg
  simp at hg
theorem RA.l0(h:RA st v e fv r nx op ct):loadA E0 st 39 (.ptr v 0)=some (.ptr e 0):=load_row h.row (pW39 rfl)
theorem RA.l1(h:RA st v e fv r nx op ct):loadA E0 st 3 (.ptr v 1)=some (i64 nx):=load_row h.row (p3 rfl)
theorem RA.l2(h:RA st v e fv r nx op ct):loadA E0 st 3 (.ptr v 2)=some (i64 op):=load_row h.row (p3 rfl)
theorem RA.l3(h:RA st v e fv r nx op ct):loadA E0 st 3 (.ptr v 3)=some (i64 ct):=load_row h.row (p3 rfl)
theorem RA.rest{st':St}(h:RA st v e fv r nx op ct)(hr:Rest st st' []):RA st' v e fv r nx op ct:=
 ⟨h.disk.rest hr (by simp) (fun _ _=>by simp),hr.keep _ _ (by simp) h.row,hr.wf,hr.lock.trans h.lock⟩
def rgSync(r:RS)(op:Nat):Int:=if op=0 then 0 else rSyncE r (nmG op)
def RGSync(r:RS)(op:Nat)(r':RS):Prop:=if op=0 then r'=r else RSync r (nmG op) r'
theorem rgsync_ok{U:Nat}(h:RA st v e fv r nx op ct)(hf:RFine r U)(hU:U<1000000000)(ho:op≤99999999):∃st' r',obC 19 [.ptr v 0] st (i64 (rgSync r op)) st'∧RGSync r op r'∧RA st' v e fv r' nx op ct∧RestF st st' (e::fid fv):=by
 unfold rgSync RGSync
 by_cases h0:op=0
 ·rw [if_pos h0]
  refine ⟨st,r,f19_T h.l2 (eqlT (by omega)),?_,h,RestF.refl h.wf _⟩
  rw [if_pos h0]
 ·rw [if_neg h0]
  obtain ⟨s1,r1,k1⟩:=nameR_ok h.wf h.lock (n:=op) (by omega) ho
  have h1:=h.rest k1
  obtain ⟨s2,r',r2,p2,k2,a2⟩:=rsync_ok h1.disk h1.wf h1.lock hf.good (Nat.le_trans hf.used (by unfold big;omega)) (by have:=hf.len;omega) hf.fu (nmG_small op)
  have hk:s2.get v=some (.row [.ptr e 0,i64 nx,i64 op,i64 ct] 71):=k2.keep v _ (by simp [h.ve,h.vf]) h1.row fun _ _ _=>rfl
  refine ⟨s2,r',f19_F h.l2 (eqlF (by omega)) h.l2 r1 h1.l0 r2,?_,⟨p2,hk,k2.wf,k2.lock.trans h1.lock⟩,(k1.f.weak (by simp)).trans k2⟩
  rw [if_neg h0];exact a2
end
end
section
set_option maxRecDepth 8000
structure KeepR (st st':St) (S:List Nat):Prop where
 keep:∀i o,i∉S→(∀vs,o≠ .row vs 110)→st.get i=some o→(∀id vs,st.next≤id→frzO id vs o=o)→st'.get i=some o
 next:st.next≤st'.next
 lock:st'.lock=st.lock
 gl:st'.gl=st.gl
 wf:st'.wf
theorem KeepR.trans{a b c:St}{S:List Nat}(h:KeepR a b S)(k:KeepR b c S):KeepR a c S:=
 ⟨fun i o hi ht ho hc=>k.keep i o hi ht (h.keep i o hi ht ho hc) (fun id vs hid=>hc id vs (Nat.le_trans h.next hid)),Nat.le_trans h.next k.next,k.lock.trans h.lock,k.gl.trans h.gl,k.wf⟩
theorem KeepR.weak{a b:St}{S S':List Nat}(h:KeepR a b S)(hs:∀i∈S,i∈S'):KeepR a b S':=
 ⟨fun i o hi=>h.keep i o (fun q=>hi (hs i q)),h.next,h.lock,h.gl,h.wf⟩
theorem RestF.r{a b:St}{S:List Nat}(h:RestF a b S):KeepR a b S:=⟨fun i o hi _=>h.keep i o hi,h.next,h.lock,h.gl,h.wf⟩
theorem RestF.rd{a b:St}{e:Nat}{fv:AV}{r:RS}(h:RestF a b (e::fid fv))(hd:RD a e fv r):KeepR a b [e]:=
 ⟨fun i o hi ht ho hc=>h.keep i o (fun hm=>by
  rcases List.mem_cons.1 hm with q|q
  ·exact hi (by simp [q])
  ·rcases hd.fv with ⟨_,h1⟩|⟨_,j,fl,h1,hg⟩
   ·rw [h1] at q;simp [fid] at q
   ·rw [h1] at q
    simp only [fid,List.mem_singleton] at q
    subst q
    rw [ho] at hg
    cases hg
    exact ht _ rfl) ho hc,h.next,h.lock,h.gl,h.wf⟩
section
variable {st:St} {v e nx op ct:Nat} {fv:AV} {r:RS}
theorem RA.set{vs:List AV}{nx' op' ct':Nat}(h:RA st v e fv r nx op ct)(q:vs= [.ptr e 0,i64 nx',i64 op',i64 ct']):RA (st.set v (.row vs 71)) v e fv r nx' op' ct'∧Rest st (st.set v (.row vs 71)) [v]:=by
 have hr:Rest st (st.set v (.row vs 71)) [v]:=Rest.set h.wf (h.wf _ _ h.row) _ (by simp)
 exact ⟨⟨h.disk.rest hr (by simpa using h.ve.symm) (fun i hi=>by
  have:=h.vf
  simp only [List.mem_singleton]
  intro q2;rw [q2] at hi;exact this hi),by rw [St.get_set,if_pos rfl,q],hr.wf,hr.lock.trans h.lock⟩,hr⟩
theorem rgcreate_ok{U:Nat}(h:RA st v e fv r nx op ct)(hf:RFine r U)(hn:1≤nx∧nx≤99999999):
  ∃s4 s5 fv',obC 6 [i64 nx] st (.tup [str (nmG nx),i64 0]) s4∧loadA E0 s4 39 (.ptr v 0)=some (.ptr e 0)∧obC 31 [.ptr e 0,str (nmG nx)] s4 (i64 (rCreate r (nmG nx)).1) s5∧RA s5 v e fv' (rCreate r (nmG nx)).2 nx op ct∧KeepR st s5 [e]:=by
 obtain ⟨s1,r1,k1⟩:=nameR_ok h.wf h.lock hn.1 hn.2
 have h1:=h.rest k1
 obtain ⟨s2,fv',r2,p2,k2⟩:=rcreate_ok h1.disk h1.wf h1.lock (by have:=hf.len;omega) hf.fu (nmG_small nx)
 have kr:=k2.f.rd h1.disk
 have hk:s2.get v=some (.row [.ptr e 0,i64 nx,i64 op,i64 ct] 71):=kr.keep v _ (by simp [h.ve]) (fun vs q=>by cases q) h1.row fun _ _ _=>rfl
 exact ⟨s1,s2,fv',r1,h1.l0,r2,⟨p2,hk,k2.wf,k2.lock.trans h1.lock⟩,(k1.f.r.weak (by simp)).trans kr⟩
end
end
section
set_option maxRecDepth 8000
theorem ACalls.prefrz{P:Program}{f:Nat}{args:List AV}{Q:AV→St→Prop}{st:St}{id:Nat}{vs:List AV}{ty:Nat}(hw:st.wf)(hg:st.get id=some (.row vs ty))(hl:st.lock= [])(h:ACalls P f (frzL id vs args) Q (frzSt id vs st)):ACalls P f args Q st:=
 fun g w us hok hv=>by
  obtain ⟨g2,hs,hv2⟩:=freeze_step hok hg hl (frzSt_ok hw)
  have hv':VRs g2 (frzL id vs args) us:=⟨by rw [frzL_length];exact hv.1,fun i hi=>by
   rw [frzL_getD];exact hv2 _ _ (hv.2 i (by rw [frzL_length] at hi;exact hi))⟩
  exact (h g2 w us hs.ok hv').mono fun e w' ⟨g',st',r,v,h1,h2,h3,h4⟩=>⟨g',st',r,v,h1,hs.trans h2,h3,h4⟩
theorem frzF_id{F:List RF}(hg:RGood F)(j:Nat)(vs:List AV):F.map (frzF j vs)=F:=by
 conv=>rhs;rw [←List.map_id F]
 apply List.map_congr_left
 intro f hf
 have h:=hg f hf
 show frzF j vs f=f
 unfold frzF
 rw [frz_bv h.1,frz_bv h.2]
theorem rd_frz{st:St}{e j:Nat}{fv:AV}{r:RS}{vs:List AV}(hp:RD st e fv r)(hw:st.wf)(hg:RGood r.F)(hj:st.get j=some (.row vs 5)):RD (frzSt j vs st) e fv r:=by
 have hF:=frzSt_ok (id:=j) (vs:=vs) hw
 have hjd:e≠j:=row_ne hp.row hj (by decide)
 have h:RD (frzSt j vs st) e fv {r with F:=r.F.map (frzF j vs)}:=by
  refine ⟨?_,?_⟩
  ·rw [hF.get,if_neg hjd,hp.row]
   simp only [Option.map_some,frzO,frzL]
   rcases hp.fv with ⟨_,q⟩|⟨_,i,fl,q,hg⟩
   ·rw [q];rfl
   ·have hjr:i≠j:=row_ne hg hj (by decide)
    rw [q]
    simp only [frz,if_neg hjr]
    rfl
  ·rcases hp.fv with ⟨q1,q⟩|⟨h0,i,fl,q,hg⟩
   ·exact .inl ⟨by show r.F.map _= [];rw [q1];rfl,q⟩
   ·have hjr:i≠j:=row_ne hg hj (by decide)
    refine .inr ⟨by simpa using h0,i,fl,by simpa using q,?_⟩
    rw [hF.get,if_neg hjr,hg]
    simp only [Option.map_some,frzO,frz_cells]
 rw [frzF_id hg] at h
 exact h
theorem rapp_own{st0 st:St}{S:List Nat}{e U:Nat}{fv:AV}{r:RS}(hw0:st0.wf)(hk:KeepR st0 st S)(heS:e∈S)(hp:RD st e fv r)(hl:st.lock= [])(hf:RFine r U)(hU:U<1000000000){n:ByteArray}(hn:n.size≤1000000000000){j:Nat}{c:List Int}(hj:st.get j=some (.row (c.map u8) 5))(hj0:st0.next≤j)(hc:c.length<1000000000):
  ∃st' r',obC 33 [.ptr e 0,str n,.sl j 1 0 c.length false] st (i64 (rAppE r n c)) st'∧RD st' e fv r'∧KeepR st0 st' S∧RApp r n c r'∧(∀i o,i≠e→i≠j→(∀vs,o≠ .row vs 110)→Plain o→st.get i=some o→st'.get i=some o):=by
 have hF:=frzSt_ok (id:=j) (vs:=c.map u8) hk.wf
 have hd:=rd_frz hp hk.wf hf.good hj
 obtain ⟨st',r',c1,p1,k1,a1⟩:=rappend_ok (x:= .imm 1 c.length false (c.map u8)) hd (frz_wf hk.wf) (by rw [hF.lock];exact hl) hf.good (Nat.lt_of_le_of_lt hf.used hU) (by have:=hf.len;omega) hf.fu hn (.inr ⟨false,rfl⟩) hc
 have kr:=k1.rd hd
 refine ⟨st',r',ACalls.prefrz hk.wf hj hl ?_,p1,⟨fun i o hi ht ho hcm=> ?_,by have:=kr.next;rw [hF.next] at this;exact Nat.le_trans hk.next this,kr.lock.trans (hF.lock.trans hk.lock),kr.gl.trans (hF.gl.trans hk.gl),kr.wf⟩,a1,fun i o hi hij ht hp ho=> ?_⟩
 ·have e1:frzL j (c.map u8) [.ptr e 0,str n,.sl j 1 0 c.length false]= [.ptr e 0,str n,.imm 1 c.length false (c.map u8)]:=by
   simp only [frzL,frz,if_true]
   rw [if_pos (by simp),List.drop_zero,List.take_of_length_le (by simp)]
  rw [e1];exact c1
 ·have hil:=hw0 _ _ ho
  refine kr.keep i o (by simp only [List.mem_singleton];intro q;subst q;exact hi heS) ht ?_ (fun id vs hid=>hcm id vs (by rw [hF.next] at hid;exact Nat.le_trans hk.next hid))
  rw [hF.get,if_neg (by omega),hk.keep i o hi ht ho hcm,Option.map_some,hcm j _ hj0]
 ·exact kr.keep i o (by simpa using hi) ht (by rw [hF.get,if_neg hij,ho,Option.map_some,hp]) (fun id vs _=>hp id vs)
end
section
set_option maxRecDepth 4000
theorem ba_toList(a:ByteArray):a.toList=nb a:=ByteArray.toList_eq a
theorem ltS_eq(a b:ByteArray):ltS a b=decide (nb a<nb b):=by
 have:ltS a b=Op.bytesLess a.toList b.toList:=by unfold ltS;rw [binOp_string_lss];rfl
 rw [this,Go.Proofs.bytesLess_eq,ba_toList,ba_toList]
theorem eqS_eq(a b:ByteArray):eqS a b=decide (a=b):=by
 have:eqS a b=(a.toList==b.toList):=by unfold eqS;rw [binOp_string_eql];rfl
 rw [this,ba_toList,ba_toList]
 by_cases h:a=b
 ·subst h;simp
 ·rw [decide_eq_false h,beq_eq_false_iff_ne]
  exact fun e=>h (nb_inj e)
def ks(F:List RF):List K:=F.map key
theorem pos_split(n:ByteArray):∀F:List RF,(∀f∈F.take (pos n F),nb f.name<nb n)∧(∀f,F[pos n F]? =some f→¬nb f.name<nb n)
 | []=>by simp [pos]
 |f::r=>by
  by_cases h:ltS f.name n=true
  ·have hp:pos n (f::r)=pos n r+1:=by simp only [pos];rw [if_pos h]
   obtain ⟨h1,h2⟩:=pos_split n r
   rw [hp]
   refine ⟨fun g hg=> ?_,fun g hg=>h2 g (by simpa using hg)⟩
   rw [List.take_succ_cons] at hg
   rcases List.mem_cons.1 hg with rfl|hg
   ·rw [ltS_eq] at h;exact of_decide_eq_true h
   ·exact h1 g hg
  ·have hp:pos n (f::r)=0:=by simp only [pos];rw [if_neg h]
   rw [hp]
   refine ⟨fun g hg=>by simp at hg,fun g hg=> ?_⟩
   obtain rfl:f=g:=by simpa using hg
   rw [ltS_eq] at h
   exact fun hh=>h (decide_eq_true hh)
theorem pos_at{F:List RF}(ho:Ord (F.map RF.name)){i:Nat}{f:RF}(hf:F[i]? =some f):pos f.name F=i:=by
 obtain ⟨h1,h2⟩:=pos_split f.name F
 have hlt:=(List.getElem?_eq_some_iff.1 hf).1
 have hle:=pos_le f.name F
 unfold Ord at ho
 rw [List.pairwise_map] at ho
 by_cases hlt1:pos f.name F<i
 ·exfalso
  have hj:=List.getElem?_eq_getElem (show pos f.name F<F.length by omega)
  refine h2 _ hj ?_
  have:=List.pairwise_iff_getElem.1 ho _ _ (by omega) hlt hlt1
  rwa [(List.getElem?_eq_some_iff.1 hf).2] at this
 ·by_cases hgt:i<pos f.name F
  ·exfalso
   have:f∈F.take (pos f.name F):=List.mem_iff_getElem?.2 ⟨i,by rw [List.getElem?_take,if_pos hgt];exact hf⟩
   exact List.lt_irrefl _ (h1 f this)
  ·omega
theorem hit_iff{F:List RF}(ho:Ord (F.map RF.name))(n:ByteArray):hit n F=true↔∃f∈F,f.name=n:=by
 refine ⟨fun h=> ?_,fun ⟨f,hf,hn⟩=> ?_⟩
 ·obtain ⟨f,h1,h2⟩:=hit_get h
  rw [eqS_eq] at h2
  exact ⟨f,List.mem_of_getElem? h1,of_decide_eq_true h2⟩
 ·obtain ⟨i,hi⟩:=List.getElem?_of_mem hf
  have:=pos_at ho hi
  unfold hit
  rw [←hn,this,hi]
  show eqS f.name f.name=true
  rw [eqS_eq]
  exact decide_eq_true rfl
theorem ord_nodup{F:List RF}(ho:Ord (F.map RF.name)):((ks F).map (·.1)).Nodup:=by
 have:(ks F).map (·.1)=F.map RF.name:=by unfold ks;rw [List.map_map];rfl
 rw [this]
 exact List.Pairwise.imp (fun {a b} h e=>by rw [e] at h;exact List.lt_irrefl _ h) ho
def wo(n:ByteArray)(M:List K):List K:=M.filter fun k=>decide (k.1≠n)
theorem wo_none{n:ByteArray}{M:List K}(h:∀k∈M,k.1≠n):wo n M=M:=List.filter_eq_self.2 fun k hk=>decide_eq_true (h k hk)
theorem erase_wo:∀{M:List K} {i:Nat} {x:K},(M.map (·.1)).Nodup→M[i]? =some x→M.eraseIdx i=wo x.1 M
 | [],i,x,_,h=>by cases h
 |y::r,0,x,hn,h=>by
  obtain rfl:y=x:=by simpa using h
  obtain ⟨h1,h2⟩:=List.nodup_cons.1 hn
  unfold wo
  rw [List.filter_cons_of_neg (by simp)]
  exact (wo_none fun k hk e=>h1 (List.mem_map.2 ⟨k,hk,e⟩)).symm
 |y::r,i+1,x,hn,h=>by
  have hr:r[i]? =some x:=by simpa using h
  obtain ⟨h1,h2⟩:=List.nodup_cons.1 hn
  have hy:y.1≠x.1:=fun e=>h1 (List.mem_map.2 ⟨x,List.mem_of_getElem? hr,e.symm⟩)
  unfold wo
  rw [List.filter_cons_of_pos (by simpa using hy),List.eraseIdx_cons_succ,erase_wo h2 hr]
  rfl
theorem set_wo{M:List K}{i:Nat}{x y:K}(hn:(M.map (·.1)).Nodup)(h:M[i]? =some x):(M.set i y).Perm (y::wo x.1 M):=by
 rw [←erase_wo hn h]
 obtain ⟨hlt,hx⟩:=List.getElem?_eq_some_iff.1 h
 rw [List.set_eq_take_append_cons_drop,if_pos hlt,List.eraseIdx_eq_take_drop_succ]
 exact List.perm_middle
theorem wo_perm{M N:List K}(h:M.Perm N)(n:ByteArray):(wo n M).Perm (wo n N):=h.filter _
theorem map_erase{α β:Type}(f:α→β):∀(l:List α) (i:Nat),(l.eraseIdx i).map f=(l.map f).eraseIdx i
 | [],_=>rfl
 |_::_,0=>rfl
 |a::r,i+1=>by simp only [List.eraseIdx_cons_succ,List.map_cons,map_erase f r i]
theorem putF_ord{F:List RF}(ho:Ord (F.map RF.name))(f:RF):Ord ((putF F f).map RF.name)∧(ks (putF F f)).Perm (key f::wo f.name (ks F)):=by
 obtain ⟨h1,h2⟩:=pos_split f.name F
 unfold putF
 by_cases hh:hit f.name F=true
 ·rw [if_pos hh]
  obtain ⟨g,hg,hgn⟩:=hit_get hh
  rw [eqS_eq] at hgn
  have hgn:=of_decide_eq_true hgn
  have hlt:=(List.getElem?_eq_some_iff.1 hg).1
  have hmap:(F.set (pos f.name F) f).map RF.name=F.map RF.name:=by
   rw [List.map_set]
   refine List.ext_getElem? fun n=> ?_
   rw [List.getElem?_set]
   split
   ·rename_i e
    subst e
    rw [if_pos (by simpa using hlt),List.getElem?_map,hg,Option.map_some,hgn]
   ·rfl
  refine ⟨by rw [hmap];exact ho,?_⟩
  have hk:(ks F)[pos f.name F]? =some (key g):=by unfold ks;rw [List.getElem?_map,hg];rfl
  have:=set_wo (y:=key f) (ord_nodup ho) hk
  unfold ks at this⊢
  rw [List.map_set]
  have e:(key g).1=f.name:=hgn
  rwa [e] at this
 ·rw [if_neg hh]
  have hno:∀g∈F,g.name≠f.name:=fun g hg e=>hh ((hit_iff ho _).2 ⟨g,hg,e⟩)
  have hF:F=F.take (pos f.name F)++F.drop (pos f.name F):=(List.take_append_drop ..).symm
  have hgt:∀g∈F.drop (pos f.name F),nb f.name<nb g.name:=fun g hg=>by
   have hlast:∀x,F[pos f.name F]? =some x→nb f.name<nb x.name:=fun x hx=>by
    have hn:=h2 x hx
    have hne:=hno x (List.mem_of_getElem? hx)
    by_cases h:nb f.name<nb x.name
    ·exact h
    ·exact absurd (nb_inj (List.le_antisymm (List.not_lt.1 h) (List.not_lt.1 hn))) hne
   obtain ⟨j,hj⟩:=List.getElem?_of_mem hg
   rw [List.getElem?_drop] at hj
   cases j with
   |zero=>exact hlast g hj
   |succ j=>
    have hlt:=(List.getElem?_eq_some_iff.1 hj).1
    have hp:=List.getElem?_eq_getElem (show pos f.name F<F.length by omega)
    unfold Ord at ho
    rw [List.pairwise_map] at ho
    have:=List.pairwise_iff_getElem.1 ho (pos f.name F) (pos f.name F+(j+1)) (by omega) hlt (by omega)
    rw [(List.getElem?_eq_some_iff.1 hj).2] at this
    exact List.lt_trans (hlast _ hp) this
  refine ⟨?_,?_⟩
  ·unfold Ord at ho⊢
   rw [List.pairwise_map] at ho⊢
   rw [hF,List.pairwise_append] at ho
   obtain ⟨o1,o2,o3⟩:=ho
   rw [List.pairwise_append]
   refine ⟨o1,List.pairwise_cons.2 ⟨hgt,o2⟩,fun a ha b hb=> ?_⟩
   rcases List.mem_cons.1 hb with rfl|hb
   ·exact h1 a ha
   ·exact o3 a ha b hb
  ·rw [wo_none (fun k hk e=>by obtain ⟨g,hg,rfl⟩:=List.mem_map.1 hk;exact hno g hg e)]
   unfold ks
   rw [List.map_append,List.map_cons]
   conv=>rhs;rw [hF,List.map_append]
   exact List.perm_middle
theorem erase_ord{F:List RF}(ho:Ord (F.map RF.name)){i:Nat}{g:RF}(hg:F[i]? =some g):Ord ((F.eraseIdx i).map RF.name)∧ks (F.eraseIdx i)=wo g.name (ks F):=by
 refine ⟨List.Pairwise.sublist ((List.eraseIdx_sublist ..).map _) ho,?_⟩
 unfold ks
 rw [map_erase]
 have:(F.map key)[i]? =some (key g):=by rw [List.getElem?_map,hg];rfl
 exact erase_wo (ord_nodup ho) this
end
section
set_option maxRecDepth 4000
structure Sim (s:PS) (r:RS):Prop where
 perm:(s.L.map keyP).Perm (ks r.F)
 ord:Ord (r.F.map RF.name)
 may:∀f∈r.F,mayS f.name
 q:s.q=r.q
 fu:s.fu=r.fu
 off:s.off=r.off
 good:∀f∈s.L,DV f∧f.last≤f.bytes.length
 rgood:RGood r.F
 fub:0≤s.fu∧s.fu≤9223372036854775807
 qb:0≤s.q∧s.q≤9223372036854775807
 len:r.F.length≤4096
theorem Sim.g{s:PS}{r:RS}(h:Sim s r):Good s:=⟨h.good,h.fub⟩
def klen(k:K):Nat:=k.2.1.length+k.2.2.length
theorem usedR_ks(F:List RF):usedR F=((ks F).map klen).sum:=by
 unfold usedR ks;rw [List.map_map];rfl
theorem usedL_ks{L:List PF}(h:∀f∈L,f.last≤f.bytes.length):usedL L=((L.map keyP).map klen).sum:=by
 unfold usedL;rw [List.map_map]
 congr 1
 refine List.map_congr_left fun f hf=> ?_
 have:=h f hf
 simp only [Function.comp,keyP,klen,List.length_take,List.length_drop];omega
theorem Sim.used{s:PS}{r:RS}(h:Sim s r):usedL s.L=usedR r.F:=by
 rw [usedR_ks,usedL_ks fun f hf=>(h.good f hf).2]
 exact (h.perm.map klen).sum_nat
theorem Sim.nodup{s:PS}{r:RS}(h:Sim s r):((s.L.map keyP).map (·.1)).Nodup:=(h.perm.map (·.1)).nodup_iff.2 (ord_nodup h.ord)
theorem Sim.names{s:PS}{r:RS}(h:Sim s r):(s.L.map PF.name).Nodup:=by
 have:=h.nodup
 rw [List.map_map] at this
 exact this
theorem Sim.len_eq{s:PS}{r:RS}(h:Sim s r):s.L.length=r.F.length:=by
 have:=h.perm.length_eq
 simpa [ks] using this
theorem Sim.there{s:PS}{r:RS}(h:Sim s r){n:ByteArray}{k:Nat}(hk:find n s.L=some k):∃f g,s.L[k]? =some f∧f.name=n∧r.F[pos n r.F]? =some g∧g.name=n∧hit n r.F=true∧keyP f=key g∧DV f∧f.last≤f.bytes.length:=by
 obtain ⟨f,h1,h2⟩:=find_some hk
 have hf:=List.mem_of_getElem? h1
 obtain ⟨g,hg,hgk⟩:=List.mem_map.1 (h.perm.mem_iff.1 (List.mem_map.2 ⟨f,hf,rfl⟩))
 have hgn:g.name=n:=by rw [←h2];exact congrArg (·.1) hgk
 obtain ⟨i,hi⟩:=List.getElem?_of_mem hg
 have hp:=pos_at h.ord hi
 rw [hgn] at hp
 exact ⟨f,g,h1,h2,by rw [hp];exact hi,hgn,(hit_iff h.ord n).2 ⟨g,hg,hgn⟩,hgk.symm,h.good f hf⟩
theorem Sim.gone{s:PS}{r:RS}(h:Sim s r){n:ByteArray}(hk:find n s.L=none):hit n r.F=false:=by
 refine Bool.eq_false_iff.2 fun hh=> ?_
 obtain ⟨g,hg,hgn⟩:=(hit_iff h.ord n).1 hh
 obtain ⟨f,hf,hfk⟩:=List.mem_map.1 (h.perm.mem_iff.2 (List.mem_map.2 ⟨g,hg,rfl⟩))
 obtain ⟨j,hj⟩:=List.getElem?_of_mem hf
 have:=find_nodup h.names hj
 have e:f.name=n:=by rw [←hgn];exact congrArg (·.1) hfk
 rw [e,hk] at this
 cases this
theorem Sim.err{s:PS}{r:RS}(h:Sim s r)(n:ByteArray):rdE s.L s.off true n=thE r n:=by
 unfold rdE thE
 rw [h.off]
 cases hf:find n s.L with
 |none=>simp [h.gone hf]
 |some k=>
  obtain ⟨_,_,_,_,_,_,hh,_⟩:=h.there hf
  simp [hh]
theorem burnN_b{fu:Int}(h:0≤fu∧fu≤9223372036854775807):0≤burnN fu∧burnN fu≤9223372036854775807:=by
 unfold burnN;split<;>omega
theorem Sim.burnt{s:PS}{r:RS}(h:Sim s r):Sim (E.burnt s) (rBurnt r):=
 ⟨h.perm,h.ord,h.may,h.q,by show burnN s.fu=burnN r.fu;rw [h.fu],by show burnB s.fu=burnB r.fu;rw [h.fu],h.good,h.rgood,burnN_b h.fub,h.qb,h.len⟩
theorem keyP_erase(L:List PF)(k:Nat):(L.eraseIdx k).map keyP=(L.map keyP).eraseIdx k:=map_erase keyP L k
theorem Sim.put{s:PS}{r:RS}(h:Sim s r){f:PF}{g:RF}(hk:keyP f=key g)(hm:mayS g.name)(hd:DV f∧f.last≤f.bytes.length)(hb:BV g.lv g.lb∧BV g.ov g.ob)(hl:(putF r.F g).length≤4096):
  Sim {s with L:=putL s.L f} {r with F:=putF r.F g}:=by
 have hn:f.name=g.name:=congrArg (·.1) hk
 obtain ⟨o1,o2⟩:=putF_ord h.ord g
 have hmem:∀x∈putF r.F g,x=g∨x∈r.F:=fun x hx=>by
  unfold putF at hx
  split at hx
  ·exact (List.mem_or_eq_of_mem_set hx).symm.imp id id
  ·rcases List.mem_append.1 hx with hx|hx
   ·exact .inr (List.mem_of_mem_take hx)
   ·rcases List.mem_cons.1 hx with hx|hx
    ·exact .inl hx
    ·exact .inr (List.mem_of_mem_drop hx)
 have hmemL:∀x∈putL s.L f,x=f∨x∈s.L:=fun x hx=>by
  unfold putL at hx
  split at hx
  ·exact (List.mem_or_eq_of_mem_set hx).symm.imp id id
  ·rcases List.mem_append.1 hx with hx|hx
   ·exact .inr hx
   ·exact .inl (by simpa using hx)
 have hp:((putL s.L f).map keyP).Perm (keyP f::wo f.name (s.L.map keyP)):=by
  unfold putL
  cases hf:find f.name s.L with
  |some k=>
   obtain ⟨f',h1,h2⟩:=find_some hf
   have hk':(s.L.map keyP)[k]? =some (keyP f'):=by rw [List.getElem?_map,h1];rfl
   have:=set_wo (y:=keyP f) h.nodup hk'
   rw [show (keyP f').1=f.name from h2] at this
   simp only [List.map_set]
   exact this
  |none=>
   have hno:∀k∈s.L.map keyP,k.1≠f.name:=fun k hk e=>by
    obtain ⟨x,hx,rfl⟩:=List.mem_map.1 hk
    obtain ⟨j,hj⟩:=List.getElem?_of_mem hx
    have:=find_nodup h.names hj
    rw [show x.name=f.name from e,hf] at this
    cases this
   rw [wo_none hno]
   simp only [List.map_append,List.map_cons,List.map_nil]
   exact List.perm_append_singleton _ _
 refine ⟨?_,o1,fun x hx=> ?_,h.q,h.fu,h.off,fun x hx=> ?_,fun x hx=> ?_,h.fub,h.qb,hl⟩
 ·refine hp.trans (List.Perm.trans ?_ o2.symm)
  rw [hk,hn]
  exact (wo_perm h.perm _).cons _
 ·rcases hmem x hx with rfl|hx
  ·exact hm
  ·exact h.may x hx
 ·rcases hmemL x hx with rfl|hx
  ·exact hd
  ·exact h.good x hx
 ·rcases hmem x hx with rfl|hx
  ·exact hb
  ·exact h.rgood x hx
theorem Sim.erase{s:PS}{r:RS}(h:Sim s r){n:ByteArray}{k:Nat}(hk:find n s.L=some k):Sim {s with L:=s.L.eraseIdx k} {r with F:=r.F.eraseIdx (pos n r.F)}:=by
 obtain ⟨f,g,h1,h2,h3,h4,_,h6,_⟩:=h.there hk
 obtain ⟨o1,o2⟩:=erase_ord h.ord h3
 have hk':(s.L.map keyP)[k]? =some (keyP f):=by rw [List.getElem?_map,h1];rfl
 refine ⟨?_,o1,fun x hx=>h.may x (List.mem_of_mem_eraseIdx hx),h.q,h.fu,h.off,fun x hx=>h.good x (List.mem_of_mem_eraseIdx hx),fun x hx=>h.rgood x (List.mem_of_mem_eraseIdx hx),h.fub,h.qb,?_⟩
 ·show ((s.L.eraseIdx k).map keyP).Perm (ks (r.F.eraseIdx (pos n r.F)))
  rw [keyP_erase,erase_wo h.nodup hk',o2,show (keyP f).1=n from h2,h4]
  exact wo_perm h.perm _
 ·show (r.F.eraseIdx (pos n r.F)).length≤4096
  rw [List.length_eraseIdx]
  have:=h.len
  split<;>omega
theorem Sim.set{s:PS}{r:RS}(h:Sim s r){n:ByteArray}{k:Nat}(hk:find n s.L=some k){f':PF}{g':RF}(hn:g'.name=n)(he:keyP f'=key g')(hd:DV f'∧f'.last≤f'.bytes.length)(hb:BV g'.lv g'.lb∧BV g'.ov g'.ob):
  Sim {s with L:=s.L.set k f'} {r with F:=r.F.set (pos n r.F) g'}:=by
 obtain ⟨f,g,h1,h2,h3,h4,h5,h6,_⟩:=h.there hk
 have hf':f'.name=n:=by rw [←hn];exact congrArg (·.1) he
 have e1:putL s.L f'=s.L.set k f':=putL_hit (by rw [hf'];exact hk)
 have e2:putF r.F g'=r.F.set (pos n r.F) g':=by unfold putF;rw [hn,if_pos h5]
 have:=h.put he (by rw [hn,←h4];exact h.may g (List.mem_of_getElem? h3)) hd hb (by rw [e2,List.length_set];exact h.len)
 rwa [e1,e2] at this
end
section
set_option maxRecDepth 4000
theorem putF_len(F:List RF)(g:RF):(putF F g).length≤F.length+1∧(hit g.name F=true→(putF F g).length=F.length):=by
 unfold putF
 split
 ·rename_i h
  simp
 ·rename_i h
  refine ⟨?_,fun hh=>absurd hh h⟩
  have:=pos_le g.name F
  simp
  omega
theorem Sim.hit{s:PS}{r:RS}(h:Sim s r)(n:ByteArray):find n s.L=none↔hit n r.F=false:=by
 refine ⟨h.gone,fun hh=> ?_⟩
 cases hf:find n s.L with
 |none=>rfl
 |some k=>
  obtain ⟨_,_,_,_,_,_,h5,_⟩:=h.there hf
  rw [hh] at h5;cases h5
theorem DV_nil(n:ByteArray)(l:Nat):DV ⟨n,.nils,[],l⟩:= .inl ⟨rfl,rfl⟩
theorem sim_create{s:PS}{r:RS}(h:Sim s r)(n:ByteArray):(pCreate s n).1=(rCreate r n).1∧Sim (pCreate s n).2 (rCreate r n).2:=by
 unfold pCreate rCreate
 have hrd:rdE s.L s.off false n=if r.off=true then 8 else if¬mayS n then 1 else 0:=by
  unfold rdE;rw [h.off];simp
 have hl:=h.len
 by_cases ho:r.off=true
 ·have e:rdE s.L s.off false n=8:=by rw [hrd,if_pos ho]
  rw [if_pos (by rw [e];decide),if_pos ho,e];exact ⟨rfl,h⟩
 ·rw [if_neg ho]
  by_cases hm:mayS n
  ·have e:rdE s.L s.off false n=0:=by rw [hrd,if_neg ho,if_neg (not_not_intro hm)]
   rw [if_neg (by rw [e];decide),if_neg (not_not_intro hm)]
   by_cases hc:E.hit n r.F=false∧4096≤r.F.length
   ·rw [if_pos ⟨(h.hit n).2 hc.1,by rw [h.len_eq];exact hc.2⟩,if_pos hc];exact ⟨rfl,h⟩
   ·rw [if_neg (fun hh=>hc ⟨(h.hit n).1 hh.1,by rw [←h.len_eq];exact hh.2⟩),if_neg hc,h.fu]
    by_cases hb:burnB r.fu=true
    ·rw [if_pos hb,if_pos hb];exact ⟨rfl,h.burnt⟩
    ·rw [if_neg hb,if_neg hb]
     refine ⟨rfl,?_⟩
     refine Sim.put h.burnt (f:=⟨n,.nils,[],0⟩) (g:=⟨n,.nils,.nils,[],[]⟩) rfl hm ⟨DV_nil _ _,Nat.zero_le _⟩ ⟨.inl ⟨rfl,rfl⟩,.inl ⟨rfl,rfl⟩⟩ ?_
     obtain ⟨l1,l2⟩:=putF_len (rBurnt r).F ⟨n,.nils,.nils,[],[]⟩
     have hF:(rBurnt r).F=r.F:=rfl
     rw [hF] at l1 l2⊢
     by_cases hh:E.hit n r.F=true
     ·rw [l2 hh];exact h.len
     ·have:¬4096≤r.F.length:=fun h4=>hc ⟨by simpa using hh,h4⟩
      omega
  ·have e:rdE s.L s.off false n=1:=by rw [hrd,if_neg ho,if_pos hm]
   rw [if_pos (by rw [e];decide),if_pos hm,e];exact ⟨rfl,h⟩
theorem sim_remove{s:PS}{r:RS}(h:Sim s r)(n:ByteArray):(pRemove s n).1=(rRemove r n).1∧Sim (pRemove s n).2 (rRemove r n).2:=by
 unfold pRemove rRemove
 rw [h.err n,h.fu]
 by_cases he:thE r n≠0
 ·rw [if_pos he,if_pos he];exact ⟨rfl,h⟩
 ·rw [if_neg he,if_neg he]
  by_cases hb:burnB r.fu=true
  ·rw [if_pos hb,if_pos hb];exact ⟨rfl,h.burnt⟩
  ·rw [if_neg hb,if_neg hb]
   obtain ⟨_,_,hh⟩:=thE_off (by simpa using he)
   cases hf:find n s.L with
   |none=>rw [(h.hit n).1 hf] at hh;cases hh
   |some k=>
    exact ⟨rfl,Sim.erase h.burnt hf⟩
theorem sim_sync{s:PS}{r r':RS}(h:Sim s r)(n:ByteArray)(hr:RSync r n r'):(pSync s n).1=rSyncE r n∧Sim (pSync s n).2 r':=by
 unfold pSync rSyncE
 unfold RSync at hr
 rw [h.err n,h.fu]
 by_cases he:thE r n≠0
 ·rw [if_pos he] at hr;rw [if_pos he,if_pos he,hr];exact ⟨rfl,h⟩
 ·rw [if_neg he] at hr;rw [if_neg he,if_neg he]
  by_cases hb:burnB r.fu=true
  ·rw [if_pos hb] at hr;rw [if_pos hb,if_pos hb,hr];exact ⟨rfl,h.burnt⟩
  ·rw [if_neg hb] at hr;rw [if_neg hb,if_neg hb]
   obtain ⟨_,_,hh⟩:=thE_off (by simpa using he)
   cases hf:find n s.L with
   |none=>rw [(h.hit n).1 hf] at hh;cases hh
   |some k=>
    obtain ⟨f,g,h1,h2,h3,h4,h5,h6,h7⟩:=h.there hf
    obtain ⟨g0,g',e1,e2,e3,e4,e5,e6,e7⟩:=hr
    rw [h3] at e1
    obtain rfl:g=g0:=by simpa using e1
    simp only [h1]
    refine ⟨trivial,?_⟩
    rw [e7]
    refine Sim.set h.burnt hf (f':={f with last:=f.bytes.length}) (g':=g') (e2.trans h4) ?_ ⟨h7.1,Nat.le_refl _⟩ ⟨e5,e6⟩
    simp only [keyP,key,Prod.mk.injEq] at h6⊢
    obtain ⟨k1,k2,k3⟩:=h6
    rw [e2,e3,e4,←k2,←k3,List.take_append_drop]
    exact ⟨k1,List.take_of_length_le (Nat.le_refl _),List.drop_of_length_le (Nat.le_refl _)⟩
theorem used_app{F:List RF}{i:Nat}{g g':RF}{c:Nat}(h:F[i]? =some g)(hle:g'.lb.length+g'.ob.length=g.lb.length+g.ob.length+c):usedR (F.set i g')=usedR F+c:=by
 obtain ⟨hlt,hx⟩:=List.getElem?_eq_some_iff.1 h
 have e1:F=F.take i++g::F.drop (i+1):=by
  conv=>lhs;rw [←List.take_append_drop i F,List.drop_eq_getElem_cons hlt,hx]
 rw [List.set_eq_take_append_cons_drop,if_pos hlt]
 conv=>rhs;rw [e1]
 unfold usedR
 simp only [List.map_append,List.map_cons,List.sum_append,List.sum_cons]
 omega
theorem sim_append{s s':PS}{r r':RS}(h:Sim s r)(n:ByteArray)(c:List Int)(hs:AppS s n c s')(hr:RApp r n c r'):appE s n c=rAppE r n c∧Sim s' r'∧usedR r'.F≤usedR r.F+c.length:=by
 unfold appE rAppE
 unfold RApp at hr
 unfold AppS at hs
 have hq:(s.q- usedL s.L<c.length)=(r.q<usedR r.F+c.length):=by
  rw [h.used,h.q];exact propext ⟨fun h=>by omega,fun h=>by omega⟩
 simp only [hq] at hs⊢
 rw [h.err n,h.fu] at hs⊢
 by_cases he:thE r n≠0
 ·rw [if_pos he] at hr hs;rw [if_pos he,hr,hs];exact ⟨rfl,h,by omega⟩
 ·rw [if_neg he] at hr hs;rw [if_neg he]
  by_cases hc:0<c.length∧r.q<usedR r.F+c.length
  ·rw [if_pos hc] at hr hs;rw [if_pos hc,hr,hs];exact ⟨rfl,h,by omega⟩
  ·rw [if_neg hc] at hr hs;rw [if_neg hc]
   by_cases hb:burnB r.fu=true
   ·rw [if_pos hb] at hr hs;rw [hr,hs];exact ⟨rfl,h.burnt,by show usedR r.F≤_;omega⟩
   ·rw [if_neg hb] at hr hs
    obtain ⟨k,f0,dv,f1,f2,f3,f4,f5⟩:=hs
    obtain ⟨f,g,h1,h2,h3,h4,h5,h6,h7⟩:=h.there f1
    rw [h1] at f2
    obtain rfl:f=f0:=by simpa using f2
    obtain ⟨g0,g',e1,e2,e3,e4,e5,e6,e7⟩:=hr
    rw [h3] at e1
    obtain rfl:g=g0:=by simpa using e1
    refine ⟨rfl,?_,?_⟩
    ·rw [f5,e7]
     refine Sim.set h.burnt f1 (f':=⟨n,dv,f.bytes++c,f.last⟩) (g':=g') (e2.trans h4) ?_ ⟨f4,?_⟩ ⟨e5,e6⟩
     ·simp only [keyP,key,Prod.mk.injEq] at h6⊢
      obtain ⟨k1,k2,k3⟩:=h6
      rw [e2,e3,e4,h4,←k2,←k3]
      refine ⟨rfl,?_,?_⟩
      ·rw [List.take_append_of_le_length h7.2]
      ·rw [List.drop_append_of_le_length h7.2]
     ·simp only [List.length_append];have:=h7.2;omega
    ·rw [e7]
     show usedR (r.F.set (pos n r.F) g')≤_
     rw [used_app (c:=c.length) h3 (by rw [e3,e4,List.length_append];omega)]
     exact Nat.le_refl _
theorem sim_loose{s:PS}{r:RS}(h:Sim s r)(n:ByteArray):pLoose s n=rLoose r n:=by
 unfold pLoose rLoose
 rw [h.err n]
 by_cases he:thE r n≠0
 ·rw [if_pos he,if_pos he]
 ·rw [if_neg he,if_neg he]
  obtain ⟨_,_,hh⟩:=thE_off (by simpa using he)
  cases hf:find n s.L with
  |none=>rw [(h.hit n).1 hf] at hh;cases hh
  |some k=>
   obtain ⟨f,g,h1,h2,h3,h4,h5,h6,h7⟩:=h.there hf
   simp only [h1,h3]
   simp only [keyP,key,Prod.mk.injEq] at h6
   rw [←h6.2.2,List.length_drop]
   have:=h7.2
   omega
end
section
set_option maxRecDepth 4000
theorem wo_le(n:ByteArray):∀M:List K,((wo n M).map klen).sum≤(M.map klen).sum
 | []=>Nat.le_refl _
 |k::r=>by
  have:=wo_le n r
  unfold wo at this⊢
  rw [List.filter_cons]
  split
  ·simp only [List.map_cons,List.sum_cons];omega
  ·simp only [List.map_cons,List.sum_cons];omega
theorem used_put{F:List RF}(ho:Ord (F.map RF.name))(g:RF):usedR (putF F g)≤klen (key g)+usedR F:=by
 obtain ⟨_,h⟩:=putF_ord ho g
 rw [usedR_ks,usedR_ks,(h.map klen).sum_nat]
 have:=wo_le g.name (ks F)
 simp only [List.map_cons,List.sum_cons]
 omega
theorem used_erase{F:List RF}{i:Nat}{g:RF}(h:F[i]? =some g):usedR (F.eraseIdx i)+klen (key g)=usedR F:=by
 obtain ⟨hlt,hx⟩:=List.getElem?_eq_some_iff.1 h
 have e1:F=F.take i++g::F.drop (i+1):=by
  conv=>lhs;rw [←List.take_append_drop i F,List.drop_eq_getElem_cons hlt,hx]
 rw [List.eraseIdx_eq_take_drop_succ]
 conv=>rhs;rw [e1]
 unfold usedR klen key
 simp only [List.map_append,List.map_cons,List.sum_append,List.sum_cons]
 omega
theorem used_rCreate{s:PS}{r:RS}(h:Sim s r)(n:ByteArray):usedR (rCreate r n).2.F≤usedR r.F:=by
 unfold rCreate
 split
 ·exact Nat.le_refl _
 split
 ·exact Nat.le_refl _
 split
 ·exact Nat.le_refl _
 split
 ·exact Nat.le_refl _
 ·have:=used_put (F:=r.F) h.ord ⟨n,.nils,.nils,[],[]⟩
  simp only [klen,key,List.length_nil] at this
  show usedR (putF r.F _)≤_
  omega
theorem used_rRemove{s:PS}{r:RS}(h:Sim s r)(n:ByteArray):usedR (rRemove r n).2.F≤usedR r.F:=by
 unfold rRemove
 split
 ·exact Nat.le_refl _
 split
 ·exact Nat.le_refl _
 ·show usedR (r.F.eraseIdx (pos n r.F))≤_
  cases hg:r.F[pos n r.F]? with
  |some g=>have:=used_erase hg;omega
  |none=>rw [List.eraseIdx_of_length_le (List.getElem?_eq_none_iff.1 hg)];exact Nat.le_refl _
theorem used_rSync{r r':RS}{n:ByteArray}(h:RSync r n r'):usedR r'.F≤usedR r.F:=by
 unfold RSync at h
 split at h
 ·rw [h];exact Nat.le_refl _
 split at h
 ·rw [h];exact Nat.le_refl _
 ·obtain ⟨g,g',h1,h2,h3,h4,_,_,h5⟩:=h
  rw [h5]
  refine used_set h1 ?_
  rw [h3,h4,List.length_append,List.length_nil];omega
end
section
set_option maxRecDepth 8000
def rBeg(r:RS)(nx:Nat):Int×RS:=if 99999999<nx then (7,r) else rCreate r (nmG nx)
theorem sim_beg{s:PS}{r:RS}(h:Sim s r)(nx:Nat):(gBeg s nx).1=(rBeg r nx).1∧Sim (gBeg s nx).2 (rBeg r nx).2:=by
 unfold gBeg rBeg
 by_cases hb:99999999<nx
 ·rw [if_pos hb,if_pos hb];exact ⟨rfl,h⟩
 ·rw [if_neg hb,if_neg hb];exact sim_create h _
theorem sim_gsync{s:PS}{r r':RS}(h:Sim s r){op:Nat}(hr:RGSync r op r'):(gSync s op).1=rgSync r op∧Sim (gSync s op).2 r':=by
 unfold RGSync at hr
 unfold gSync rgSync
 by_cases h0:op=0
 ·rw [if_pos h0] at hr
  rw [if_pos h0,if_pos h0]
  subst hr
  exact ⟨rfl,h⟩
 ·rw [if_neg h0] at hr
  rw [if_neg h0,if_neg h0]
  exact sim_sync h _ hr
theorem Sim.fine{s:PS}{r:RS}(h:Sim s r){U:Nat}(hu:usedR r.F≤U):Fine s U∧RFine r U:=
 ⟨⟨h.g,by rw [h.used];exact hu,h.qb⟩,⟨h.rgood,hu,h.len,by rw [←h.fu];exact h.fub⟩⟩
end
section
set_option maxRecDepth 8000
def RPre(r:RS)(nx op ct:Nat)(e1:Int)(r1:RS)(nx1 op1 ct1:Nat):Prop:=
  if 0<op∧ct=8 then∃ra,RSync r (nmG op) ra∧
    (if rSyncE r (nmG op)≠0 then (e1,nx1,op1,ct1)=(rSyncE r (nmG op),nx,op,ct)∧r1=ra
     else if (rBeg ra nx).1≠0 then (e1,nx1,op1,ct1)=((rBeg ra nx).1,nx,0,ct)∧r1=(rBeg ra nx).2
     else (e1,nx1,op1,ct1)=(0,nx+1,nx,0)∧r1=(rBeg ra nx).2)
  else if op=0 then
    (if (rBeg r nx).1≠0 then (e1,nx1,op1,ct1)=((rBeg r nx).1,nx,0,ct)∧r1=(rBeg r nx).2 else (e1,nx1,op1,ct1)=(0,nx+1,nx,0)∧r1=(rBeg r nx).2)
  else (e1,nx1,op1,ct1)=(0,nx,op,ct)∧r1=r
theorem sim_pre{s:PS}{r r1:RS}(h:Sim s r){nx op ct nx1 op1 ct1:Nat}{e1:Int}(hr:RPre r nx op ct e1 r1 nx1 op1 ct1):∃s1,gPre s nx op ct=(e1,s1,nx1,op1,ct1)∧Sim s1 r1:=by
 unfold RPre at hr
 unfold gPre
 by_cases hf:0<op∧ct=8
 ·rw [if_pos hf] at hr⊢
  obtain ⟨ra,h1,h2⟩:=hr
  obtain ⟨k1,k2⟩:=sim_sync h _ h1
  obtain ⟨k3,k4⟩:=sim_beg k2 nx
  rw [k1]
  by_cases he:rSyncE r (nmG op)≠0
  ·rw [if_pos he] at h2⊢
   obtain ⟨q,rfl⟩:=h2
   simp only [Prod.mk.injEq] at q
   obtain ⟨rfl,rfl,rfl,rfl⟩:=q
   exact ⟨_,rfl,k2⟩
  ·rw [if_neg he] at h2⊢
   rw [k3]
   by_cases hb:(rBeg ra nx).1≠0
   ·rw [if_pos hb] at h2⊢
    obtain ⟨q,rfl⟩:=h2
    simp only [Prod.mk.injEq] at q
    obtain ⟨rfl,rfl,rfl,rfl⟩:=q
    exact ⟨_,rfl,k4⟩
   ·rw [if_neg hb] at h2⊢
    obtain ⟨q,rfl⟩:=h2
    simp only [Prod.mk.injEq] at q
    obtain ⟨rfl,rfl,rfl,rfl⟩:=q
    exact ⟨_,rfl,k4⟩
 ·rw [if_neg hf] at hr⊢
  by_cases h0:op=0
  ·rw [if_pos h0] at hr⊢
   obtain ⟨k3,k4⟩:=sim_beg h nx
   rw [k3]
   by_cases hb:(rBeg r nx).1≠0
   ·rw [if_pos hb] at hr⊢
    obtain ⟨q,rfl⟩:=hr
    simp only [Prod.mk.injEq] at q
    obtain ⟨rfl,rfl,rfl,rfl⟩:=q
    exact ⟨_,rfl,k4⟩
   ·rw [if_neg hb] at hr⊢
    obtain ⟨q,rfl⟩:=hr
    simp only [Prod.mk.injEq] at q
    obtain ⟨rfl,rfl,rfl,rfl⟩:=q
    exact ⟨_,rfl,k4⟩
  ·rw [if_neg h0] at hr⊢
   obtain ⟨q,rfl⟩:=hr
   simp only [Prod.mk.injEq] at q
   obtain ⟨rfl,rfl,rfl,rfl⟩:=q
   exact ⟨_,rfl,h⟩
end
section
set_option maxRecDepth 8000
theorem plain_wl(e nx op ct ty:Nat):Plain (.row [.ptr e 0,i64 nx,i64 op,i64 ct] ty):=fun _ _=>rfl
def RApnd(x:AV)(c:List Int)(st:St)(v e:Nat)(r:RS)(nx op ct:Nat)(st':St)(fv':AV)(r':RS):Prop:=
  ∃(e1:Int) (r1:RS) (nx1 op1 ct1:Nat),RPre r nx op ct e1 r1 nx1 op1 ct1∧
  ((e1≠0∧r'=r1∧obC 17 [.ptr v 0,x] st (.tup [i64 0,i64 e1]) st'∧RA st' v e fv' r' nx1 op1 ct1)∨
   (e1=0∧RApp r1 (nmG op1) c r'∧
    ((rAppE r1 (nmG op1) c≠0∧obC 17 [.ptr v 0,x] st (.tup [i64 0,i64 (rAppE r1 (nmG op1) c)]) st'∧RA st' v e fv' r' nx1 op1 ct1)∨
     (rAppE r1 (nmG op1) c=0∧obC 17 [.ptr v 0,x] st (.tup [i64 op1,i64 0]) st'∧RA st' v e fv' r' nx1 op1 (ct1+1)))))
section
variable {st0 st:St} {v e nx op ct:Nat} {fv:AV} {r:RS}
def OwnR(st0 st:St)(j:Nat)(c:List Int):Prop:=st.get j=some (.row (c.map u8) 5)∧st0.next≤j
theorem OwnR.keep{st':St}{j:Nat}{c:List Int}{S:List Nat}(h:OwnR st0 st j c)(hk:KeepR st st' S)(hS:∀i∈S,i<st0.next):OwnR st0 st' j c:=
 ⟨hk.keep j _ (fun hi=>by have:=hS j hi;have:=h.2;omega) (fun vs q=>by cases q) h.1 fun id vs _=>plain_u8 c 5 id vs,h.2⟩
theorem rapp_tail{S:List Nat}{U j:Nat}{c:List Int}(hw0:st0.wf)(h:RA st v e fv r nx op ct)(hk:KeepR st0 st S)(heS:e∈S)(hlt:∀i∈ [e,v],i<st0.next)(hf:RFine r U)(hU:U<1000000000)(ho:1≤op∧op≤99999999)(hj:OwnR st0 st j c)(hc:c.length<1000000000):
  ∃sA sB r',obC 6 [i64 op] st (.tup [str (nmG op),i64 0]) sA∧loadA E0 sA 39 (.ptr v 0)=some (.ptr e 0)∧obC 33 [.ptr e 0,str (nmG op),.sl j 1 0 c.length false] sA (i64 (rAppE r (nmG op) c)) sB∧RApp r (nmG op) c r'∧RA sB v e fv r' nx op ct∧KeepR st0 sB S:=by
 obtain ⟨sA,r1,k1⟩:=nameR_ok h.wf h.lock ho.1 ho.2
 have h1:=h.rest k1
 have hj1:=hj.keep k1.f.r (by simp)
 obtain ⟨sB,r',c2,p2,k2,a2,kk⟩:=rapp_own hw0 (hk.trans (k1.f.r.weak (by simp))) heS h1.disk h1.lock hf hU (nmG_small op) hj1.1 hj1.2 hc
 have hvj:v≠j:=by have:=hlt v (by simp);have:=hj1.2;omega
 exact ⟨sA,sB,r',r1,h1.l0,c2,a2,⟨p2,kk v _ h1.ve hvj (fun vs q=>by cases q) (plain_wl e nx op ct 71) h1.row,k2.wf,k2.lock.trans (hk.lock.symm.trans h.lock)⟩,k2⟩
theorem rapp_fin(h:RA st v e fv r nx op ct)(hct:ct≤1000):∃s7,storeA E0 st 3 (.ptr v 3) (i64 (ct+1:Int))=some s7∧RA s7 v e fv r nx op (ct+1)∧KeepR st s7 [v]:=by
 obtain ⟨h3,k3⟩:=h.set (vs:= [.ptr e 0,i64 nx,i64 op,i64 ct].set 3 (i64 (ct+1:Nat))) rfl
 exact ⟨_,storeWl h.row h.lock (by simp) _,h3,k3.f.r⟩
theorem rapp_beg(h:RA st v e fv r nx op ct)(hn:nx≤99999999):∃s1 s2 s3,storeA E0 st 3 (.ptr v 2) (i64 nx)=some s1∧storeA E0 s1 3 (.ptr v 3) (i64 0)=some s2∧loadA E0 s2 3 (.ptr v 1)=some (i64 nx)∧storeA E0 s2 3 (.ptr v 1) (i64 (nx+1:Int))=some s3∧RA s3 v e fv r (nx+1) nx 0∧KeepR st s3 [v]:=by
 obtain ⟨h3,k3⟩:=h.set (vs:= [.ptr e 0,i64 nx,i64 op,i64 ct].set 2 (i64 nx)) rfl
 obtain ⟨h4,k4⟩:=h3.set (vs:=([.ptr e 0,i64 nx,i64 nx,i64 ct]:List AV).set 3 (i64 (0:Nat))) rfl
 obtain ⟨h5,k5⟩:=h4.set (vs:=([.ptr e 0,i64 nx,i64 nx,i64 (0:Nat)]:List AV).set 1 (i64 (nx+1:Nat))) rfl
 exact ⟨_,_,_,storeWl h.row h.lock (by simp) _,storeWl h3.row h3.lock (by simp) _,h4.l1,storeWl h4.row h4.lock (by simp) _,h5,(k3.f.r.trans k4.f.r).trans k5.f.r⟩
end
end
section
set_option maxRecDepth 8000
section
variable {st:St} {v e nx op ct:Nat} {fv:AV} {r:RS} {s:PS}
theorem used_rBeg{s:PS}{r:RS}(h:Sim s r)(nx:Nat):usedR (rBeg r nx).2.F≤usedR r.F:=by
 unfold rBeg;split
 ·exact Nat.le_refl _
 ·exact used_rCreate h _
theorem rbeg_no{r:RS}{nx:Nat}(h:¬99999999<nx):rBeg r nx=rCreate r (nmG nx):=by unfold rBeg;rw [if_neg h]
theorem rgappend_ok{x:AV}{U:Nat}{xs:List Nat}(h:RA st v e fv r nx op ct)(hS:Sim s r)(hx:BS st x (xs.map Int.ofNat))(h256:∀y∈xs,y<256)(hu:usedR r.F≤U)(hU:U<1000000000)(hn:1≤nx∧nx≤100000000)(ho:op≤99999999)(hct:ct≤8)(h1:1≤xs.length)(h2:xs.length≤4096):
  ∃st' fv' r',RApnd x (frameL (xs.map Int.ofNat)) st v e r nx op ct st' fv' r'∧KeepR st st' [e,v]:=by
 have hlt:∀i∈ [e,v],i<st.next:=fun i hi=>by
  simp only [List.mem_cons,List.not_mem_nil,or_false] at hi
  rcases hi with rfl|rfl
  ·exact h.wf _ _ h.disk.row
  ·exact h.wf _ _ h.row
 have hcl:(frameL (xs.map Int.ofNat)).length<1000000000:=by rw [frame_len,List.length_map];omega
 have hw0:=h.wf
 obtain ⟨y,s1,f1,hvo,kf,hvf⟩:=frameR_ok h.wf h.lock hx h256 h1 h2
 have hv1:OwnW st s1 y (frameL (xs.map Int.ofNat)):=own_w hvo hvf (fun q=>by have:=congrArg List.length q;rw [frame_len] at this;simp at this)
 obtain ⟨j,rfl,hg1,hj1⟩:=hv1
 have w1:=h.rest kf
 have kf':KeepR st s1 [e,v]:=kf.f.r.weak (by simp)
 have o1:OwnR st s1 j (frameL (xs.map Int.ofNat)):=⟨hg1,hj1⟩
 have hev:∀i∈ [e],i∈ [e,v]:=by simp
 have hvv:∀i∈ [v],i∈ [e,v]:=by simp
 by_cases hfull:0<op∧ct=8
 ·obtain ⟨s2,ra,r2,q2,w2,k2⟩:=rgsync_ok w1 (hS.fine hu).2 hU ho
  have e2:rgSync r op=rSyncE r (nmG op):=by unfold rgSync;rw [if_neg (by omega)]
  have e3:RSync r (nmG op) ra:=by unfold RGSync at q2;rw [if_neg (by omega)] at q2;exact q2
  rw [e2] at r2
  have k2':KeepR st s2 [e,v]:=kf'.trans ((k2.rd w1.disk).weak hev)
  by_cases he:rSyncE r (nmG op)≠0
  ·refine ⟨s2,fv,ra,⟨rSyncE r (nmG op),ra,nx,op,ct,?_,.inl ⟨he,rfl,f17_FTTT f1 (neqF rfl) w1.l2 (gtrT (by omega)) w1.l3 (eqlT (by omega)) r2 (neqT he),w2⟩⟩,k2'⟩
   unfold RPre;rw [if_pos hfull];exact ⟨ra,e3,by rw [if_pos he];exact ⟨rfl,rfl⟩⟩
  have he':=Classical.not_not.1 he
  rw [he'] at r2
  have hSa:=(sim_sync hS _ e3).2
  have hua:usedR ra.F≤U:=Nat.le_trans (used_rSync e3) hu
  obtain ⟨w3,k3⟩:=w2.set (vs:= [.ptr e 0,i64 nx,i64 op,i64 ct].set 2 (i64 (0:Nat))) rfl
  have t3:=storeWl w2.row w2.lock (k:=2) (by simp) 0
  have k3':KeepR st _ [e,v]:=k2'.trans (k3.f.r.weak hvv)
  by_cases hb:99999999<nx
  ·refine ⟨_,fv,ra,⟨7,ra,nx,0,ct,?_,.inl ⟨by decide,rfl,f17_FTTFTT f1 (neqF rfl) w1.l2 (gtrT (by omega)) w1.l3 (eqlT (by omega)) r2 (neqF rfl) t3 w3.l2 (eqlT rfl) w3.l1 (nameR_bad (.inr (by omega))) (neqT (by decide)),w3⟩⟩,k3'⟩
   unfold RPre;rw [if_pos hfull];refine ⟨ra,e3,?_⟩
   have:rBeg ra nx=(7,ra):=by unfold rBeg;rw [if_pos hb]
   rw [if_neg he,this,if_pos (show (7:Int)≠0 by decide)];exact ⟨rfl,rfl⟩
  obtain ⟨s4,s5,fv',a1,a2,a3,w5,k5⟩:=rgcreate_ok w3 (hSa.fine hua).2 (nx:=nx) (by omega)
  have k5':KeepR st s5 [e,v]:=k3'.trans (k5.weak hev)
  have eb:=rbeg_no (r:=ra) hb
  by_cases hz:(rCreate ra (nmG nx)).1≠0
  ·refine ⟨_,fv',_,⟨_,_,nx,0,ct,?_,.inl ⟨hz,rfl,f17_FTTFTFT f1 (neqF rfl) w1.l2 (gtrT (by omega)) w1.l3 (eqlT (by omega)) r2 (neqF rfl) t3 w3.l2 (eqlT rfl) w3.l1 a1 (neqF rfl) a2 a3 (neqT hz),w5⟩⟩,k5'⟩
   unfold RPre;rw [if_pos hfull];refine ⟨ra,e3,?_⟩
   rw [if_neg he,eb,if_pos hz];exact ⟨rfl,rfl⟩
  have hz':=Classical.not_not.1 hz
  rw [hz'] at a3
  obtain ⟨s6,s7,s8,b1,b2,b3,b4,w8,k8⟩:=rapp_beg w5 (by omega)
  have k8':KeepR st s8 [e,v]:=k5'.trans (k8.weak hvv)
  have hSb:=(sim_create hSa (nmG nx)).2
  have hub:usedR (rCreate ra (nmG nx)).2.F≤U:=Nat.le_trans (used_rCreate hSa _) hua
  have o8:OwnR st s8 j (frameL (xs.map Int.ofNat)):=⟨by
   have:=(((o1.keep ((k2.rd w1.disk).weak hev) hlt).keep (k3.f.r.weak hvv) hlt).keep (k5.weak hev) hlt).keep (k8.weak hvv) hlt
   exact this.1,hj1⟩
  obtain ⟨sA,sB,r',d1,d2,d3,d4,wB,kB⟩:=rapp_tail hw0 w8 k8' (by simp) hlt (hSb.fine hub).2 hU ⟨hn.1,by omega⟩ o8 hcl
  have hP:RPre r nx op ct 0 (rCreate ra (nmG nx)).2 (nx+1) nx 0:=by
   unfold RPre;rw [if_pos hfull];refine ⟨ra,e3,?_⟩
   rw [if_neg he,eb,if_neg hz];exact ⟨rfl,rfl⟩
  by_cases hq:rAppE (rCreate ra (nmG nx)).2 (nmG nx) (frameL (xs.map Int.ofNat))=0
  ·rw [hq] at d3
   obtain ⟨s9,g1,g2,g3⟩:=rapp_fin wB (by omega)
   exact ⟨s9,fv',r',⟨_,_,_,_,_,hP,.inr ⟨rfl,d4,.inr ⟨hq,f17_FTTFTFFF f1 (neqF rfl) w1.l2 (gtrT (by omega)) w1.l3 (eqlT (by omega)) r2 (neqF rfl) t3 w3.l2 (eqlT rfl) w3.l1 a1 (neqF rfl) a2 a3 (neqF rfl) w5.l1 b1 b2 b3 (add64 (by omega)) b4 w8.l2 d1 d2 d3 (neqF rfl) wB.l3 (add64 (by omega)) g1 g2.l2,g2⟩⟩⟩,kB.trans (g3.weak hvv)⟩
  ·exact ⟨sB,fv',r',⟨_,_,_,_,_,hP,.inr ⟨rfl,d4,.inl ⟨hq,f17_FTTFTFFT f1 (neqF rfl) w1.l2 (gtrT (by omega)) w1.l3 (eqlT (by omega)) r2 (neqF rfl) t3 w3.l2 (eqlT rfl) w3.l1 a1 (neqF rfl) a2 a3 (neqF rfl) w5.l1 b1 b2 b3 (add64 (by omega)) b4 w8.l2 d1 d2 d3 (neqT hq),wB⟩⟩⟩,kB⟩
 by_cases h0:op=0
 ·subst h0
  by_cases hb:99999999<nx
  ·refine ⟨s1,fv,r,⟨7,r,nx,0,ct,?_,.inl ⟨by decide,rfl,f17_FFTT f1 (neqF rfl) w1.l2 (gtrF (by omega)) w1.l2 (eqlT rfl) w1.l1 (nameR_bad (.inr (by omega))) (neqT (by decide)),w1⟩⟩,kf'⟩
   have:rBeg r nx=(7,r):=by unfold rBeg;rw [if_pos hb]
   unfold RPre;rw [if_neg hfull,if_pos rfl,this,if_pos (show (7:Int)≠0 by decide)];exact ⟨rfl,rfl⟩
  obtain ⟨s4,s5,fv',a1,a2,a3,w5,k5⟩:=rgcreate_ok w1 (hS.fine hu).2 (nx:=nx) (by omega)
  have k5':KeepR st s5 [e,v]:=kf'.trans (k5.weak hev)
  have eb:=rbeg_no (r:=r) hb
  by_cases hz:(rCreate r (nmG nx)).1≠0
  ·refine ⟨_,fv',_,⟨_,_,nx,0,ct,?_,.inl ⟨hz,rfl,f17_FFTFT f1 (neqF rfl) w1.l2 (gtrF (by omega)) w1.l2 (eqlT rfl) w1.l1 a1 (neqF rfl) a2 a3 (neqT hz),w5⟩⟩,k5'⟩
   unfold RPre;rw [if_neg hfull,if_pos rfl,eb,if_pos hz];exact ⟨rfl,rfl⟩
  have hz':=Classical.not_not.1 hz
  rw [hz'] at a3
  obtain ⟨s6,s7,s8,b1,b2,b3,b4,w8,k8⟩:=rapp_beg w5 (by omega)
  have k8':KeepR st s8 [e,v]:=k5'.trans (k8.weak hvv)
  have hSb:=(sim_create hS (nmG nx)).2
  have hub:usedR (rCreate r (nmG nx)).2.F≤U:=Nat.le_trans (used_rCreate hS _) hu
  have o8:OwnR st s8 j (frameL (xs.map Int.ofNat)):=(o1.keep (k5.weak hev) hlt).keep (k8.weak hvv) hlt
  obtain ⟨sA,sB,r',d1,d2,d3,d4,wB,kB⟩:=rapp_tail hw0 w8 k8' (by simp) hlt (hSb.fine hub).2 hU ⟨hn.1,by omega⟩ o8 hcl
  have hP:RPre r nx 0 ct 0 (rCreate r (nmG nx)).2 (nx+1) nx 0:=by
   unfold RPre;rw [if_neg hfull,if_pos rfl,eb,if_neg hz];exact ⟨rfl,rfl⟩
  by_cases hq:rAppE (rCreate r (nmG nx)).2 (nmG nx) (frameL (xs.map Int.ofNat))=0
  ·rw [hq] at d3
   obtain ⟨s9,g1,g2,g3⟩:=rapp_fin wB (by omega)
   exact ⟨s9,fv',r',⟨_,_,_,_,_,hP,.inr ⟨rfl,d4,.inr ⟨hq,f17_FFTFFF f1 (neqF rfl) w1.l2 (gtrF (by omega)) w1.l2 (eqlT rfl) w1.l1 a1 (neqF rfl) a2 a3 (neqF rfl) w5.l1 b1 b2 b3 (add64 (by omega)) b4 w8.l2 d1 d2 d3 (neqF rfl) wB.l3 (add64 (by omega)) g1 g2.l2,g2⟩⟩⟩,kB.trans (g3.weak hvv)⟩
  ·exact ⟨sB,fv',r',⟨_,_,_,_,_,hP,.inr ⟨rfl,d4,.inl ⟨hq,f17_FFTFFT f1 (neqF rfl) w1.l2 (gtrF (by omega)) w1.l2 (eqlT rfl) w1.l1 a1 (neqF rfl) a2 a3 (neqF rfl) w5.l1 b1 b2 b3 (add64 (by omega)) b4 w8.l2 d1 d2 d3 (neqT hq),wB⟩⟩⟩,kB⟩
 ·have hP:RPre r nx op ct 0 r nx op ct:=by unfold RPre;rw [if_neg hfull,if_neg h0];exact ⟨rfl,rfl⟩
  obtain ⟨sA,sB,r',d1,d2,d3,d4,wB,kB⟩:=rapp_tail hw0 w1 kf' (by simp) hlt (hS.fine hu).2 hU ⟨by omega,ho⟩ o1 hcl
  by_cases hq:rAppE r (nmG op) (frameL (xs.map Int.ofNat))=0
  ·rw [hq] at d3
   obtain ⟨s9,g1,g2,g3⟩:=rapp_fin wB (by omega)
   exact ⟨s9,fv,r',⟨_,_,_,_,_,hP,.inr ⟨rfl,d4,.inr ⟨hq,f17_FTFFF f1 (neqF rfl) w1.l2 (gtrT (by omega)) w1.l3 (eqlF (by omega)) w1.l2 (eqlF (by omega)) w1.l2 d1 d2 d3 (neqF rfl) wB.l3 (add64 (by omega)) g1 g2.l2,g2⟩⟩⟩,kB.trans (g3.weak hvv)⟩
  ·exact ⟨sB,fv,r',⟨_,_,_,_,_,hP,.inr ⟨rfl,d4,.inl ⟨hq,f17_FTFFT f1 (neqF rfl) w1.l2 (gtrT (by omega)) w1.l3 (eqlF (by omega)) w1.l2 (eqlF (by omega)) w1.l2 d1 d2 d3 (neqT hq),wB⟩⟩⟩,kB⟩
end
end
section
set_option maxRecDepth 100000
noncomputable def f35P(i:Nat):Code:=match Tryz.f35.body with
 |some (.seq x0 (.seq x1 (.seq x2 (.seq x3 (.seq x4 (.seq x5 (.seq (.seq x6 (.block 0 (.loop x7))) x8)))))))=> [x0,x1,x2,x3,x4,x5,x6,x7,x8].getD i .skip
 |_=> .skip
theorem f35body:Tryz.f35.body=some (.seq (f35P 0) (.seq (f35P 1) (.seq (f35P 2) (.seq (f35P 3) (.seq (f35P 4) (.seq (f35P 5) (.seq (.seq (f35P 6) (.block 0 (.loop (f35P 7)))) (f35P 8)))))))):=by kernel_rfl
def f35L0(T:Tm)(a0 a1 a2:AV):Prop:=T.n=144∧T.get 0=a0∧T.get 1=a1∧T.get 2=a2
theorem f35_0_e(d e:Nat)(x:AV)(st:St):evR gA24 [] (f35P 0) ⟨144,[(0,(pt d)),(1,(pt e)),(2,x)],[]⟩ st []=some (.normal,144,[(pt d),(pt e),x],st,[]):=by kernel_rfl
theorem f35_0{d e:Nat}{x:AV}{st:St}{T:Tm}(hT:f35L0 T (pt d) (pt e) x):AW Tryz.prog (f35P 0) (fun ex T' st'=>ex= .normal∧f35L0 T' (pt d) (pt e) x∧st'=st) T st:=by
 obtain ⟨hn,g0,g1,g2⟩:=hT
 exact genR (f35_0_e d e x st) Ob.ok_nil hn (conz g0 (conz g1 (one g2))) fun T' q2 q3=>by simp only [gA24,List.cons.injEq,and_true] at q3;exact ⟨rfl,⟨q2,q3⟩,rfl⟩
abbrev sL35:List Nat:= [6049,6056,6065,6067,7024,7030,7035,7040,7041,8000]
theorem f35_1_FFF_e(d e:Nat)(x v39 v34:AV)(st s1 s2 s3 s4:St)(b23 b19:Bool)(n27 n29 n40 n35:Int):evR gA24 sL35 (f35P 1) ⟨144,[(0,(pt d)),(1,(pt e)),(2,x)],[]⟩ st [.eff (bo b23) id,.eff (bo b19) (fun _=>s1),.eff FF id,.eff (i64 n27) (fun _=>s2),.eff (i64 n29) (fun _=>s3),.eff FF id,.eff v39 id,.eff (i64 n40) id,.eff v34 (fun _=>s4),.eff (i64 n35) id,.eff FF id]=some (.normal,144,[(pt d),(pt e),x],s4.show (s3.show (s2.show (s1.show st [e]) [e]) [e]) [e],[∀k∈ [e],k<st.next,[e].contains e=true∧loadA E0 st 4 (.ptr e 3)=some (bo b23),(true=true→ [e].all (fun k=>(st.get k).isSome)=true),obC 49 [(pt d)] (st.hide [e]) (bo b19) s1,binA E0 .neq 4 (bo b19) (bo b23)=some FF,(true=true→ [e].all (fun k=>((s1.show st [e]).get k).isSome)=true),obC 65 [(pt d)] ((s1.show st [e]).hide [e]) (i64 n27) s2,(true=true→ [e].all (fun k=>((s2.show (s1.show st [e]) [e]).get k).isSome)=true),obC 67 [(pt e)] ((s2.show (s1.show st [e]) [e]).hide [e]) (i64 n29) s3,Bt 3 .neq n27 n29 FF,[e].contains e=true∧loadA E0 (s3.show (s2.show (s1.show st [e]) [e]) [e]) 96 (pt e)=some v39,lenA E0 96 v39=some (i64 n40),(true=true→ [e].all (fun k=>((s3.show (s2.show (s1.show st [e]) [e]) [e]).get k).isSome)=true),obC 56 [(pt d)] ((s3.show (s2.show (s1.show st [e]) [e]) [e]).hide [e]) v34 s4,lenA E0 101 v34=some (i64 n35),Bt 3 .neq n35 n40 FF]):=by kernel_rfl
theorem f35_1_FFF{d e:Nat}{x v39 v34:AV}{st s1 s2 s3 s4:St}{b23 b19:Bool}{n27 n29 n40 n35:Int}(h1:∀k∈ [e],k<st.next)(h2:loadA E0 st 4 (.ptr e 3)=some (bo b23))(h3: [e].all (fun k=>(st.get k).isSome)=true)(h4:obC 49 [(pt d)] (st.hide [e]) (bo b19) s1)(h5:binA E0 .neq 4 (bo b19) (bo b23)=some FF)(h6: [e].all (fun k=>((s1.show st [e]).get k).isSome)=true)(h7:obC 65 [(pt d)] ((s1.show st [e]).hide [e]) (i64 n27) s2)(h8: [e].all (fun k=>((s2.show (s1.show st [e]) [e]).get k).isSome)=true)(h9:obC 67 [(pt e)] ((s2.show (s1.show st [e]) [e]).hide [e]) (i64 n29) s3)(h10:Bt 3 .neq n27 n29 FF)(h11:loadA E0 (s3.show (s2.show (s1.show st [e]) [e]) [e]) 96 (pt e)=some v39)(h12:lenA E0 96 v39=some (i64 n40))(h13: [e].all (fun k=>((s3.show (s2.show (s1.show st [e]) [e]) [e]).get k).isSome)=true)(h14:obC 56 [(pt d)] ((s3.show (s2.show (s1.show st [e]) [e]) [e]).hide [e]) v34 s4)(h15:lenA E0 101 v34=some (i64 n35))(h16:Bt 3 .neq n35 n40 FF){T:Tm}(hT:f35L0 T (pt d) (pt e) x):AW Tryz.prog (f35P 1) (fun ex T' st'=>ex= .normal∧f35L0 T' (pt d) (pt e) x∧st'=(s4.show (s3.show (s2.show (s1.show st [e]) [e]) [e]) [e])) T st:=by
 obtain ⟨hn,g0,g1,g2⟩:=hT
 exact genR (f35_1_FFF_e d e x v39 v34 st s1 s2 s3 s4 b23 b19 n27 n29 n40 n35) (kk h1 (kk ⟨by simp,h2⟩ (kk (fun _=>h3) (kk h4 (kk h5 (kk (fun _=>h6) (kk h7 (kk (fun _=>h8) (kk h9 (kk h10 (kk ⟨by simp,h11⟩ (kk h12 (kk (fun _=>h13) (kk h14 (kk h15 (kk h16 Ob.ok_nil)))))))))))))))) hn (conz g0 (conz g1 (one g2))) fun T' q2 q3=>by simp only [gA24,List.cons.injEq,and_true] at q3;exact ⟨rfl,⟨q2,q3⟩,rfl⟩
def f35L1(T:Tm)(a0 a1 a2 a7 a8:AV):Prop:=T.n=144∧T.get 0=a0∧T.get 1=a1∧T.get 2=a2∧T.get 7=a7∧T.get 8=a8
abbrev gA47(T:Tm):List AV:= [T.get 0,T.get 1,T.get 2,T.get 7,T.get 8]
theorem f35_2_e(d e p44 p46:Nat)(x:AV)(st s1 s2:St):evR gA47 [6068,6069] (f35P 2) ⟨144,[(0,(pt d)),(1,(pt e)),(2,x)],[]⟩ st [.eff (pt p44) (fun _=>s1),.eff (pt p46) (fun _=>s2)]=some (.normal,144,[(pt d),(pt e),x,(pt p44),(pt p46)],s2,[obC 68 [(pt d)] st (pt p44) s1,obC 69 [(pt e)] s1 (pt p46) s2]):=by kernel_rfl
theorem f35_2{d e p44 p46:Nat}{x:AV}{st s1 s2:St}(h1:obC 68 [(pt d)] st (pt p44) s1)(h2:obC 69 [(pt e)] s1 (pt p46) s2){T:Tm}(hT:f35L0 T (pt d) (pt e) x):AW Tryz.prog (f35P 2) (fun ex T' st'=>ex= .normal∧f35L1 T' (pt d) (pt e) x (pt p44) (pt p46)∧st'=s2) T st:=by
 obtain ⟨hn,g0,g1,g2⟩:=hT
 exact genR (f35_2_e d e p44 p46 x st s1 s2) (kk h1 (kk h2 Ob.ok_nil)) hn (conz g0 (conz g1 (one g2))) fun T' q2 q3=>by simp only [gA47,List.cons.injEq,and_true] at q3;exact ⟨rfl,⟨q2,q3⟩,rfl⟩
theorem f35_3_e(d e d2 e2:Nat)(x:AV)(st s1:St):evR gA47 [6022] (f35P 3) ⟨144,[(0,(pt d)),(1,(pt e)),(2,x),(7,(pt d2)),(8,(pt e2))],[]⟩ st [.eff (.tup []) (fun _=>s1)]=some (.normal,144,[(pt d),(pt e),x,(pt d2),(pt e2)],s1,[obC 22 [(pt d2),x] st (.tup []) s1]):=by kernel_rfl
theorem f35_3{d e d2 e2:Nat}{x:AV}{st s1:St}(h1:obC 22 [(pt d2),x] st (.tup []) s1){T:Tm}(hT:f35L1 T (pt d) (pt e) x (pt d2) (pt e2)):AW Tryz.prog (f35P 3) (fun ex T' st'=>ex= .normal∧f35L1 T' (pt d) (pt e) x (pt d2) (pt e2)∧st'=s1) T st:=by
 obtain ⟨hn,g0,g1,g2,g7,g8⟩:=hT
 exact genR (f35_3_e d e d2 e2 x st s1) (kk h1 Ob.ok_nil) hn (conz g0 (conz g1 (conz g2 (conz g7 (one g8))))) fun T' q2 q3=>by simp only [gA47,List.cons.injEq,and_true] at q3;exact ⟨rfl,⟨q2,q3⟩,rfl⟩
def f35L2(T:Tm)(a0 a1 a7 a8:AV):Prop:=T.n=144∧T.get 0=a0∧T.get 1=a1∧T.get 7=a7∧T.get 8=a8
abbrev gA48(T:Tm):List AV:= [T.get 0,T.get 1,T.get 7,T.get 8]
theorem f35_4_e(d e d2 e2:Nat)(x:AV)(st s1:St):evR gA48 [6023] (f35P 4) ⟨144,[(0,(pt d)),(1,(pt e)),(2,x),(7,(pt d2)),(8,(pt e2))],[]⟩ st [.eff (.tup []) (fun _=>s1)]=some (.normal,144,[(pt d),(pt e),(pt d2),(pt e2)],s1,[obC 23 [(pt e2),x] st (.tup []) s1]):=by kernel_rfl
theorem f35_4{d e d2 e2:Nat}{x:AV}{st s1:St}(h1:obC 23 [(pt e2),x] st (.tup []) s1){T:Tm}(hT:f35L1 T (pt d) (pt e) x (pt d2) (pt e2)):AW Tryz.prog (f35P 4) (fun ex T' st'=>ex= .normal∧f35L2 T' (pt d) (pt e) (pt d2) (pt e2)∧st'=s1) T st:=by
 obtain ⟨hn,g0,g1,g2,g7,g8⟩:=hT
 exact genR (f35_4_e d e d2 e2 x st s1) (kk h1 Ob.ok_nil) hn (conz g0 (conz g1 (conz g2 (conz g7 (one g8))))) fun T' q2 q3=>by simp only [gA48,List.cons.injEq,and_true] at q3;exact ⟨rfl,⟨q2,q3⟩,rfl⟩
def f35L3(T:Tm)(a0 a1 a7 a8 a9:AV):Prop:=T.n=144∧T.get 0=a0∧T.get 1=a1∧T.get 7=a7∧T.get 8=a8∧T.get 9=a9
abbrev gA49(T:Tm):List AV:= [T.get 0,T.get 1,T.get 7,T.get 8,T.get 9]
theorem f35_5_e(d e d2 e2:Nat)(st s1:St)(v54:AV):evR gA49 [6056] (f35P 5) ⟨144,[(0,(pt d)),(1,(pt e)),(7,(pt d2)),(8,(pt e2))],[]⟩ st [.eff v54 (fun _=>s1)]=some (.normal,144,[(pt d),(pt e),(pt d2),(pt e2),v54],s1,[obC 56 [(pt d)] st v54 s1]):=by kernel_rfl
theorem f35_5{d e d2 e2:Nat}{st s1:St}{v54:AV}(h1:obC 56 [(pt d)] st v54 s1){T:Tm}(hT:f35L2 T (pt d) (pt e) (pt d2) (pt e2)):AW Tryz.prog (f35P 5) (fun ex T' st'=>ex= .normal∧f35L3 T' (pt d) (pt e) (pt d2) (pt e2) v54∧st'=s1) T st:=by
 obtain ⟨hn,g0,g1,g7,g8⟩:=hT
 exact genR (f35_5_e d e d2 e2 st s1 v54) (kk h1 Ob.ok_nil) hn (conz g0 (conz g1 (conz g7 (one g8)))) fun T' q2 q3=>by simp only [gA49,List.cons.injEq,and_true] at q3;exact ⟨rfl,⟨q2,q3⟩,rfl⟩
def f35L4(T:Tm)(a0 a1 a7 a8 a9 a58 a59 a60:AV):Prop:=T.n=144∧T.get 0=a0∧T.get 1=a1∧T.get 7=a7∧T.get 8=a8∧T.get 9=a9∧T.get 58=a58∧T.get 59=a59∧T.get 60=a60
abbrev gA50(T:Tm):List AV:= [T.get 0,T.get 1,T.get 7,T.get 8,T.get 9,T.get 58,T.get 59,T.get 60]
theorem f35_6_e(d e d2 e2:Nat)(v9 v58:AV)(st:St)(n59:Int):evR gA50 [2058,7059] (f35P 6) ⟨144,[(0,(pt d)),(1,(pt e)),(7,(pt d2)),(8,(pt e2)),(9,v9)],[]⟩ st [.eff v58 id,.av (i64 n59)]=some (.normal,144,[(pt d),(pt e),(pt d2),(pt e2),v9,v58,(i64 n59),(i64 0)],st,[loadA E0 st 96 (pt e)=some v58∧st=st,lenA E0 96 v58=some (i64 n59)]):=by kernel_rfl
theorem f35_6{d e d2 e2:Nat}{v9 v58:AV}{st:St}{n59:Int}(h1:loadA E0 st 96 (pt e)=some v58)(h2:lenA E0 96 v58=some (i64 n59)){T:Tm}(hT:f35L3 T (pt d) (pt e) (pt d2) (pt e2) v9):AW Tryz.prog (f35P 6) (fun ex T' st'=>ex= .normal∧f35L4 T' (pt d) (pt e) (pt d2) (pt e2) v9 v58 (i64 n59) (i64 0)∧st'=st) T st:=by
 obtain ⟨hn,g0,g1,g7,g8,g9⟩:=hT
 exact genR (f35_6_e d e d2 e2 v9 v58 st n59) (kk ⟨h1,rfl⟩ (kk h2 Ob.ok_nil)) hn (conz g0 (conz g1 (conz g7 (conz g8 (one g9))))) fun T' q2 q3=>by simp only [gA50,List.cons.injEq,and_true] at q3;exact ⟨rfl,⟨q2,q3⟩,rfl⟩
abbrev sL36:List Nat:= [2011,2064,2068,2075,2100,2105,2112,2119,2139,5000,6011,6029,6050,6070,7061,7063,7081,7085,7089,7125,7134,7140,7141,7143,8000]
theorem f35_7_TFFTT_e(d e d2 e2 a11 p81 o81:Nat)(v9 v58 q63 v64 v69a v76a:AV)(n59 n60 n69b n76b n143:Int)(st s1 s2 s3 s4 s5:St)(w68 w75 w82 w84:ByteArray):evR gA50 sL36 (f35P 7) ⟨144,[(0,(pt d)),(1,(pt e)),(7,(pt d2)),(8,(pt e2)),(9,v9),(58,v58),(59,(i64 n59)),(60,(i64 n60))],[]⟩ st [.av TT,.av q63,.eff v64 id,.eff (pt a11) (fun _=>s1),.eff .undef (fun _=>s2),.eff (str w68) id,.eff (.tup [v69a,(i64 n69b)]) (fun _=>s3),.eff (str w75) id,.eff (.tup [v76a,(i64 n76b)]) (fun _=>s4),.eff (.ptr p81 o81) id,.eff (str w82) id,.eff (str w84) id,.eff FF id,.eff FF id,.eff TT (fun _=>s5),.eff TT id,.av (i64 n143)]=some (.normal,144,[(pt d),(pt e),(pt d2),(pt e2),v9,v58,(i64 n59),(i64 n143)],s5.show s4 [p81,a11],[Bt 3 .lss n60 n59 TT,indexAddrA E0 96 v58 (i64 n60)=some q63,loadA E0 st 110 q63=some v64∧st=st,allocA E0 st 110=some ((pt a11),s1),storeA E0 s1 110 (pt a11) v64=some s2,loadA E0 s2 9 (pt a11)=some (str w68)∧s2=s2,obC 29 [(pt d2),(str w68)] s2 (.tup [v69a,(i64 n69b)]) s3,loadA E0 s3 9 (pt a11)=some (str w75)∧s3=s3,obC 50 [(pt e2),(str w75)] s3 (.tup [v76a,(i64 n76b)]) s4,∀k∈ [p81,a11],k<s4.next,indexAddrA E0 101 v9 (i64 n60)=some (.ptr p81 o81),[p81,a11].contains p81=true∧loadA E0 s4 9 (.ptr p81 o81)=some (str w82),[p81,a11].contains a11=true∧loadA E0 s4 9 (pt a11)=some (str w84),binA E0 .neq 9 (str w82) (str w84)=some FF,Bt 3 .neq n69b n76b FF,(true=true→ [p81,a11].all (fun k=>(s4.get k).isSome)=true),obC 11 [v69a,v76a] (s4.hide [p81,a11]) TT s5,loadA E0 (s5.show s4 [p81,a11]) 4 (.ptr e 3)=some TT∧(s5.show s4 [p81,a11])=(s5.show s4 [p81,a11]),Bt 3 .add n60 1 (i64 n143)]):=by kernel_rfl
theorem f35_7_TFFTT{d e d2 e2 a11 p81 o81:Nat}{v9 v58 q63 v64 v69a v76a:AV}{n59 n60 n69b n76b n143:Int}{st s1 s2 s3 s4 s5:St}{w68 w75 w82 w84:ByteArray}(h1:Bt 3 .lss n60 n59 TT)(h2:indexAddrA E0 96 v58 (i64 n60)=some q63)(h3:loadA E0 st 110 q63=some v64)(h4:allocA E0 st 110=some ((pt a11),s1))(h5:storeA E0 s1 110 (pt a11) v64=some s2)(h6:loadA E0 s2 9 (pt a11)=some (str w68))(h7:obC 29 [(pt d2),(str w68)] s2 (.tup [v69a,(i64 n69b)]) s3)(h8:loadA E0 s3 9 (pt a11)=some (str w75))(h9:obC 50 [(pt e2),(str w75)] s3 (.tup [v76a,(i64 n76b)]) s4)(h10:∀k∈ [p81,a11],k<s4.next)(h11:indexAddrA E0 101 v9 (i64 n60)=some (.ptr p81 o81))(h12:loadA E0 s4 9 (.ptr p81 o81)=some (str w82))(h13:loadA E0 s4 9 (pt a11)=some (str w84))(h14:binA E0 .neq 9 (str w82) (str w84)=some FF)(h15:Bt 3 .neq n69b n76b FF)(h16: [p81,a11].all (fun k=>(s4.get k).isSome)=true)(h17:obC 11 [v69a,v76a] (s4.hide [p81,a11]) TT s5)(h18:loadA E0 (s5.show s4 [p81,a11]) 4 (.ptr e 3)=some TT)(h19:Bt 3 .add n60 1 (i64 n143)){T:Tm}(hT:f35L4 T (pt d) (pt e) (pt d2) (pt e2) v9 v58 (i64 n59) (i64 n60)):AW Tryz.prog (f35P 7) (fun ex T' st'=>ex= .normal∧f35L4 T' (pt d) (pt e) (pt d2) (pt e2) v9 v58 (i64 n59) (i64 n143)∧st'=(s5.show s4 [p81,a11])) T st:=by
 obtain ⟨hn,g0,g1,g7,g8,g9,g58,g59,g60⟩:=hT
 exact genR (f35_7_TFFTT_e d e d2 e2 a11 p81 o81 v9 v58 q63 v64 v69a v76a n59 n60 n69b n76b n143 st s1 s2 s3 s4 s5 w68 w75 w82 w84) (kk h1 (kk h2 (kk ⟨h3,rfl⟩ (kk h4 (kk h5 (kk ⟨h6,rfl⟩ (kk h7 (kk ⟨h8,rfl⟩ (kk h9 (kk h10 (kk h11 (kk ⟨by simp,h12⟩ (kk ⟨by simp,h13⟩ (kk h14 (kk h15 (kk (fun _=>h16) (kk h17 (kk ⟨h18,rfl⟩ (kk h19 Ob.ok_nil))))))))))))))))))) hn (conz g0 (conz g1 (conz g7 (conz g8 (conz g9 (conz g58 (conz g59 (one g60)))))))) fun T' q2 q3=>by simp only [gA50,List.cons.injEq,and_true] at q3;exact ⟨rfl,⟨q2,q3⟩,rfl⟩
theorem f35_7_TFFTFFTFF_e(d e d2 e2 a11 p81 o81:Nat)(v9 v58 q63 v64 v69a v76a v106a v113a v139:AV)(n59 n60 n69b n76b n106b n113b n120a n120b n140 n143:Int)(st s1 s2 s3 s4 s5 s6 s7 s8 s9:St)(w68 w75 w82 w84 w105 w112 w119:ByteArray):evR gA50 sL36 (f35P 7) ⟨144,[(0,(pt d)),(1,(pt e)),(7,(pt d2)),(8,(pt e2)),(9,v9),(58,v58),(59,(i64 n59)),(60,(i64 n60))],[]⟩ st [.av TT,.av q63,.eff v64 id,.eff (pt a11) (fun _=>s1),.eff .undef (fun _=>s2),.eff (str w68) id,.eff (.tup [v69a,(i64 n69b)]) (fun _=>s3),.eff (str w75) id,.eff (.tup [v76a,(i64 n76b)]) (fun _=>s4),.eff (.ptr p81 o81) id,.eff (str w82) id,.eff (str w84) id,.eff FF id,.eff FF id,.eff TT (fun _=>s5),.eff FF id,.eff (str w105) id,.eff (.tup [v106a,(i64 n106b)]) (fun _=>s6),.eff (str w112) id,.eff (.tup [v113a,(i64 n113b)]) (fun _=>s7),.eff (str w119) id,.eff (.tup [(i64 n120a),(i64 n120b)]) (fun _=>s8),.av FF,.eff TT (fun _=>s9),.av FF,.eff v139 id,.av (i64 n140),.av FF,.av (i64 n143)]=some (.normal,144,[(pt d),(pt e),(pt d2),(pt e2),v9,v58,(i64 n59),(i64 n143)],s9,[Bt 3 .lss n60 n59 TT,indexAddrA E0 96 v58 (i64 n60)=some q63,loadA E0 st 110 q63=some v64∧st=st,allocA E0 st 110=some ((pt a11),s1),storeA E0 s1 110 (pt a11) v64=some s2,loadA E0 s2 9 (pt a11)=some (str w68)∧s2=s2,obC 29 [(pt d2),(str w68)] s2 (.tup [v69a,(i64 n69b)]) s3,loadA E0 s3 9 (pt a11)=some (str w75)∧s3=s3,obC 50 [(pt e2),(str w75)] s3 (.tup [v76a,(i64 n76b)]) s4,∀k∈ [p81,a11],k<s4.next,indexAddrA E0 101 v9 (i64 n60)=some (.ptr p81 o81),[p81,a11].contains p81=true∧loadA E0 s4 9 (.ptr p81 o81)=some (str w82),[p81,a11].contains a11=true∧loadA E0 s4 9 (pt a11)=some (str w84),binA E0 .neq 9 (str w82) (str w84)=some FF,Bt 3 .neq n69b n76b FF,(true=true→ [p81,a11].all (fun k=>(s4.get k).isSome)=true),obC 11 [v69a,v76a] (s4.hide [p81,a11]) TT s5,loadA E0 (s5.show s4 [p81,a11]) 4 (.ptr e 3)=some FF∧(s5.show s4 [p81,a11])=(s5.show s4 [p81,a11]),loadA E0 (s5.show s4 [p81,a11]) 9 (pt a11)=some (str w105)∧(s5.show s4 [p81,a11])=(s5.show s4 [p81,a11]),obC 29 [(pt d),(str w105)] (s5.show s4 [p81,a11]) (.tup [v106a,(i64 n106b)]) s6,loadA E0 s6 9 (pt a11)=some (str w112)∧s6=s6,obC 50 [(pt e),(str w112)] s6 (.tup [v113a,(i64 n113b)]) s7,loadA E0 s7 9 (pt a11)=some (str w119)∧s7=s7,obC 70 [(pt d),(str w119)] s7 (.tup [(i64 n120a),(i64 n120b)]) s8,Bt 3 .neq n106b n113b FF,obC 11 [v106a,v113a] s8 TT s9,Bt 23 .neq n120b 0 FF,loadA E0 s9 22 (.ptr a11 2)=some v139∧s9=s9,lenA E0 22 v139=some (i64 n140),Bt 3 .neq n120a n140 FF,Bt 3 .add n60 1 (i64 n143)]):=by kernel_rfl
theorem f35_7_TFFTFFTFF{d e d2 e2 a11 p81 o81:Nat}{v9 v58 q63 v64 v69a v76a v106a v113a v139:AV}{n59 n60 n69b n76b n106b n113b n120a n120b n140 n143:Int}{st s1 s2 s3 s4 s5 s6 s7 s8 s9:St}{w68 w75 w82 w84 w105 w112 w119:ByteArray}(h1:Bt 3 .lss n60 n59 TT)(h2:indexAddrA E0 96 v58 (i64 n60)=some q63)(h3:loadA E0 st 110 q63=some v64)(h4:allocA E0 st 110=some ((pt a11),s1))(h5:storeA E0 s1 110 (pt a11) v64=some s2)(h6:loadA E0 s2 9 (pt a11)=some (str w68))(h7:obC 29 [(pt d2),(str w68)] s2 (.tup [v69a,(i64 n69b)]) s3)(h8:loadA E0 s3 9 (pt a11)=some (str w75))(h9:obC 50 [(pt e2),(str w75)] s3 (.tup [v76a,(i64 n76b)]) s4)(h10:∀k∈ [p81,a11],k<s4.next)(h11:indexAddrA E0 101 v9 (i64 n60)=some (.ptr p81 o81))(h12:loadA E0 s4 9 (.ptr p81 o81)=some (str w82))(h13:loadA E0 s4 9 (pt a11)=some (str w84))(h14:binA E0 .neq 9 (str w82) (str w84)=some FF)(h15:Bt 3 .neq n69b n76b FF)(h16: [p81,a11].all (fun k=>(s4.get k).isSome)=true)(h17:obC 11 [v69a,v76a] (s4.hide [p81,a11]) TT s5)(h18:loadA E0 (s5.show s4 [p81,a11]) 4 (.ptr e 3)=some FF)(h19:loadA E0 (s5.show s4 [p81,a11]) 9 (pt a11)=some (str w105))(h20:obC 29 [(pt d),(str w105)] (s5.show s4 [p81,a11]) (.tup [v106a,(i64 n106b)]) s6)(h21:loadA E0 s6 9 (pt a11)=some (str w112))(h22:obC 50 [(pt e),(str w112)] s6 (.tup [v113a,(i64 n113b)]) s7)(h23:loadA E0 s7 9 (pt a11)=some (str w119))(h24:obC 70 [(pt d),(str w119)] s7 (.tup [(i64 n120a),(i64 n120b)]) s8)(h25:Bt 3 .neq n106b n113b FF)(h26:obC 11 [v106a,v113a] s8 TT s9)(h27:Bt 23 .neq n120b 0 FF)(h28:loadA E0 s9 22 (.ptr a11 2)=some v139)(h29:lenA E0 22 v139=some (i64 n140))(h30:Bt 3 .neq n120a n140 FF)(h31:Bt 3 .add n60 1 (i64 n143)){T:Tm}(hT:f35L4 T (pt d) (pt e) (pt d2) (pt e2) v9 v58 (i64 n59) (i64 n60)):AW Tryz.prog (f35P 7) (fun ex T' st'=>ex= .normal∧f35L4 T' (pt d) (pt e) (pt d2) (pt e2) v9 v58 (i64 n59) (i64 n143)∧st'=s9) T st:=by
 obtain ⟨hn,g0,g1,g7,g8,g9,g58,g59,g60⟩:=hT
 exact genR (f35_7_TFFTFFTFF_e d e d2 e2 a11 p81 o81 v9 v58 q63 v64 v69a v76a v106a v113a v139 n59 n60 n69b n76b n106b n113b n120a n120b n140 n143 st s1 s2 s3 s4 s5 s6 s7 s8 s9 w68 w75 w82 w84 w105 w112 w119) (kk h1 (kk h2 (kk ⟨h3,rfl⟩ (kk h4 (kk h5 (kk ⟨h6,rfl⟩ (kk h7 (kk ⟨h8,rfl⟩ (kk h9 (kk h10 (kk h11 (kk ⟨by simp,h12⟩ (kk ⟨by simp,h13⟩ (kk h14 (kk h15 (kk (fun _=>h16) (kk h17 (kk ⟨h18,rfl⟩ (kk ⟨h19,rfl⟩ (kk h20 (kk ⟨h21,rfl⟩ (kk h22 (kk ⟨h23,rfl⟩ (kk h24 (kk h25 (kk h26 (kk h27 (kk ⟨h28,rfl⟩ (kk h29 (kk h30 (kk h31 Ob.ok_nil))))))))))))))))))))))))))))))) hn (conz g0 (conz g1 (conz g7 (conz g8 (conz g9 (conz g58 (conz g59 (one g60)))))))) fun T' q2 q3=>by simp only [gA50,List.cons.injEq,and_true] at q3;exact ⟨rfl,⟨q2,q3⟩,rfl⟩
def f35L5(T:Tm):Prop:=T.n=144
theorem f35_7_F_e(d e d2 e2:Nat)(v9 v58:AV)(n59 n60:Int)(st:St):evR gA8 sL36 (f35P 7) ⟨144,[(0,(pt d)),(1,(pt e)),(7,(pt d2)),(8,(pt e2)),(9,v9),(58,v58),(59,(i64 n59)),(60,(i64 n60))],[]⟩ st [.av FF]=some ((.exit 0),144,[],st,[Bt 3 .lss n60 n59 FF]):=by kernel_rfl
theorem f35_7_F{d e d2 e2:Nat}{v9 v58:AV}{n59 n60:Int}{st:St}(h1:Bt 3 .lss n60 n59 FF){T:Tm}(hT:f35L4 T (pt d) (pt e) (pt d2) (pt e2) v9 v58 (i64 n59) (i64 n60)):AW Tryz.prog (f35P 7) (fun ex T' st'=>ex=(.exit 0)∧f35L5 T'∧st'=st) T st:=by
 obtain ⟨hn,g0,g1,g7,g8,g9,g58,g59,g60⟩:=hT
 exact (gen_run (G:=fun T=>([]:List AV)) hE (f35_7_F_e d e d2 e2 v9 v58 n59 n60 st) (kk h1 Ob.ok_nil) hn (conz g0 (conz g1 (conz g7 (conz g8 (conz g9 (conz g58 (conz g59 (one g60))))))))).mono fun ex T' st' ⟨q1,q2,q3,q4⟩=>by exact ⟨q1,q2,q4⟩
def f35L6(T:Tm)(a6:AV):Prop:=T.n=144∧T.get 6=a6
theorem f35_8_e(st:St):evR gA32 [] (f35P 8) ⟨144,[],[]⟩ st []=some (.ret,144,[TT],st,[]):=by kernel_rfl
theorem f35_8{st:St}{T:Tm}(hT:f35L5 T):AW Tryz.prog (f35P 8) (fun ex T' st'=>ex= .ret∧f35L6 T' TT∧st'=st) T st:=by
 have hn:T.n=144:=hT
 exact genR (f35_8_e st) Ob.ok_nil hn (fun q hq=>by cases hq) fun T' q2 q3=>by simp only [gA32,List.cons.injEq,and_true] at q3;exact ⟨rfl,⟨q2,q3⟩,rfl⟩
end
section
set_option maxRecDepth 4000
theorem OwnB.cells{st:St}{v:AV}{bs:List Int}(h:OwnB st v bs):sliceCells st v=some (bs.length,bs.map u8):=by
 rcases h with ⟨rfl,rfl⟩|⟨rfl,i,rfl,hg⟩|⟨_,i,rfl,hg⟩
 ·rfl
 ·simp only [sliceCells,hg];rfl
 ·simp only [sliceCells,hg]
  rw [if_pos (by simp),List.drop_zero,List.take_of_length_le (by simp)]
theorem cells_rest{st st':St}{v:AV}{r:Nat×List AV}(h:sliceCells st v=some r)(hr:Rest st st' []):sliceCells st' v=some r:=by
 cases v with
 |sl id sz off len f=>
  simp only [sliceCells] at h⊢
  cases hg:st.get id with
  |none=>rw [hg] at h;cases h
  |some o=>
   rw [hg] at h
   rw [hr.keep _ _ (by simp) hg]
   exact h
 |_=>exact h
theorem sim_bytes{f:PF}{g:RF}(h:keyP f=key g):f.bytes=g.lb++g.ob:=by
 simp only [keyP,key,Prod.mk.injEq] at h
 rw [←h.2.1,←h.2.2,List.take_append_drop]
theorem both_read{st:St}{d m e:Nat}{fv:AV}{s:PS}{r:RS}(hS:Sim s r)(hp:PDs st d m s)(hr:RD st e fv r)(hw:st.wf)(hl:st.lock= [])(hu:usedR r.F<1000000000)(n:ByteArray)(hn:n.size≤1000000000000):
  ∃(v w:AV) (s1 s2:St) (bs:List Int),obC 29 [.ptr d 0,str n] st (.tup [v,i64 (thE r n)]) s1∧obC 50 [.ptr e 0,str n] s1 (.tup [w,i64 (thE r n)]) s2∧Rest st s1 []∧Rest s1 s2 []∧
   sliceCells s2 v=some (bs.length,bs.map u8)∧sliceCells s2 w=some (bs.length,bs.map u8):=by
 have hb:(1000000000:Nat)≤big:=by decide
 obtain ⟨v,s1,a1,a2,a3⟩:=read_ok hp hw hl hS.g (by rw [hS.used];omega) n
 rw [hS.err n] at a1 a3
 obtain ⟨w,s2,b1,b2,b3,_⟩:=rread_ok (hr.rest a2 (by simp) (by simp)) a2.wf (a2.lock.trans hl) hS.rgood (by omega) (by have:=hS.len;omega) hn
 have hcase:∃bs:List Int,sliceCells s1 v=some (bs.length,bs.map u8)∧sliceCells s2 w=some (bs.length,bs.map u8):=by
  rcases a3 with ⟨h1,rfl⟩|⟨h0,k,f,h1,h2,h3,_⟩
  ·rcases b3 with ⟨_,rfl⟩|⟨h4,_⟩
   ·exact ⟨[],rfl,rfl⟩
   ·exact absurd h4 h1
  ·obtain ⟨f',g,c1,c2,c3,c4,c5,c6,c7⟩:=hS.there h1
   rw [h2] at c1
   obtain rfl:f=f':=by simpa using c1
   rcases b3 with ⟨h4,rfl⟩|⟨h4,g',d1,d2⟩
   ·exact absurd h0 h4
   ·rw [c3] at d1
    obtain rfl:g=g':=by simpa using d1
    exact ⟨f.bytes,h3.cells,by rw [sim_bytes c6];exact d2.cells⟩
 obtain ⟨bs,c1,c2⟩:=hcase
 exact ⟨v,w,s1,s2,bs,a1,b1,a2,b2,cells_rest c1 b2,c2⟩
end
section
set_option maxRecDepth 4000
theorem newRF{st:St}(hw:st.wf)(hl:st.lock= [])(x y z:AV)(h1:avCells (.agg [x,y,z])=some [x,y,z]):∃s1 s2,allocA E0 st 110=some (.ptr st.next 0,s1)∧storeA E0 s1 110 (.ptr st.next 0) (.agg [x,y,z])=some s2∧s2.get st.next=some (.row [x,y,z] 110)∧Rest st s2 []:=by
 obtain ⟨q,hq,hl3⟩:∃q:List AV,zeroA E0 110=some q∧q.length=3:=by
  have h:(zeroA E0 110).map List.length=some 3:=by kernel_rfl
  obtain ⟨q,a,b⟩:=Option.map_eq_some_iff.1 h
  exact ⟨q,a,b⟩
 have hsz:tySize E0 110=some 3:=by kernel_rfl
 have hg:(st.push (.row q 110)).get st.next=some (.row q 110):=by rw [St.get_push,if_pos rfl]
 have hwg:=St.wget_of hg (show st.next∉(st.push (.row q 110)).lock by show st.next∉st.lock;rw [hl];simp)
 have R:=Rest.push hw (.row q 110) []
 refine ⟨st.push (.row q 110),_,by simp only [allocA,hq],?_,?_,R.old (Rest.set R.wf (R.wf _ _ hg) (.row [x,y,z] 110) (S:= [st.next]) (by simp)) (by simp) hw⟩
 ·simp only [storeA,h1,hwg,hsz]
  rw [if_pos ⟨rfl,by simp [hl3]⟩]
  have hd:List.drop 3 q= []:=List.drop_of_length_le (by omega)
  simp [hd]
 ·rw [St.get_set,if_pos rfl]
theorem avc_rf{g:RF}(h:BV g.lv g.lb∧BV g.ov g.ob):avCells (agg g)=some [str g.name,g.lv,g.ov]:=by
 obtain ⟨h1,h2⟩:=h
 rcases h1 with ⟨_,h1⟩|⟨_,h1⟩<;>rcases h2 with ⟨_,h2⟩|⟨_,h2⟩<;>rw [agg,h1,h2]<;>rfl
theorem hideshow{st:St}(hw:st.wf)(I:List Nat):Rest st ((st.hide I).show st I) []:=(show_rest (Rest.refl (hide_wf hw I) []) (by simp)).1
theorem all_some{st:St}{I:List Nat}(h:∀i∈I,∃o,st.get i=some o):I.all (fun k=>(st.get k).isSome)=true:=by
 rw [List.all_eq_true]
 intro i hi
 obtain ⟨o,ho⟩:=h i hi
 rw [ho];rfl
theorem lenBV{v:AV}{bs:List Int}(h:BV v bs):lenA E0 22 v=some (i64 bs.length):=by
 rcases h with ⟨rfl,rfl⟩|⟨fl,rfl⟩
 ·kernel_rfl
 ·kernel_rfl
theorem idx113{f len i:Nat}{fl:Bool}(h:i<len):indexAddrA E0 96 (.sl f 3 0 len fl) (i64 i)=some (.ptr f (i*3)):=by
 simp only [indexAddrA,ty113,size121]
 rw [if_pos ⟨trivial,by omega,by omega⟩,Nat.zero_add]
 rfl
theorem idx54{f len i:Nat}{fl:Bool}(h:i<len):indexAddrA E0 101 (.sl f 1 0 len fl) (i64 i)=some (.ptr f i):=by
 obtain ⟨q,h1,h2⟩:∃q,E0.ty 101=some q∧q.desc= .slice 9:=⟨_,rfl,by kernel_rfl⟩
 have h3:tySize E0 9=some 1:=by kernel_rfl
 simp only [indexAddrA,h1,h2,h3]
 rw [if_pos ⟨trivial,by omega,by omega⟩,Nat.zero_add,Nat.mul_one]
 rfl
structure AlC (st0:St) (d m e d2 m2 e2 nr:Nat) (fv fv2 v9:AV) (nf:Bool) (s s2:PS) (r r2:RS):Prop where
 wf:st0.wf
 lock:st0.lock= []
 p:PDs st0 d m s
 q:RD st0 e fv r
 p2:PDs st0 d2 m2 s2
 q2:RD st0 e2 fv2 r2
 sim:Sim s r
 sim2:Sim s2 r2
 used:usedR r.F<1000000000
 used2:usedR r2.F<1000000000
 nv:v9= .sl nr 1 0 r.F.length nf
 nrow:st0.get nr=some (.row (r.F.map fun f=>str f.name) 9)
 off2:r2.off=false
def AlR(d e d2 e2:Nat)(v9 fv:AV)(len:Nat)(i:Nat)(p p':St):Prop:=∀T:Tm,f35L4 T (.ptr d 0) (.ptr e 0) (.ptr d2 0) (.ptr e2 0) v9 fv (i64 len) (i64 i)→
 AW Tryz.prog (f35P 7) (fun ex T' st'=>ex= .normal∧f35L4 T' (.ptr d 0) (.ptr e 0) (.ptr d2 0) (.ptr e2 0) v9 fv (i64 len) (i64 ((i+1:Nat):Int))∧st'=p') T p
theorem al_turn{st0:St}{d m e d2 m2 e2 nr:Nat}{fv fv2 v9:AV}{nf:Bool}{s s2:PS}{r r2:RS}(C:AlC st0 d m e d2 m2 e2 nr fv fv2 v9 nf s s2 r r2)(i:Nat)(st:St)(hi:i<r.F.length)(hI:Rest st0 st []):
  ∃st',Rest st0 st' []∧AlR d e d2 e2 v9 fv r.F.length i st st':=by
 have hlock:st.lock= []:=hI.lock.trans C.lock
 have hw:=hI.wf
 have hg:=List.getElem?_eq_getElem hi
 generalize r.F[i]=g at hg
 have hmem:=List.mem_of_getElem? hg
 have hpos:=pos_at C.sim.ord hg
 have hm:=C.sim.may g hmem
 have hnsz:g.name.size≤1000000000000:=by have:=hm.2.1;omega
 have hlen:=C.sim.len
 obtain ⟨f,fl,rfl,hfr⟩:∃f fl,fv= .sl f 3 0 r.F.length fl∧st0.get f=some (.row (cells r.F) 110):=by
  rcases C.q.fv with ⟨h,_⟩|⟨_,f,fl,h1,h2⟩
  ·rw [h] at hi;simp at hi
  ·exact ⟨f,fl,h1,h2⟩
 have a2:loadA E0 st 110 (.ptr f (i*3))=some (agg g):=load_row (hI.keep _ _ (by simp) hfr) (p121' hg)
 have hbv:=C.sim.rgood g hmem
 obtain ⟨s1,t2,a3,a4,a5,R2⟩:=newRF hw hlock (str g.name) g.lv g.ov (avc_rf hbv)
 have l2:t2.lock= []:=R2.lock.trans hlock
 have ld:∀{x:St},Rest t2 x []→loadA E0 x 9 (.ptr st.next 0)=some (str g.name):=fun h=>load_row (h.keep _ _ (by simp) a5) (p9 rfl)
 have R02:=hI.trans R2
 obtain ⟨v,w,s3,s4,bs,b1,b2,R3,R4,c1,c2⟩:=both_read C.sim2 (PD.rest C.p2 R02) (C.q2.rest R02 (by simp) (by simp)) R2.wf l2 C.used2 g.name hnsz
 have R24:=R3.trans R4
 have l4:s4.lock= []:=R24.lock.trans l2
 have hnr:s4.get nr=some (.row (r.F.map fun f=>str f.name) 9):=(R02.trans R24).keep _ _ (by simp) C.nrow
 have ha11:s4.get st.next=some (.row [str g.name,g.lv,g.ov] 110):=R24.keep _ _ (by simp) a5
 have hnm:loadA E0 s4 9 (.ptr nr i)=some (str g.name):=load_row hnr (p9 (by rw [List.getElem?_map,hg];rfl))
 have h10:∀k∈ [nr,st.next],k<s4.next:=fun k hk=>by
  simp only [List.mem_cons,List.not_mem_nil,or_false] at hk
  rcases hk with rfl|rfl
  ·exact R24.wf _ _ hnr
  ·exact R24.wf _ _ ha11
 have h16: [nr,st.next].all (fun k=>(s4.get k).isSome)=true:=all_some fun k hk=>by
  simp only [List.mem_cons,List.not_mem_nil,or_false] at hk
  rcases hk with rfl|rfl
  ·exact ⟨_,hnr⟩
  ·exact ⟨_,ha11⟩
 have hc:∀{u:AV},sliceCells s4 u=some (bs.length,bs.map u8)→sliceCells (s4.hide [nr,st.next]) u=some (bs.length,bs.map u8):=fun h=>h
 have h17:=equal_ok (hc c1) (hc c2)
 have R5:=hideshow R24.wf [nr,st.next]
 have R25:=R24.trans R5
 have R05:=R02.trans R25
 have hlt:binA E0 .lss 3 (i64 i) (i64 r.F.length)=some TT:=lssT (by omega)
 have hadd:binA E0 .add 3 (i64 i) (i64 1)=some (i64 ((i+1:Nat):Int)):=add64 (by omega)
 have hoffl:loadA E0 ((s4.hide [nr,st.next]).show s4 [nr,st.next]) 4 (.ptr e 3)=some (bo r.off):=load_row (R05.keep _ _ (by simp) C.q.row) (p4 rfl)
 have hnv:=C.nv
 subst hnv
 cases hoff:r.off with
 |true=>
  rw [hoff] at hoffl
  refine ⟨_,R05,fun T hT=> ?_⟩
  exact f35_7_TFFTT hlt (idx113 hi) a2 a3 a4 (ld (Rest.refl R2.wf _)) b1 (ld R3) b2 h10 (idx54 hi) hnm (ld R24) (neSF rfl) (neqF rfl) h16 h17 hoffl hadd hT
 |false=>
  rw [hoff] at hoffl
  have l5:=R25.lock.trans l2
  obtain ⟨v',w',s6,s7,bs',k1,k2,R6,R7,k3,k4⟩:=both_read C.sim (PD.rest C.p R05) (C.q.rest R05 (by simp) (by simp)) R25.wf l5 C.used g.name hnsz
  have R57:=R6.trans R7
  have R07:=R05.trans R57
  obtain ⟨s8,f1,R8⟩:=loose_ok (PD.rest C.p R07) R57.wf (R57.lock.trans l5) C.sim.g (by rw [C.sim.used];have:=C.used;have hb:(1000000000:Nat)≤big:=(by decide);omega) g.name
  rw [C.sim.err,sim_loose C.sim] at f1
  have hthere:thE r g.name=0:=by
   unfold thE
   rw [if_neg (by rw [hoff];simp),if_neg (not_not_intro hm),(hit_iff C.sim.ord _).2 ⟨g,hmem,rfl⟩]
   rfl
  have hlo:rLoose r g.name=g.ob.length:=by
   unfold rLoose
   rw [if_neg (by rw [hthere];simp),hpos,hg]
  rw [hthere,hlo] at f1
  rw [hthere] at k1 k2
  have R28:=(R25.trans R57).trans R8
  have ldo:loadA E0 s8 22 (.ptr st.next 2)=some g.ov:=load_row (R28.keep _ _ (by simp) a5) (p28 rfl)
  refine ⟨s8,R02.trans R28,fun T hT=> ?_⟩
  exact f35_7_TFFTFFTFF hlt (idx113 hi) a2 a3 a4 (ld (Rest.refl R2.wf _)) b1 (ld R3) b2 h10 (idx54 hi) hnm (ld R24) (neSF rfl) (neqF rfl) h16 h17 hoffl
   (ld R25) k1 (ld (R25.trans R6)) k2 (ld (R25.trans R57)) f1 (neqF rfl) (equal_ok (cells_rest k3 R8) (cells_rest k4 R8)) (neqF rfl) ldo (lenBV hbv.2) (neqF rfl) hadd hT
end
section
set_option maxRecDepth 4000
theorem lenFV{st:St}{fv:AV}{F:List RF}(h:FV st fv F):lenA E0 96 fv=some (i64 F.length):=by
 rcases h with ⟨rfl,rfl⟩|⟨_,f,fl,rfl,_⟩
 ·kernel_rfl
 ·kernel_rfl
theorem sim_crash{s:PS}{r:RS}(h:Sim s r){ps:List Int}{L':List PF}{F':List RF}(h1:(L'.map keyP).Perm (crL ps 0 (ks r.F)))(h2:F'.map key=crL ps 0 (ks r.F))(hg:∀f∈L',DV f∧f.last≤f.bytes.length)(hr:RGood F'):Sim ⟨L',s.q,0,false⟩ ⟨F',r.q,0,false⟩:=by
 have hn:∀(l:List K) (k:Nat),(crL ps k l).map (·.1)=l.map (·.1):=fun l=>by
  induction l with
  |nil=>intro k;rfl
  |cons f r ih=>
   intro k
   simp only [crL,List.map_cons,ih]
   congr 1
   unfold crK
   split<;>rfl
 have hnames:F'.map RF.name=r.F.map RF.name:=by
  have:(F'.map key).map (·.1)=(ks r.F).map (·.1):=by rw [h2,hn]
  simp only [ks,List.map_map] at this
  exact this
 refine ⟨by rw [show ks F'=F'.map key from rfl,h2];exact h1,by rw [hnames];exact h.ord,fun f hf=> ?_,h.q,rfl,rfl,hg,hr,⟨Int.le_refl 0,(by decide:(0:Int)≤9223372036854775807)⟩,h.qb,?_⟩
 ·obtain ⟨g,hg1,hg2⟩:=List.mem_map.1 (show f.name∈r.F.map RF.name by rw [←hnames];exact List.mem_map.2 ⟨f,hf,rfl⟩)
  rw [←hg2];exact h.may g hg1
 ·have:=congrArg List.length hnames
  simp only [List.length_map] at this
  show F'.length≤4096
  rw [this];exact h.len
theorem sim_names{s:PS}{r:RS}(h:Sim s r):(s.L.map PF.name).Perm (r.F.map RF.name):=by
 have:=h.perm.map (·.1)
 simp only [ks,List.map_map] at this
 exact this
theorem sim_good{s:PS}{r:RS}(h:Sim s r)(hu:usedR r.F<1000000000):∀f∈s.L,DV f∧f.last≤f.bytes.length∧f.bytes.length≤big:=fun f hf=>by
 have hb:(1000000000:Nat)≤big:=by decide
 have h1:f.bytes.length≤usedL s.L:=le_sum (List.mem_map.2 ⟨f,hf,rfl⟩)
 rw [h.used] at h1
 exact ⟨(h.good f hf).1,(h.good f hf).2,by omega⟩
theorem alike_ok{st:St}{d m e:Nat}{fv x:AV}{s:PS}{r:RS}{ps:List Int}(hS:Sim s r)(hp:PDs st d m s)(hr:RD st e fv r)(hw:st.wf)(hl:st.lock= [])(hu:usedR r.F<1000000000)(hx:BP x ps)(hps:PicksOk ps):
  ∃st',obC 35 [.ptr d 0,.ptr e 0,x] st TT st'∧RestF st st' []:=by
 have hb:(1000000000:Nat)≤big:=by decide
 have hlen:=hS.len
 have hord:Ord (r.F.map RF.name):=hS.ord
 have hmay:∀n∈r.F.map RF.name,mayS n:=fun n hn=>by obtain ⟨f,hf,rfl⟩:=List.mem_map.1 hn;exact hS.may f hf
 have c1:=off_ok (st:=st.hide [e]) (d:=d) (m:=m) (s:=s) ⟨hp.row,hp.map⟩
 have R1:=hideshow hw [e]
 generalize hA:(st.hide [e]).show st [e]=sA at R1
 have hpA:=PD.rest hp R1
 have hrA:=hr.rest R1 (by simp) (by simp)
 obtain ⟨bsA,cA,hmA⟩:=hpA.map
 have c2:=used_ok (st:=sA.hide [e]) (d:=d) (m:=m) (L:=s.L) (q:=s.q) (fu:=s.fu) (off:=s.off) hpA.row hmA (fun f hf=>(hS.good f hf).1) (fun i hi=>by
  have hi':i=e:=by simpa [St.hide,R1.lock,hl] using hi
  rw [hi'];exact R1.wf _ _ hrA.row) (by rw [hS.used];exact hu)
 rw [hS.used] at c2
 have P2:Rest (sA.hide [e]) {(sA.hide [e]) with next:=(sA.hide [e]).next+1+bsA.length} []:=⟨fun i o _ h=>h,by show sA.next≤sA.next+1+bsA.length;omega,rfl,rfl,fun i o h=>by have:=R1.wf i o h;show i<sA.next+1+bsA.length;omega⟩
 obtain ⟨s2,c2,P2⟩:∃s2,obC 65 [.ptr d 0] (sA.hide [e]) (i64 (usedR r.F)) s2∧Rest (sA.hide [e]) s2 []:=⟨_,c2,P2⟩
 obtain ⟨R2,_⟩:=show_rest P2 (by simp)
 generalize hB:s2.show sA [e]=sB at R2
 have R02:=R1.trans R2
 have hpB:=PD.rest hpA R2
 have hrB:=hrA.rest R2 (by simp) (by simp)
 have c3:=rused_ok (st:=sB.hide [e]) (hide_RD hrB [e]) (hide_wf R2.wf _) hS.rgood (by omega) hu
 have R3:=hideshow R2.wf [e]
 generalize hC:(sB.hide [e]).show sB [e]=sC at R3
 have R03:=R02.trans R3
 have hpC:=PD.rest hpB R3
 have hrC:=hrB.rest R3 (by simp) (by simp)
 have c4:=names_ok (st:=sC.hide [e]) (d:=d) (m:=m) (s:=s) ⟨hpC.row,hpC.map⟩ (sim_names hS) hord (by simp;omega) hmay
 have P4:=names_rest (hide_wf R3.wf [e]) (r.F.map RF.name)
 obtain ⟨s4,c4,P4⟩:∃s4,obC 56 [.ptr d 0] (sC.hide [e]) (namesV (sC.hide [e]) (r.F.map RF.name)) s4∧Rest (sC.hide [e]) s4 []:=⟨_,c4,P4⟩
 obtain ⟨R4,_⟩:=show_rest P4 (by simp)
 generalize hD:s4.show sC [e]=sD at R4
 have R04:=R03.trans R4
 have hin:∀{z:St},Rest st z []→ [e].all (fun k=>(z.get k).isSome)=true:=fun h=>all_some fun k hk=>by
  obtain rfl:=List.mem_singleton.1 hk
  exact ⟨_,h.keep _ _ (by simp) hr.row⟩
 have run1:∀T:Tm,f35L0 T (.ptr d 0) (.ptr e 0) x→AW Tryz.prog (f35P 1) (fun ex T' st'=>ex= .normal∧f35L0 T' (.ptr d 0) (.ptr e 0) x∧st'=sD) T st:=fun T hT=>by
  subst hA hB hC hD
  exact f35_1_FFF (fun k hk=>by rw [List.mem_singleton.1 hk];exact hw _ _ hr.row) (load_row hr.row (p4 rfl)) (hin (Rest.refl hw _)) c1 (by rw [hS.off];cases r.off<;>kernel_rfl) (hin R1) c2 (hin R02) c3 (neqF rfl) (load_row hrC.row (p113 rfl)) (lenFV hrC.fv) (hin R03) c4 (lenN _ _) (neqF (by simp)) hT
 have hpD:=PD.rest hpC R4
 have hrD:=hrC.rest R4 (by simp) (by simp)
 have lD:sD.lock= []:=R04.lock.trans hl
 obtain ⟨s5,m2,k5,p5,R5,hm2⟩:=dcopy_ok hpD R4.wf lD
 have l5:s5.lock= []:=R5.lock.trans lD
 have R05:=(R04.trans R5).f
 have hp5:=PD.rest hpD R5
 have hr5:=hrD.rest R5 (by simp) (by simp)
 obtain ⟨s6,fv2,F2,k6,q6,hk6,hg6,R6,hf6⟩:=rcopy_ok hr5 R5.wf l5 hS.rgood (by omega) (by omega)
 have l6:s6.lock= []:=R6.lock.trans l5
 have R06:=R05.trans R6
 have hdv:∀f∈s.L,DV f:=fun f hf=>(hS.good f hf).1
 have hp6:=PD.restF hp5 hdv R6 (by simp) (by simp)
 have p6:=PD.restF p5 hdv R6 (by simp) (by simp)
 have hr6:=hr5.restF R5.wf hS.rgood R6 (by simp) (by simp)
 have hMlen:(ks r.F).length=r.F.length:=by simp [ks]
 have hMn:(ks r.F).map (·.1)=r.F.map RF.name:=by simp [ks,List.map_map,Function.comp,key]
 have hxA:ArgP s6 x ps:=by
  rcases hx with h|h
  ·exact .inl h
  ·exact .inr (.inl h)
 obtain ⟨s7,L7,k7,p7,n7,g7,m7,u7,R7⟩:=crash_ok p6 R6.wf l6 (sim_good hS hu) (M:=ks r.F) hS.perm (by rw [hMn];exact hord) (by omega) (fun k hk=>by obtain ⟨f,hf,rfl⟩:=List.mem_map.1 hk;exact hS.may f hf) hxA hps
 have l7:s7.lock= []:=R7.lock.trans l6
 have hd5:sD.next<s5.next:=R5.wf _ _ p5.row
 have hm5:m2<s5.next:=by obtain ⟨_,_,h⟩:=p5.map;exact R5.wf _ _ h
 have hn5:s5.next≤s6.next:=R6.next
 have hne2:s5.next∉ [sD.next,m2]:=by simp only [List.mem_cons,List.not_mem_nil,or_false];omega
 have hnf2:∀i∈fid fv2,i∉ [sD.next,m2]:=fun i hi=>by have:=hf6 i hi;simp only [List.mem_cons,List.not_mem_nil,or_false];omega
 have q7:=q6.rest R7 hne2 hnf2
 have R57:RestF sD s7 []:=((R5.f.trans R6).old R7.f (fun i hi=>by
  simp only [List.mem_cons,List.not_mem_nil,or_false] at hi
  right
  rcases hi with rfl|rfl<;>omega) R4.wf)
 have hu6:usedR F2=usedR r.F:=by rw [usedR_ks,usedR_ks];show ((F2.map key).map klen).sum=_;rw [hk6];rfl
 have hF2:F2.length=r.F.length:=by have:=congrArg List.length hk6;simpa using this
 obtain ⟨s8,F8,k8,q8,hk8,hg8,u8',R8⟩:=rcrash_ok q7 R7.wf l7 hg6 (by show F2.length≤_;omega) (by show usedR F2≤_;omega) hx hps
 have l8:s8.lock= []:=R8.lock.trans l7
 have p8:=PD.restF p7 (fun f hf=>(g7 f hf).1) R8 (by simp only [List.mem_cons,not_or];exact ⟨by omega,fun h=>by have:=hf6 _ h;omega⟩) (by simp only [List.mem_cons,not_or];exact ⟨by omega,fun h=>by have:=hf6 _ h;omega⟩)
 have R48:RestF sD s8 []:=R57.old R8 (fun i hi=>by
  right
  rcases List.mem_cons.1 hi with rfl|hi
  ·omega
  ·have:=hf6 i hi;omega) R4.wf
 have R08:RestF st s8 []:=R04.f.trans R48
 have hp8:=PD.restF hpD hdv R48 (by simp) (by simp)
 have hr8:=hrD.restF R4.wf hS.rgood R48 (by simp) (by simp)
 have hk8':F8.map key=crL ps 0 (ks r.F):=by rw [hk8];show crL ps 0 (F2.map key)=_;rw [hk6];rfl
 have hS8:=sim_crash hS m7 hk8' (fun f hf=>⟨(g7 f hf).1,(g7 f hf).2.1⟩) hg8
 have k9:=names_ok hp8 (sim_names hS) hord (by simp;omega) hmay
 have R9:=names_rest R8.wf (r.F.map RF.name)
 have R09:=R08.trans R9.f
 have hS8q:({s with L:=L7,fu:=0,off:=false}:PS)=⟨L7,s.q,0,false⟩:=rfl
 have turn:∀i p,i<r.F.length→Rest (namesS s8 (r.F.map RF.name)) p []→∃p',Rest (namesS s8 (r.F.map RF.name)) p' []∧AlR d e sD.next s5.next (namesV s8 (r.F.map RF.name)) fv r.F.length i p p':=fun i p hi hI=>by
  have hne:r.F≠ []:=fun h=>by rw [h] at hi;simp at hi
  obtain ⟨a,l,hal⟩:=List.exists_cons_of_ne_nil hne
  have hnv:namesV s8 (r.F.map RF.name)= .sl s8.next 1 0 r.F.length false:=by rw [hal];simp [namesV]
  have hnr:(namesS s8 (r.F.map RF.name)).get s8.next=some (.row (r.F.map fun f=>str f.name) 9):=by
   rw [hal]
   simp only [List.map_cons,namesS]
   rw [St.get_push,if_pos rfl,List.map_map];rfl
  exact al_turn ⟨R9.wf,R9.lock.trans l8,PD.rest hp8 R9,hr8.rest R9 (by simp) (by simp),PD.rest p8 R9,q8.rest R9 (by simp) (by simp),hS,hS8,hu,by show usedR F8<_;have:usedR ({r with F:=F2}:RS).F=usedR F2:=rfl;omega,hnv,hnr,rfl⟩ i p hi hI
 obtain ⟨c,c0,inv,step⟩:=chain_seq (fun _ p=>Rest (namesS s8 (r.F.map RF.name)) p []) (AlR d e sD.next s5.next (namesV s8 (r.F.map RF.name)) fv r.F.length) r.F.length _ (Rest.refl R9.wf _) turn
 have hend:=inv r.F.length (Nat.le_refl _)
 refine ⟨c r.F.length,?_,R09.trans hend.f⟩
 refine ACalls.body (E:=E0) hE Tryz.func35 f35body ?_
 refine .andThen (f35_0 (d:=d) (e:=e) (x:=x) (st:=st) ⟨rfl,rfl,rfl,rfl⟩) fun T1 h1=> ?_
 refine .andThen (run1 T1 h1) fun T2 h2=> ?_
 refine .andThen (f35_2 k5 k6 h2) fun T3 h3=> ?_
 refine .andThen (f35_3 k7 h3) fun T4 h4=> ?_
 refine .andThen (f35_4 k8 h4) fun T5 h5=> ?_
 refine .andThen (f35_5 k9 h5) fun T6 h6=> ?_
 have hr9:=hr8.rest R9 (by simp) (by simp)
 refine .seq (.andThen (f35_6 hr9.load (lenFV hr9.fv) h6) fun T7 h7=> ?_)
 refine (AW.turns (In:=fun i T=>f35L4 T (.ptr d 0) (.ptr e 0) (.ptr sD.next 0) (.ptr s5.next 0) (namesV s8 (r.F.map RF.name)) fv (i64 r.F.length) (i64 i)) (L:=fun T=>f35L5 T) c0.symm h7 (fun i hi T hT=>step i hi T hT) (fun T hT=>f35_7_F (lssF (by omega)) hT)).mono fun ex T8 st8 ⟨q1,q2,q3⟩=> ?_
 subst q1;subst q3
 simp only [thenA]
 refine .atRet (f35_8 q2) fun T9 h9=>⟨[TT],?_,rfl,rfl⟩
 show some [T9.get 6]=_
 rw [h9.2]
end
section
set_option maxRecDepth 8000
def sgs(R:List ByteArray):List Nat:=(R.map numS).filter fun n=>decide (0<n)
def SL(st:St)(v:AV)(K:List Nat):Prop:=Ls st 3 1 v K.length (K.map fun k=>i64 (k:Nat))
def FrN(s0:St)(v:AV)(n:Nat):Prop:=∀id,v= .sl id 1 0 n false→s0.next≤id
theorem sgs_take{R:List ByteArray}{i:Nat}{w:ByteArray}(h:R[i]? =some w):sgs (R.take (i+1))=if 0<numS w then sgs (R.take i)++ [numS w] else sgs (R.take i):=by
 rw [List.take_add_one,h]
 unfold sgs
 rw [List.map_append,List.filter_append]
 show _++List.filter _ [numS w]=_
 by_cases hc:0<numS w
 ·rw [if_pos hc,List.filter_cons_of_pos (by simpa using hc)];rfl
 ·rw [if_neg hc,List.filter_cons_of_neg (by simpa using hc)];simp
theorem sgs_len(R:List ByteArray):(sgs R).length≤R.length:=by
 unfold sgs;exact Nat.le_trans (List.length_filter_le _ _) (by simp)
theorem sl_add{s1 σ:St}{l:AV}{K:List Nat}(hw1:s1.wf)(hR:Rest s1 σ [])(hl:s1.lock= [])(hL:SL σ l K)(hid:FrN s1 l K.length)(hb:K.length+1≤1000000)(k:Nat):
  ∃a σ2 b σ3,buildSliceA E0 σ 73 1 [(0,i64 (k:Nat))]=some (a,σ2)∧appendA E0 σ2 73 73 l a=some (b,σ3)∧SL σ3 b (K++ [k])∧FrN s1 b (K++ [k]).length∧Rest s1 σ3 []:=by
 obtain ⟨σ5,a1,a2,a3,a4,a5,a6,a7⟩:=app_one (c:= [i64 (k:Nat)]) el55 hL hR.wf (hR.lock.trans hl) hb rfl (by decide)
 have hn:=hR.next
 refine ⟨_,_,_,σ5,build55 _ _,a1,?_,?_,⟨fun j o hj ho=>a7 j o (hR.keep _ _ (by simp) ho) fun e=> ?_,by rw [a4];omega,by rw [a3,hl],by rw [a5,hR.gl],a6⟩⟩
 ·unfold SL
  rw [List.map_append,List.length_append]
  exact a2
 ·intro id e
  rw [List.length_append] at e
  cases e;omega
 ·have:=hid j e
  have:=hw1 _ _ ho
  omega
theorem SL.rest{s1 st':St}{l:AV}{K:List Nat}(h:SL s1 l K)(hr:Rest s1 st' []):SL st' l K:=Ls.keep h fun _ _ hg=>hr.keep _ _ (by simp) hg
section
variable {st:St} {w d m nx op ct:Nat} {s:PS}
theorem psegs_ok(h:WA st w d m s nx op ct){R:List ByteArray}(hperm:(s.L.map PF.name).Perm R)(ho:Ord R)(hlen:R.length≤4096)(hmay:∀n∈R,mayS n):
  ∃v st',obC 36 [.ptr w 0] st v st'∧SL st' v (sgs R)∧Rest st st' []∧FrN st v (sgs R).length:=by
 have k1:=names_ok h.disk hperm ho (by omega) hmay
 have R1:=names_rest h.wf R
 have len1:=lenN st R
 have hrow:∀(i:Nat) (u:ByteArray),R[i]? =some u→namesV st R= .sl st.next 1 0 R.length false∧(namesS st R).get st.next=some (.row (R.map str) 9):=fun i u hi=>by
  cases R with
  |nil=>simp at hi
  |cons a r=>exact ⟨rfl,by simp only [namesS];rw [St.get_push,if_pos rfl]⟩
 generalize hs1:namesS st R=s1 at*
 generalize hv1:namesV st R=v1 at*
 have turn:∀(i:Nat) (p:AV×St),i<R.length→(Rest s1 p.2 []∧SL p.2 p.1 (sgs (R.take i))∧FrN s1 p.1 (sgs (R.take i)).length)→∃p':AV×St,(Rest s1 p'.2 []∧SL p'.2 p'.1 (sgs (R.take (i+1)))∧FrN s1 p'.1 (sgs (R.take (i+1))).length)∧
   ∀T,f36L2 T p.1 v1 (i64 R.length) (i64 i)→AW Tryz.prog (f36P 4) (fun ex T' st'=>ex= .normal∧f36L2 T' p'.1 v1 (i64 R.length) (i64 (i+1:Nat))∧st'=p'.2) T p.2:=fun i ⟨l,σ⟩ hi ⟨hR,hL,hid⟩=>by
  simp only at hR hL hid
  have hki:R[i]? =some R[i]:=List.getElem?_eq_getElem hi
  obtain ⟨hnv,hnr⟩:=hrow i _ hki
  have hld:loadA E0 σ 9 (.ptr st.next (0+i*1))=some (str R[i]):=load_row (hR.keep _ _ (by simp) hnr) (p9 (by rw [Nat.zero_add,Nat.mul_one,List.getElem?_map,hki];rfl))
  have hlk:s1.lock= []:=R1.lock.trans h.lock
  obtain ⟨σ1,n1,N1⟩:=numberP_ok hR.wf (hR.lock.trans hlk) R[i]
  have hR1:=hR.trans N1
  have hL1:=hL.rest N1
  rw [sgs_take hki]
  by_cases hp:0<numS R[i]
  ·obtain ⟨a,σ2,b,σ3,b1,b2,b3,b4,b5⟩:=sl_add R1.wf hR1 hlk hL1 hid (by have:=sgs_len (R.take i);have:(R.take i).length≤i:=List.length_take_le _ _;omega) (numS R[i])
   rw [if_pos hp]
   exact ⟨(b,σ3),⟨b5,b3,b4⟩,fun T hT=>f36_4_TT (lssT (by omega)) (by rw [hnv];exact idxS sl69 hi) hld n1 (gtrT (by omega)) b1 b2 (add64 (by omega)) hT⟩
  ·rw [if_neg hp]
   exact ⟨(l,σ1),⟨hR1,hL1,hid⟩,fun T hT=>f36_4_TF (lssT (by omega)) (by rw [hnv];exact idxS sl69 hi) hld n1 (gtrF (by omega)) (add64 (by omega)) hT⟩
 obtain ⟨c,c0,inv,step⟩:=chain_seq (σ:=AV×St) (fun i p=>Rest s1 p.2 []∧SL p.2 p.1 (sgs (R.take i))∧FrN s1 p.1 (sgs (R.take i)).length)
  (fun i p p'=>∀T,f36L2 T p.1 v1 (i64 R.length) (i64 i)→AW Tryz.prog (f36P 4) (fun ex T' st'=>ex= .normal∧f36L2 T' p'.1 v1 (i64 R.length) (i64 (i+1:Nat))∧st'=p'.2) T p.2) R.length (.nils,s1) ⟨Rest.refl R1.wf _,.inl ⟨rfl,rfl,rfl⟩,fun id e=>by cases e⟩ turn
 obtain ⟨e1,e2,e3⟩:=inv R.length (Nat.le_refl _)
 rw [List.take_of_length_le (Nat.le_refl _)] at e2 e3
 refine ⟨(c R.length).1,(c R.length).2,?_,e2,R1.trans e1,fun id e=>Nat.le_trans R1.next (e3 id e)⟩
 refine ACalls.body (E:=E0) hE Tryz.func36 f36body ?_
 refine AW.andThen (f36_0 ⟨rfl,rfl⟩) fun T1 q1=> ?_
 refine AW.andThen (f36_1 q1) fun T2 q2=> ?_
 refine AW.andThen (f36_2 q2) fun T3 q3=> ?_
 refine AW.andThen (AW.andThen (f36_3 h.l0 k1 len1 q3) fun T4 q4=>AW.turns (In:=fun i T=>f36L2 T (c i).1 v1 (i64 R.length) (i64 i)) (L:=fun T=>f36L3 T (c R.length).1) (c:=fun i=>(c i).2) (n:=R.length) (sf:=(c R.length).2) (by rw [c0]) (by rw [c0];exact q4) (fun i hi T hT=>step i hi T hT) (fun T hT=>f36_4_F (lssF (by omega)) hT)) fun T5 q5=> ?_
 refine AW.atRet (f36_5 q5) fun T6 q6=> ?_
 refine ⟨[T6.get 2],rfl,?_⟩
 simp only [oneOrTup]
 exact ⟨q6.2,trivial⟩
end
section
variable {st:St} {v e nx op ct:Nat} {fv:AV} {r:RS}
theorem rsegs_ok(h:RA st v e fv r nx op ct)(hlen:r.F.length≤4096):
  ∃a st',obC 37 [.ptr v 0] st a st'∧SL st' a (sgs (r.F.map RF.name))∧Rest st st' []∧FrN st a (sgs (r.F.map RF.name)).length:=by
 generalize hRn:r.F.map RF.name=R
 have hRl:R.length=r.F.length:=by rw [←hRn];simp
 have turn:∀(i:Nat) (p:AV×St),i<r.F.length→(Rest st p.2 []∧SL p.2 p.1 (sgs (R.take i))∧FrN st p.1 (sgs (R.take i)).length)→∃p':AV×St,(Rest st p'.2 []∧SL p'.2 p'.1 (sgs (R.take (i+1)))∧FrN st p'.1 (sgs (R.take (i+1))).length)∧
   ∀T,f37L2 T (.ptr v 0) p.1 (i64 i)→AW Tryz.prog (f37P 3) (fun ex T' st'=>ex= .normal∧f37L2 T' (.ptr v 0) p'.1 (i64 (i+1:Nat))∧st'=p'.2) T p.2:=fun i ⟨l,σ⟩ hi ⟨hR,hL,hid⟩=>by
  simp only at hR hL hid
  have hfi:r.F[i]? =some r.F[i]:=List.getElem?_eq_getElem hi
  have hki:R[i]? =some r.F[i].name:=by rw [←hRn,List.getElem?_map,hfi];rfl
  have hA:=h.rest hR
  obtain ⟨f,fl,e1,e2⟩:=hA.disk.fv.of hfi
  have hnm:loadA E0 σ 9 (.ptr f (i*3+0))=some (str r.F[i].name):=load_row e2 (p9 (cells_at _ _ _ hfi).1)
  have hlen2:lenA E0 96 fv=some (i64 r.F.length):=lenFV hA.disk.fv
  have hix:indexAddrA E0 96 fv (i64 i)=some (.ptr f (i*3)):=by rw [e1];exact iA113 hi
  have hfa:fieldAddrA E0 110 (.ptr f (i*3)) 0=some (.ptr f (i*3+0)):=by kernel_rfl
  rw [sgs_take hki]
  by_cases hp:0<numS r.F[i].name
  ·obtain ⟨a,σ2,b,σ3,b1,b2,b3,b4,b5⟩:=sl_add h.wf hR h.lock hL hid (by have:=sgs_len (R.take i);have:(R.take i).length≤i:=List.length_take_le _ _;omega) (numS r.F[i].name)
   rw [if_pos hp]
   exact ⟨(b,σ3),⟨b5,b3,b4⟩,fun T hT=>f37_3_TT hA.l0 hA.disk.load hlen2 (lssT (by omega)) hA.l0 hA.disk.load hix hfa hnm (numberR_ok σ _) (gtrT (by omega)) b1 b2 (add64 (by omega)) hT⟩
  ·rw [if_neg hp]
   exact ⟨(l,σ),⟨hR,hL,hid⟩,fun T hT=>f37_3_TF hA.l0 hA.disk.load hlen2 (lssT (by omega)) hA.l0 hA.disk.load hix hfa hnm (numberR_ok σ _) (gtrF (by omega)) (add64 (by omega)) hT⟩
 obtain ⟨c,c0,inv,step⟩:=chain_seq (σ:=AV×St) (fun i p=>Rest st p.2 []∧SL p.2 p.1 (sgs (R.take i))∧FrN st p.1 (sgs (R.take i)).length)
  (fun i p p'=>∀T,f37L2 T (.ptr v 0) p.1 (i64 i)→AW Tryz.prog (f37P 3) (fun ex T' st'=>ex= .normal∧f37L2 T' (.ptr v 0) p'.1 (i64 (i+1:Nat))∧st'=p'.2) T p.2) r.F.length (.nils,st) ⟨Rest.refl h.wf _,.inl ⟨rfl,rfl,rfl⟩,fun id e=>by cases e⟩ turn
 obtain ⟨e1,e2,e3⟩:=inv r.F.length (Nat.le_refl _)
 rw [List.take_of_length_le (by omega)] at e2 e3
 have hE1:=h.rest e1
 refine ⟨(c r.F.length).1,(c r.F.length).2,?_,e2,e1,e3⟩
 refine ACalls.body (E:=E0) hE Tryz.func37 f37body ?_
 refine AW.andThen (f37_0 ⟨rfl,rfl⟩) fun T1 q1=> ?_
 refine AW.andThen (f37_1 q1) fun T2 q2=> ?_
 refine AW.andThen (AW.andThen (f37_2 q2) fun T4 q4=>AW.turns (In:=fun i T=>f37L2 T (.ptr v 0) (c i).1 (i64 i)) (L:=fun T=>f37L3 T (c r.F.length).1) (c:=fun i=>(c i).2) (n:=r.F.length) (sf:=(c r.F.length).2) (by rw [c0]) (by rw [c0];exact q4) (fun i hi T hT=>step i hi T hT) (fun T hT=>f37_3_F hE1.l0 hE1.disk.load (lenFV hE1.disk.fv) (lssF (by omega)) hT)) fun T5 q5=> ?_
 refine AW.atRet (f37_4 q5) fun T6 q6=> ?_
 refine ⟨_,rfl,?_⟩
 simp only [oneOrTup]
 exact ⟨q6.2,trivial⟩
end
end
section
set_option maxRecDepth 8000
def LoopIn(P:Program)(c:Code)(Q:Exit→Tm→St→Prop):Nat→Tm→St→Prop
 |0=>fun _ _=>False
 |k+1=>fun T st=>AW P c (thenA (LoopIn P c Q k) Q) T st
theorem AW.loopIn{P:Program}{c:Code}{Q:Exit→Tm→St→Prop}{k:Nat}{T:Tm}{st:St}(h:LoopIn P c Q k T st):AW P (.loop c) Q T st:=by
 refine AW.loop (LoopIn P c Q) k h fun n T st hI=> ?_
 cases n with
 |zero=>exact hI.elim
 |succ m=>
  refine AW.mono hI fun ex T' st' hq=> ?_
  cases ex with
  |normal=>exact ⟨m,Nat.lt_succ_self m,hq⟩
  |_=>exact hq
theorem LoopIn.go{P:Program}{c:Code}{Q:Exit→Tm→St→Prop}{k:Nat}{T:Tm}{st s:St}{L:Tm→Prop}(h:AW P c (fun ex T' z=>ex= .normal∧L T'∧z=s) T st)(hk:∀T',L T'→LoopIn P c Q k T' s):LoopIn P c Q (k+1) T st:=
 AW.mono h fun ex T' z ⟨h1,h2,h3⟩=>by subst h1;subst h3;exact hk T' h2
theorem LoopIn.out{P:Program}{c:Code}{Q:Exit→Tm→St→Prop}{k:Nat}{T:Tm}{st s:St}{L:Tm→Prop}{e:Exit}(he:e≠ .normal)(h:AW P c (fun ex T' z=>ex=e∧L T'∧z=s) T st)(hk:∀T',L T'→Q e T' s):LoopIn P c Q (k+1) T st:=
 AW.mono h fun ex T' z ⟨h1,h2,h3⟩=>by
  subst h1;subst h3
  cases ex with
  |normal=>exact absurd rfl he
  |_=>exact hk T' h2
theorem AW.loopOr{P:Program}{a c b:Code}{id:Nat}{Q:Exit→Tm→St→Prop}{L0 L R:Tm→Prop}{T:Tm}{st s0 s:St}(h0:AW P a (fun ex T' z=>ex= .normal∧L0 T'∧z=s0) T st)(h:∀T,L0 T→AW P (.loop c) (fun ex T' z=>z=s∧((ex= .exit id∧L T')∨(ex= .ret∧R T'))) T s0)(k:∀T',L T'→AW P b Q T' s)(kr:∀T',R T'→Q .ret T' s):AW P (.seq (.seq a (.block id (.loop c))) b) Q T st:=by
 refine .seq (.seq (h0.mono fun ex T0 z ⟨h1,h2,h3⟩=> ?_))
 subst h1;subst h3
 refine AW.block ((h T0 h2).mono fun ex T' z ⟨h1,h2⟩=> ?_)
 subst h1
 rcases h2 with ⟨rfl,h2⟩|⟨rfl,h2⟩
 ·simp only [blockA,if_true]
  exact k T' h2
 ·exact kr T' h2
end
section
set_option maxRecDepth 8000
def gRet(op:Nat)(bf:Int):List Nat→PS→Int×PS
 | [],s=>(0,s)
 |k::K,s=>if bf≤k∨k=op then gRet op bf K s else if (pRemove s (nmG k)).1≠0 then pRemove s (nmG k) else gRet op bf K (pRemove s (nmG k)).2
def rRet(op:Nat)(bf:Int):List Nat→RS→Int×RS
 | [],r=>(0,r)
 |k::K,r=>if bf≤k∨k=op then rRet op bf K r else if (rRemove r (nmG k)).1≠0 then rRemove r (nmG k) else rRet op bf K (rRemove r (nmG k)).2
theorem sim_ret(op:Nat)(bf:Int):∀(K:List Nat) {s:PS} {r:RS},Sim s r→(gRet op bf K s).1=(rRet op bf K r).1∧Sim (gRet op bf K s).2 (rRet op bf K r).2
 | [],s,r,h=>⟨rfl,h⟩
 |k::K,s,r,h=>by
  obtain ⟨h1,h2⟩:=sim_remove h (nmG k)
  unfold gRet rRet
  by_cases hc:bf≤k∨k=op
  ·rw [if_pos hc,if_pos hc];exact sim_ret op bf K h
  rw [if_neg hc,if_neg hc,h1]
  by_cases he:(rRemove r (nmG k)).1≠0
  ·rw [if_pos he,if_pos he];exact ⟨h1,h2⟩
  ·rw [if_neg he,if_neg he];exact sim_ret op bf K h2
theorem used_rRet(op:Nat)(bf:Int):∀(K:List Nat) {s:PS} {r:RS},Sim s r→usedR (rRet op bf K r).2.F≤usedR r.F
 | [],s,r,_=>Nat.le_refl _
 |k::K,s,r,h=>by
  have h2:=(sim_remove h (nmG k)).2
  have h3:=used_rRemove h (nmG k)
  unfold rRet
  by_cases hc:bf≤k∨k=op
  ·rw [if_pos hc];exact used_rRet op bf K h
  rw [if_neg hc]
  by_cases he:(rRemove r (nmG k)).1≠0
  ·rw [if_pos he];exact h3
  ·rw [if_neg he];exact Nat.le_trans (used_rRet op bf K h2) h3
theorem drop_get{α:Type}{K:List α}{i:Nat}{k:α}{K':List α}(h:K.drop i=k::K'):K[i]? =some k∧i<K.length∧K.drop (i+1)=K':=by
 have h1:(K.drop i)[0]? =some k:=by rw [h];rfl
 rw [List.getElem?_drop] at h1
 have h2:i<K.length:=by
  have:=List.getElem?_eq_some_iff.1 h1
  exact this.1
 refine ⟨h1,h2,?_⟩
 rw [List.drop_eq_getElem_cons h2] at h
 exact (List.cons.inj h).2
theorem drop_end{α:Type}{K:List α}{i:Nat}(h:K.drop i= [])(hi:i≤K.length):i=K.length:=by
 have:=List.drop_eq_nil_iff.1 h;omega
theorem SL.at{s1 σ:St}{l:AV}{K:List Nat}(h:SL s1 l K){i k:Nat}(hk:K[i]? =some k)(hkeep:∀id,s1.get id=some (.row (K.map fun k=>i64 (k:Nat)) 3)→σ.get id=some (.row (K.map fun k=>i64 (k:Nat)) 3)):∃id,indexAddrA E0 73 l (i64 i)=some (.ptr id (0+i*1))∧loadA E0 σ 3 (.ptr id (0+i*1))=some (i64 k)∧id<σ.next∨¬σ.wf:=by
 have hi:i<K.length:=(List.getElem?_eq_some_iff.1 hk).1
 rcases h with ⟨e,_⟩|⟨_,_,id,rfl,hg⟩
 ·omega
 by_cases hw:σ.wf
 ·have hg2:=hkeep id hg
  refine ⟨id,.inl ⟨idxS sl55 hi,load_row hg2 (p3 (by rw [Nat.zero_add,Nat.mul_one,List.getElem?_map,hk];rfl)),hw _ _ hg2⟩⟩
 ·exact ⟨0,.inr hw⟩
section
variable {st:St} {w d m nx op ct:Nat} {s:PS}
theorem WA.nrow{id:Nat}{vs:List AV}(h:WA st w d m s nx op ct)(hg:st.get id=some (.row vs 3)):id∉ [d,m]:=by
 simp only [List.mem_cons,List.not_mem_nil,or_false]
 rintro (e|e)
 ·rw [e,h.disk.row] at hg;simp at hg
 ·obtain ⟨_,_,hm⟩:=h.disk.map
  rw [e,hm] at hg;cases hg
theorem gret_loop{s1:St}{v:AV}{K:List Nat}{bf:Int}(h1:WA s1 w d m s nx op ct)(hgl:GT s1)(hv:SL s1 v K)(hK:∀k∈K,1≤k∧k≤99999999)(hKl:K.length≤4096):∀(K':List Nat) (i:Nat) (σ:St) (si:PS),K.drop i=K'→i≤K.length→Good si→WA σ w d m si nx op ct→Rest s1 σ [d,m]→
  ∃σ',WA σ' w d m (gRet op bf K' si).2 nx op ct∧Rest s1 σ' [d,m]∧∀T,f20L1 T (.ptr w 0) (i64 bf) v (i64 K.length) (i64 i)→
   LoopIn Tryz.prog (f20P 3) (fun ex T' z=>z=σ'∧((ex= .exit 0∧((gRet op bf K' si).1=0∧f20L3 T'))∨(ex= .ret∧f20L2 T' (i64 (gRet op bf K' si).1)))) (K'.length+1) T σ
 | [],i,σ,si,hd,hi,_,hW,hR=>⟨σ,hW,hR,fun T hT=>by
   have:=drop_end hd hi
   exact LoopIn.out (by simp) (f20_3_F (lssF (by omega)) hT) fun T' q=>⟨rfl,.inl ⟨rfl,rfl,q⟩⟩⟩
 |k::K',i,σ,si,hd,hi,hG,hW,hR=>by
  obtain ⟨hk,hlt,hd'⟩:=drop_get hd
  have hk9:=hK k (List.mem_of_getElem? hk)
  obtain ⟨id,hc|hc⟩:=hv.at hk (fun id hg=>hR.keep id _ (h1.nrow hg) hg)
  rotate_left
  ·exact absurd hR.wf hc
  obtain ⟨x1,x2,_⟩:=hc
  unfold gRet
  by_cases hb:bf≤k
  ·rw [if_pos (.inl hb)]
   obtain ⟨σ',a1,a2,a3⟩:=gret_loop h1 hgl hv hK hKl K' (i+1) σ si hd' hlt hG hW hR
   exact ⟨σ',a1,a2,fun T hT=> .go (f20_3_TT (lssT (by omega)) x1 x2 (geqT hb) (add64 (by omega)) hT) fun T' q=>a3 T' q⟩
  by_cases ho:k=op
  ·rw [if_pos (.inr ho)]
   obtain ⟨σ',a1,a2,a3⟩:=gret_loop h1 hgl hv hK hKl K' (i+1) σ si hd' hlt hG hW hR
   exact ⟨σ',a1,a2,fun T hT=> .go (f20_3_TFT (lssT (by omega)) x1 x2 (geqF hb) hW.l2 (eqlT (by omega)) (add64 (by omega)) hT) fun T' q=>a3 T' q⟩
  rw [if_neg (fun e=>e.elim hb ho)]
  obtain ⟨σ1,n1,N1⟩:=nameP_ok hW.wf (hR.gl.trans hgl) (n:=k) hk9.1 hk9.2
  have w1:=hW.rest N1
  obtain ⟨σ2,r2,p2,R2⟩:=remove_ok w1.disk w1.wf w1.lock hG (nmG k)
  have w2:=w1.disk' p2 R2
  have hR2:=hR.trans ((N1.weak (by simp)).trans R2)
  by_cases he:(pRemove si (nmG k)).1≠0
  ·rw [if_pos he]
   exact ⟨σ2,w2,hR2,fun T hT=> .out (by simp) (f20_3_TFFT (lssT (by omega)) x1 x2 (geqF hb) hW.l2 (eqlF (by omega)) n1 w1.l0 r2 (neqT he) hT) fun T' q=>⟨rfl,.inr ⟨rfl,q⟩⟩⟩
  ·rw [if_neg he]
   have hG2:Good (pRemove si (nmG k)).2:=by
    unfold pRemove
    split
    ·exact hG
    ·split
     ·exact ⟨hG.dv,burnN_b hG.fu⟩
     ·exact ⟨fun f hf=>hG.dv f ((List.eraseIdx_sublist _ _).subset hf),burnN_b hG.fu⟩
   rw [Classical.not_not.1 he] at r2
   obtain ⟨σ',a1,a2,a3⟩:=gret_loop h1 hgl hv hK hKl K' (i+1) σ2 _ hd' hlt hG2 w2 hR2
   exact ⟨σ',a1,a2,fun T hT=> .go (f20_3_TFFF (lssT (by omega)) x1 x2 (geqF hb) hW.l2 (eqlF (by omega)) n1 w1.l0 r2 (neqF rfl) (add64 (by omega)) hT) fun T' q=>a3 T' q⟩
theorem sgs_ok(R:List ByteArray):∀k∈sgs R,1≤k∧k≤99999999:=fun k hk=>by
 unfold sgs at hk
 obtain ⟨h1,h2⟩:=List.mem_filter.1 hk
 obtain ⟨w,_,rfl⟩:=List.mem_map.1 h1
 have h2:0<numS w:=by simpa using h2
 exact ⟨h2,(nmG_numS h2).2⟩
theorem gretire_ok{R:List ByteArray}{bf:Int}(h:WA st w d m s nx op ct)(hgl:GT st)(hG:Good s)(hperm:(s.L.map PF.name).Perm R)(ho:Ord R)(hlen:R.length≤4096)(hmay:∀n∈R,mayS n):
  ∃st',obC 20 [.ptr w 0,i64 bf] st (i64 (gRet op bf (sgs R) s).1) st'∧WA st' w d m (gRet op bf (sgs R) s).2 nx op ct∧Rest st st' [d,m]:=by
 obtain ⟨v,s1,b1,b2,b3,_⟩:=psegs_ok h hperm ho hlen hmay
 have h1:=h.rest b3
 obtain ⟨σ',a1,a2,a3⟩:=gret_loop (bf:=bf) h1 (b3.gl.trans hgl) b2 (sgs_ok R) (Nat.le_trans (sgs_len R) hlen) (sgs R) 0 s1 s (List.drop_zero ..) (Nat.zero_le _) hG h1 (Rest.refl b3.wf _)
 refine ⟨σ',?_,a1,(b3.weak (by simp)).trans a2⟩
 refine ACalls.body (E:=E0) hE Tryz.func20 f20body ?_
 refine AW.andThen (f20_0 ⟨rfl,rfl,rfl⟩) fun T1 q1=> ?_
 refine AW.andThen (f20_1 h.l0 q1) fun T2 q2=> ?_
 refine AW.loopOr (f20_2 b1 (Ls.len sl55 b2) q2) (fun T3 q3=>AW.loopIn (a3 T3 q3)) (fun T4 q4=> ?_) (fun T4 q4=> ?_)
 ·rw [q4.1]
  refine AW.atRet (f20_4 q4.2) fun T5 q5=> ?_
  refine ⟨[T5.get 4],rfl,?_⟩
  simp only [oneOrTup]
  exact ⟨q5.2,trivial⟩
 ·refine ⟨[T4.get 4],rfl,?_⟩
  simp only [oneOrTup]
  exact ⟨q4.2,trivial⟩
end
end
section
set_option maxRecDepth 8000
theorem plain_i64(K:List Nat)(ty:Nat):Plain (.row (K.map fun k=>i64 (k:Nat)) ty):=fun id vs=>by
 simp only [frzO,frzL_eq,List.map_map]
 congr 1
section
variable {v e nx op ct:Nat}
theorem RA.nrow{st:St}{fv:AV}{r:RS}{id:Nat}{vs:List AV}(h:RA st v e fv r nx op ct)(hg:st.get id=some (.row vs 3)):id∉ [e]:=by
 simp only [List.mem_singleton]
 intro q
 rw [q,h.disk.row] at hg;simp at hg
theorem rret_loop{s1:St}{fv1 l:AV}{r1:RS}{K:List Nat}{bf:Int}(h1:RA s1 v e fv1 r1 nx op ct)(hv:SL s1 l K)(hK:∀k∈K,1≤k∧k≤99999999)(hKl:K.length≤4096):∀(K':List Nat) (i:Nat) (σ:St) (fv:AV) (si:PS) (ri:RS),K.drop i=K'→i≤K.length→Sim si ri→RA σ v e fv ri nx op ct→KeepR s1 σ [e]→
  ∃σ' fv',RA σ' v e fv' (rRet op bf K' ri).2 nx op ct∧KeepR s1 σ' [e]∧∀T,f21L2 T (.ptr v 0) (i64 bf) l (i64 i)→
   LoopIn Tryz.prog (f21P 3) (fun ex T' z=>z=σ'∧((ex= .exit 0∧((rRet op bf K' ri).1=0∧f21L4 T'))∨(ex= .ret∧f21L3 T' (i64 (rRet op bf K' ri).1)))) (K'.length+1) T σ
 | [],i,σ,fv,si,ri,hd,hi,_,hW,hR=>⟨σ,fv,hW,hR,fun T hT=>by
   have:=drop_end hd hi
   exact LoopIn.out (by simp) (f21_3_F (Ls.len sl55 hv) (lssF (by omega)) hT) fun T' q=>⟨rfl,.inl ⟨rfl,rfl,q⟩⟩⟩
 |k::K',i,σ,fv,si,ri,hd,hi,hS,hW,hR=>by
  obtain ⟨hk,hlt,hd'⟩:=drop_get hd
  have hk9:=hK k (List.mem_of_getElem? hk)
  obtain ⟨id,hc|hc⟩:=hv.at hk (fun id hg=>hR.keep id _ (h1.nrow hg) (fun vs q=>by cases q) hg fun id vs _=>plain_i64 K 3 id vs)
  rotate_left
  ·exact absurd hR.wf hc
  obtain ⟨x1,x2,x3⟩:=hc
  have hln:lenA E0 73 l=some (i64 K.length):=Ls.len sl55 hv
  have hvn:v<σ.next:=hW.wf _ _ hW.row
  unfold rRet
  by_cases hb:bf≤k
  ·rw [if_pos (.inl hb)]
   obtain ⟨σ',fv',a1,a2,a3⟩:=rret_loop h1 hv hK hKl K' (i+1) σ fv si ri hd' hlt hS hW hR
   exact ⟨σ',fv',a1,a2,fun T hT=> .go (f21_3_TF hln (lssT (by omega)) (by simpa using x3) x1 x2 (lssF (by omega)) (add64 (by omega)) hT) fun T' q=>a3 T' q⟩
  by_cases ho:k=op
  ·rw [if_pos (.inr ho)]
   obtain ⟨σ',fv',a1,a2,a3⟩:=rret_loop h1 hv hK hKl K' (i+1) σ fv si ri hd' hlt hS hW hR
   exact ⟨σ',fv',a1,a2,fun T hT=> .go (f21_3_TTF hln (lssT (by omega)) (by simp [x3,hvn]) x1 x2 (lssT (by omega)) x1 x2 hW.l2 (neqF (by omega)) (add64 (by omega)) hT) fun T' q=>a3 T' q⟩
  rw [if_neg (fun e=>e.elim hb ho)]
  obtain ⟨σ1,n1,N1⟩:=nameR_ok hW.wf hW.lock (n:=k) hk9.1 hk9.2
  have w1:=hW.rest N1
  obtain ⟨σ2,fv2,r2,p2,R2⟩:=rremove_ok w1.disk w1.wf w1.lock (by have:=hS.len;omega) (by rw [←hS.fu];exact hS.fub) (nmG_small k)
  have kr:=R2.f.rd w1.disk
  have hrow2:σ2.get v=some (.row [.ptr e 0,i64 nx,i64 op,i64 ct] 71):=kr.keep v _ (by simp [hW.ve]) (fun vs q=>by cases q) w1.row fun _ _ _=>rfl
  have w2:RA σ2 v e fv2 (rRemove ri (nmG k)).2 nx op ct:=⟨p2,hrow2,R2.wf,R2.lock.trans w1.lock⟩
  have hR2:=hR.trans ((N1.f.r.weak (by simp)).trans kr)
  by_cases he:(rRemove ri (nmG k)).1≠0
  ·rw [if_pos he]
   exact ⟨σ2,fv2,w2,hR2,fun T hT=> .out (by simp) (f21_3_TTTT hln (lssT (by omega)) (by simp [x3,hvn]) x1 x2 (lssT (by omega)) x1 x2 hW.l2 (neqT (by omega)) x1 x2 n1 w1.l0 r2 (neqT he) hT) fun T' q=>⟨rfl,.inr ⟨rfl,q⟩⟩⟩
  ·rw [if_neg he]
   rw [Classical.not_not.1 he] at r2
   obtain ⟨σ',fv',a1,a2,a3⟩:=rret_loop h1 hv hK hKl K' (i+1) σ2 fv2 _ _ hd' hlt (sim_remove hS (nmG k)).2 w2 hR2
   exact ⟨σ',fv',a1,a2,fun T hT=> .go (f21_3_TTTF hln (lssT (by omega)) (by simp [x3,hvn]) x1 x2 (lssT (by omega)) x1 x2 hW.l2 (neqT (by omega)) x1 x2 n1 w1.l0 r2 (neqF rfl) (add64 (by omega)) hT) fun T' q=>a3 T' q⟩
theorem rgretire_ok{st:St}{fv:AV}{r:RS}{s:PS}{bf:Int}(h:RA st v e fv r nx op ct)(hS:Sim s r):
  ∃st' fv',obC 21 [.ptr v 0,i64 bf] st (i64 (rRet op bf (sgs (r.F.map RF.name)) r).1) st'∧RA st' v e fv' (rRet op bf (sgs (r.F.map RF.name)) r).2 nx op ct∧KeepR st st' [e]:=by
 obtain ⟨l,s1,b1,b2,b3,_⟩:=rsegs_ok h hS.len
 have h1:=h.rest b3
 have hl:(sgs (r.F.map RF.name)).length≤4096:=Nat.le_trans (sgs_len _) (by rw [List.length_map];exact hS.len)
 obtain ⟨σ',fv',a1,a2,a3⟩:=rret_loop (bf:=bf) h1 b2 (sgs_ok _) hl (sgs (r.F.map RF.name)) 0 s1 fv s r (List.drop_zero ..) (Nat.zero_le _) hS h1 (RestF.refl b3.wf _).r
 refine ⟨σ',fv',?_,a1,(b3.f.r.weak (by simp)).trans a2⟩
 refine ACalls.body (E:=E0) hE Tryz.func21 f21body ?_
 refine AW.andThen (f21_0 ⟨rfl,rfl,rfl⟩) fun T1 q1=> ?_
 refine AW.andThen (f21_1 b1 q1) fun T2 q2=> ?_
 refine AW.loopOr (f21_2 q2) (fun T3 q3=>AW.loopIn (a3 T3 q3)) (fun T4 q4=> ?_) (fun T4 q4=> ?_)
 ·rw [q4.1]
  refine AW.atRet (f21_4 q4.2) fun T5 q5=> ?_
  refine ⟨_,rfl,?_⟩
  simp only [oneOrTup]
  exact ⟨q5.2,trivial⟩
 ·refine ⟨_,rfl,?_⟩
  simp only [oneOrTup]
  exact ⟨q4.2,trivial⟩
end
end
section
set_option maxRecDepth 100000
end
section
set_option maxRecDepth 8000
end
section
set_option maxRecDepth 8000
theorem splitN_size:∀(k:Nat) (bs:List Int),9*(splitN k bs).length≤bs.length∧∀d∈splitN k bs,d.length≤4096
 |0,bs=>by simp [splitN]
 |k+1,bs=>by
  simp only [splitN]
  cases hp:parse1 bs with
  |none=>simp
  |some p=>
   have h1:=parse1_len hp
   obtain ⟨i1,i2⟩:=splitN_size k p.2
   refine ⟨by simp only [List.length_cons];omega,fun d hd=> ?_⟩
   rcases List.mem_cons.1 hd with rfl|hd
   ·unfold parse1 at hp
    split at hp
    ·cases hp
    split at hp
    ·cases hp
    split at hp
    ·cases hp
    split at hp
    ·cases hp
    split at hp
    ·cases hp
    split at hp
    ·cases hp
    cases hp
    simp only [List.length_take]
    omega
   ·exact i2 d hd
end
section
set_option maxRecDepth 8000
theorem app_gen{t e sz:Nat}(hT:ElT t e sz){σ:St}{l:AV}{n:Nat}{cells c:List AV}(h:Ls σ e sz l n cells)(hw:σ.wf)(hlk:∀i∈fid l,i∉σ.lock)(hb:n+1≤1000000)(hc:c.length=sz)(h0:0<sz){j:Nat}(hj:σ.get j=some (.row c e))(hjl:j∉fid l):
  ∃st5,appendA E0 σ t t l (.sl j sz 0 1 true)=some (.sl σ.next sz 0 (n+1) false,st5)∧Ls st5 e sz (.sl σ.next sz 0 (n+1) false) (n+1) (cells++c)∧Rest σ st5 (fid l):=by
 obtain ⟨ti,z,h1,h2,h3⟩:=hT.el
 have hx:sliceCells σ (.sl j sz 0 1 true)=some (1,c):=by
  simp only [sliceCells,hj,Nat.zero_add,Nat.one_mul,List.drop_zero]
  rw [if_pos (by omega),List.take_of_length_le (by omega)]
 have hbb:(n+1)*ti.bytes≤140737488355328:=Nat.le_trans (Nat.mul_le_mul hb h3) (by decide)
 have hb1:1*ti.bytes≤140737488355328:=by omega
 rcases h with ⟨rfl,rfl,rfl⟩|⟨hn,hlen,id,rfl,hg⟩
 ·refine ⟨σ.push (.row c e),?_,.inr ⟨by omega,by simp [hc],_,rfl,by rw [St.get_push,if_pos rfl,List.nil_append]⟩,Rest.push hw _ _⟩
  simp only [appendA,h1,hT.src,hT.str,hx,h2]
  rw [if_pos ⟨by omega,fun h=>by cases h⟩,if_neg (by decide),if_pos ⟨hb1,by omega⟩]
 ·have hid:=hw _ _ hg
  have hnl:id∉σ.lock:=hlk id (by simp [fid])
  refine ⟨(σ.del id).push (.row (cells++c) e),?_,.inr ⟨by omega,by rw [List.length_append,hlen,hc,Nat.add_mul,Nat.one_mul],_,rfl,by rw [St.get_push,if_pos (by simp)]⟩,⟨fun i o hi ho=> ?_,?_,rfl,rfl,push_wf (del_wf hw _) _⟩⟩
  ·simp only [appendA,h1,hT.src,hT.str,hx,h2,hg]
   rw [if_pos ⟨by omega,fun h=>by cases h⟩,if_neg (fun h=>h rfl),if_neg (by decide),if_pos ⟨hbb,by omega⟩,if_pos ⟨trivial,by omega⟩]
   simp only [Bool.false_eq_true,if_false]
   rw [if_pos ⟨by omega,hnl⟩,List.drop_zero]
  ·have:=hw _ _ ho
   rw [St.get_push,if_neg (by rw [St.next_del];omega),St.get_del,if_neg (fun e=>hi (by simp [fid,e]))];exact ho
  ·show σ.next≤σ.next+1;omega
def BO(st:St)(v:AV)(bs:List Int):Prop:=∃j f,v= .sl j 1 0 bs.length f∧st.get j=some (.row (bs.map u8) 5)
theorem BO.cells{st:St}{v:AV}{bs:List Int}(h:BO st v bs):sliceCells st v=some (bs.length,bs.map u8):=by
 obtain ⟨j,f,rfl,hg⟩:=h
 simp only [sliceCells,hg]
 rw [if_pos (by simp),Nat.mul_one,List.drop_zero,List.take_of_length_le (by simp)]
def recCs(X:List (Nat×AV×List Int)):List AV:=X.flatMap fun x=> [i64 (x.1:Nat),x.2.1]
structure RL (st:St) (et:Nat) (l:AV) (X:List (Nat×AV×List Int)):Prop where
 ls:Ls st et 2 l X.length (recCs X)
 each:∀x∈X,BO st x.2.1 x.2.2
theorem RL.nil(st:St)(et:Nat):RL st et .nils []:=⟨.inl ⟨rfl,rfl,rfl⟩,fun x h=>by cases h⟩
theorem RL.keep{st st':St}{et:Nat}{l:AV}{X:List (Nat×AV×List Int)}(h:RL st et l X)(hk:∀i vs ty,ty=et∨ty=5→st.get i=some (.row vs ty)→st'.get i=some (.row vs ty)):RL st' et l X:=
 ⟨h.ls.keep fun id _ hg=>hk id _ _ (.inl rfl) hg,fun x hx=>by
  obtain ⟨j,f,h1,h2⟩:=h.each x hx
  exact ⟨j,f,h1,hk j _ _ (.inr rfl) h2⟩⟩
theorem RL.rest{st st':St}{et:Nat}{l:AV}{X:List (Nat×AV×List Int)}(h:RL st et l X)(hr:Rest st st' []):RL st' et l X:=h.keep fun i _ _ _ hg=>hr.keep i _ (by simp) hg
theorem RL.row{st:St}{et:Nat}{l:AV}{X:List (Nat×AV×List Int)}(h:RL st et l X){i:Nat}(hi:i∈fid l):∃vs,st.get i=some (.row vs et):=by
 rcases h.ls with ⟨_,_,e⟩|⟨_,_,id,e,hg⟩
 ·rw [e] at hi;simp [fid] at hi
 ·rw [e] at hi
  simp only [fid,List.mem_singleton] at hi
  subst hi
  exact ⟨_,hg⟩
theorem recCs_app(X:List (Nat×AV×List Int))(x:Nat×AV×List Int):recCs (X++ [x])=recCs X++ [i64 (x.1:Nat),x.2.1]:=by
 unfold recCs;rw [List.flatMap_append];simp
theorem recCs_at:∀(X:List (Nat×AV×List Int)) (i:Nat) (x:Nat×AV×List Int),X[i]? =some x→(recCs X)[i*2]? =some (i64 (x.1:Nat))∧(recCs X)[i*2+1]? =some x.2.1
 | [],i,x,h=>by simp at h
 |y::X,0,x,h=>by
  simp only [List.getElem?_cons_zero,Option.some.injEq] at h
  subst h
  exact ⟨rfl,rfl⟩
 |y::X,i+1,x,h=>by
  obtain ⟨h1,h2⟩:=recCs_at X i x (by simpa using h)
  have e:recCs (y::X)=i64 (y.1:Nat)::y.2.1::recCs X:=rfl
  rw [e,show (i+1)*2=i*2+1+1 by omega]
  exact ⟨h1,h2⟩
theorem RL.app{t et:Nat}(hT:ElT t et 2)(h5:et≠5){σ:St}{l:AV}{X:List (Nat×AV×List Int)}(h:RL σ et l X)(hw:σ.wf)(hlk:∀i∈fid l,i∉σ.lock)(hb:X.length+1≤1000000){k:Nat}{v:AV}{bs:List Int}(hv:BO σ v bs){j:Nat}(hj:σ.get j=some (.row [i64 k,v] et))(hjl:j∉fid l):
  ∃st5,appendA E0 σ t t l (.sl j 2 0 1 true)=some (.sl σ.next 2 0 (X.length+1) false,st5)∧RL st5 et (.sl σ.next 2 0 (X.length+1) false) (X++ [(k,v,bs)])∧Rest σ st5 (fid l):=by
 obtain ⟨st5,a1,a2,a3⟩:=app_gen (c:= [i64 k,v]) hT h.ls hw hlk hb rfl (by decide) hj hjl
 have hk5:∀i vs,σ.get i=some (.row vs 5)→st5.get i=some (.row vs 5):=fun i vs hg=>a3.keep i _ (fun hi=>by
  obtain ⟨_,h2⟩:=h.row hi
  rw [hg] at h2
  simp only [Option.some.injEq,AObj.row.injEq] at h2
  exact h5 h2.2.symm) hg
 refine ⟨st5,a1,⟨?_,fun x hx=> ?_⟩,a3⟩
 ·rw [recCs_app,List.length_append];exact a2
 ·rcases List.mem_append.1 hx with hx|hx
  ·obtain ⟨i,f,h1,h2⟩:=h.each x hx
   exact ⟨i,f,h1,hk5 i _ h2⟩
  ·rw [List.mem_singleton.1 hx]
   obtain ⟨i,f,h1,h2⟩:=hv
   exact ⟨i,f,h1,hk5 i _ h2⟩
theorem el47:ElT 47 100 2:=⟨elT_of (by kernel_rfl),by kernel_rfl,fun st x=>by
 have:(E0.ty 47).map (fun i=>i.desc)=some (.slice 100):=by kernel_rfl
 obtain ⟨q,h1,h2⟩:=Option.map_eq_some_iff.1 this
 simp only [srcA,h1,h2]⟩
theorem buildR(k:Int)(j n:Nat)(f:Bool):buildA E0 95 [(0,i64 k),(1,.sl j 1 0 n f)]=some (.agg [i64 k,.sl j 1 0 n f])∧buildA E0 100 [(0,i64 k),(1,.sl j 1 0 n f)]=some (.agg [i64 k,.sl j 1 0 n f]):=⟨by kernel_rfl,by kernel_rfl⟩
theorem buildS43(st:St)(k:Int)(j n:Nat)(f:Bool):buildSliceA E0 st 43 1 [(0,.agg [i64 k,.sl j 1 0 n f])]=some (.sl st.next 2 0 1 true,st.push (.row [i64 k,.sl j 1 0 n f] 95)):=by kernel_rfl
theorem buildS47(st:St)(k:Int)(j n:Nat)(f:Bool):buildSliceA E0 st 47 1 [(0,.agg [i64 k,.sl j 1 0 n f])]=some (.sl st.next 2 0 1 true,st.push (.row [i64 k,.sl j 1 0 n f] 100)):=by kernel_rfl
end
section
set_option maxRecDepth 8000
def yOf(x:Nat×AV×List Int):Nat×List Int:=(x.1,x.2.2)
def KT(ty:Nat)(st st':St):Prop:=∀i o,(∀vs,o≠ .row vs ty)→st.get i=some o→st'.get i=some o
theorem KT.trans{ty:Nat}{a b c:St}(h:KT ty a b)(k:KT ty b c):KT ty a c:=fun i o ho hi=>k i o ho (h i o ho hi)
theorem Rest.kt{ty:Nat}{a b:St}(h:Rest a b []):KT ty a b:=fun i o _ hi=>h.keep i o (by simp) hi
theorem Rest.over{s2 σ σ':St}{S F:List Nat}(h:Rest s2 σ S)(k:Rest σ σ' F)(hF:∀i∈F,s2.next≤i)(hw:s2.wf):Rest s2 σ' S:=
 ⟨fun i o hi ho=>k.keep i o (fun hm=>by have:=hF i hm;have:=hw _ _ ho;omega) (h.keep i o hi ho),Nat.le_trans h.next k.next,k.lock.trans h.lock,k.gl.trans h.gl,k.wf⟩
theorem LO.kt{ty:Nat}(h1:ty≠22)(h2:ty≠5){st st':St}{f:Bool}{l:AV}{js:List Nat}{R:List (List Int)}(h:LO st f l js R)(hr:KT ty st st'):LO st' f l js R:=by
 refine ⟨h.len,?_,fun k j d hj hd=>hr _ _ (fun vs e=>h2 (by cases e;rfl)) (h.each k j d hj hd),h.nodup⟩
 rcases h.row with h3|⟨h3,id,h4,h5⟩
 ·exact .inl h3
 ·exact .inr ⟨h3,id,h4,hr _ _ (fun vs e=>h1 (by cases e;rfl)) h5⟩
theorem vsOf_at{f:Bool}:∀(js:List Nat) (R:List (List Int)) (i j:Nat) (d:List Int),js[i]? =some j→R[i]? =some d→(vsOf f js R)[i]? =some (.sl j 1 0 d.length f):=fun js R i j d h1 h2=>by
 unfold vsOf
 rw [List.getElem?_zipWith,h1,h2]
theorem LO.atB{st:St}{f:Bool}{l:AV}{js:List Nat}{R:List (List Int)}(h:LO st f l js R){i:Nat}{d:List Int}(hd:R[i]? =some d):∃id j,indexAddrA E0 32 l (i64 i)=some (.ptr id (0+i*1))∧loadA E0 st 22 (.ptr id (0+i*1))=some (.sl j 1 0 d.length f)∧BO st (.sl j 1 0 d.length f) d∧(∃vs,st.get id=some (.row vs 22)):=by
 have hi:i<R.length:=(List.getElem?_eq_some_iff.1 hd).1
 obtain ⟨j,hj⟩:∃j,js[i]? =some j:=⟨_,List.getElem?_eq_getElem (by rw [h.len];exact hi)⟩
 rcases h.row with ⟨e,_⟩|⟨_,id,rfl,hg⟩
 ·rw [e] at hd;simp at hd
 ·exact ⟨id,j,idxS sl22 hi,load_row hg (part24 (by rw [Nat.zero_add,Nat.mul_one];exact vsOf_at js R i j d hj hd)),⟨_,_,rfl,h.each i j d hj hd⟩,_,hg⟩
structure InI (ty:Nat) (s2 σ0:St) (S:List Nat) (Y:List (Nat×List Int)) (l:AV) (σ:St):Prop where
 rl:∃X,RL σ ty l X∧X.map yOf=Y
 keep:Rest s2 σ S
 fr:∀i∈fid l,s2.next≤i
 kt:KT ty σ0 σ
theorem fr_new{s2 σ:St}{S:List Nat}{n sz k:Nat}{f:Bool}(h:Rest s2 σ S)(hn:σ.next≤n):∀i∈fid (.sl n sz 0 k f),s2.next≤i:=fun i hi=>by
 simp only [fid,List.mem_singleton] at hi
 have:=h.next
 omega
theorem kt_app{ty:Nat}{σ σ':St}{l:AV}{X:List (Nat×AV×List Int)}(h:RL σ ty l X)(k:Rest σ σ' (fid l)):KT ty σ σ':=fun i o ho hi=>k.keep i o (fun hm=>by
 obtain ⟨vs,h2⟩:=h.row hm
 rw [hi] at h2
 exact ho vs (Option.some.inj h2)) hi
theorem gin_turn{s2 σ0 σ:St}{S:List Nat}{Y:List (Nat×List Int)}{l:AV}{k:Nat}{v:AV}{bs:List Int}(hw2:s2.wf)(hl:s2.lock= [])(hI:InI 95 s2 σ0 S Y l σ)(hv:BO σ v bs)(hb:Y.length+1≤1000000):
  ∃u s1 l' s5 w,buildA E0 95 [(0,i64 (k:Nat)),(1,v)]=some w∧buildSliceA E0 σ 43 1 [(0,w)]=some (u,s1)∧appendA E0 s1 43 43 l u=some (l',s5)∧InI 95 s2 σ0 S (Y++ [(k,bs)]) l' s5:=by
 obtain ⟨X,hX,hY⟩:=hI.rl
 obtain ⟨j,f,rfl,hj⟩:=hv
 have hlk:σ.lock= []:=hI.keep.lock.trans hl
 have hXl:X.length=Y.length:=by rw [←hY];simp
 have R1:Rest σ (σ.push (.row [i64 (k:Nat),.sl j 1 0 bs.length f] 95)) []:=Rest.push hI.keep.wf _ _
 have hX1:=hX.rest R1
 have hj1:(σ.push (.row [i64 (k:Nat),.sl j 1 0 bs.length f] 95)).get σ.next=some (.row [i64 (k:Nat),.sl j 1 0 bs.length f] 95):=by rw [St.get_push,if_pos rfl]
 obtain ⟨st5,a1,a2,a3⟩:=hX1.app el28' (by decide) R1.wf (fun i _=>by rw [R1.lock,hlk];simp) (by omega) (k:=k) ⟨j,f,rfl,R1.keep _ _ (by simp) hj⟩ hj1 (fun hm=>by
  obtain ⟨vs,h2⟩:=hX.row hm
  have:=hI.keep.wf _ _ h2
  omega)
 refine ⟨_,_,_,st5,_,(buildR _ _ _ _).1,buildS43 _ _ _ _ _,a1,⟨⟨_,a2,by rw [List.map_append,hY];rfl⟩,(hI.keep.trans (R1.weak (by simp))).over a3 hI.fr hw2,fr_new hI.keep R1.next,(hI.kt.trans R1.kt).trans (kt_app hX1 a3)⟩⟩
theorem gin_loop{s2 σ0:St}{S:List Nat}{Y:List (Nat×List Int)}{l:AV}{R:List (List Int)}{js:List Nat}{v46 v25:AV}{k d w:Nat}{n26 n27:Int}(hw2:s2.wf)(hl:s2.lock= [])(hI:InI 95 s2 σ0 S Y l σ0)(hL:LO σ0 true v46 js R)(hb:Y.length+R.length≤1000000):
  ∃l' σ',InI 95 s2 σ0 S (Y++R.map fun r=>(k,r)) l' σ'∧
   ∀T,f14L11 T (.ptr d 0) (.ptr w 0) l (i64 k) v25 (i64 n26) (i64 n27) v46 (i64 R.length) (i64 0)→AW Tryz.prog (.block 3 (.loop (f14P 12))) (fun ex T' s=>ex= .normal∧f14L7 T' (.ptr d 0) (.ptr w 0) l' (i64 k) v25 (i64 n26) (i64 n27)∧s=σ') T σ0:=by
 have turn:∀i (p:AV×St),i<R.length→InI 95 s2 σ0 S (Y++(R.take i).map fun r=>(k,r)) p.1 p.2→∃p':AV×St,InI 95 s2 σ0 S (Y++(R.take (i+1)).map fun r=>(k,r)) p'.1 p'.2∧∀T,f14L11 T (.ptr d 0) (.ptr w 0) p.1 (i64 k) v25 (i64 n26) (i64 n27) v46 (i64 R.length) (i64 i)→AW Tryz.prog (f14P 12) (fun ex T' s=>ex= .normal∧f14L11 T' (.ptr d 0) (.ptr w 0) p'.1 (i64 k) v25 (i64 n26) (i64 n27) v46 (i64 R.length) (i64 (i+1:Nat))∧s=p'.2) T p.2:=fun i ⟨q,σ⟩ hi h1=>by
  simp only at h1
  have hri:R[i]? =some R[i]:=List.getElem?_eq_getElem hi
  obtain ⟨id,j,b1,b2,b3,_⟩:=(hL.kt (by decide) (by decide) h1.kt).atB hri
  obtain ⟨u,s1,l',s5,w',c1,c2,c3,c4⟩:=gin_turn (k:=k) hw2 hl h1 b3 (by simp;omega)
  refine ⟨(l',s5),?_,fun T hT=>f14_12_T (lssT (by omega)) b1 b2 c1 c2 c3 (add64 (by omega)) hT⟩
  rw [List.take_add_one,hri,List.map_append,←List.append_assoc]
  exact c4
 obtain ⟨c,c0,inv,step⟩:=chain_seq _ _ R.length (l,σ0) (by simpa using hI) turn
 have e1:=inv R.length (Nat.le_refl _)
 rw [List.take_of_length_le (Nat.le_refl _)] at e1
 exact ⟨(c R.length).1,(c R.length).2,e1,fun T hT=>AW.turns (In:=fun i T=>f14L11 T (.ptr d 0) (.ptr w 0) (c i).1 (i64 k) v25 (i64 n26) (i64 n27) v46 (i64 R.length) (i64 i)) (L:=fun T=>f14L7 T (.ptr d 0) (.ptr w 0) (c R.length).1 (i64 k) v25 (i64 n26) (i64 n27)) (c:=fun i=>(c i).2) (n:=R.length) (sf:=(c R.length).2) (by rw [c0]) (by rw [c0];exact hT) (fun i hi T hT=>step i hi T hT) (fun T hT=>f14_12_F (lssF (by omega)) hT)⟩
end
section
set_option maxRecDepth 8000
theorem RL.get{st st':St}{et:Nat}{l:AV}{X:List (Nat×AV×List Int)}(h:RL st et l X)(hk:∀i,st'.get i=st.get i):RL st' et l X:=h.keep fun i _ _ _ hg=>by rw [hk];exact hg
theorem rin_turn{s2 σ0 σ:St}{S:List Nat}{Y:List (Nat×List Int)}{l:AV}{k:Nat}{v:AV}{bs:List Int}(hw2:s2.wf)(hl:s2.lock= [])(hI:InI 100 s2 σ0 S Y l σ)(hv:BO σ v bs)(hb:Y.length+1≤1000000){I:List Nat}(hIn:∀i∈I,∃vs ty,σ.get i=some (.row vs ty)∧ty≠100):
  ∃u s1 l' s5 w,buildA E0 100 [(0,i64 (k:Nat)),(1,v)]=some w∧I.all (fun k=>(σ.get k).isSome)=true∧buildSliceA E0 (σ.hide I) 47 1 [(0,w)]=some (u,s1)∧I.all (fun k=>((s1.show σ I).get k).isSome)=true∧appendA E0 ((s1.show σ I).hide I) 47 47 l u=some (l',s5)∧InI 100 s2 σ0 S (Y++ [(k,bs)]) l' (s5.show (s1.show σ I) I):=by
 obtain ⟨X,hX,hY⟩:=hI.rl
 obtain ⟨j,f,rfl,hj⟩:=hv
 have hlk:σ.lock= []:=hI.keep.lock.trans hl
 have hXl:X.length=Y.length:=by rw [←hY];simp
 have hwf:=hI.keep.wf
 have R1:Rest (σ.hide I) ((σ.hide I).push (.row [i64 (k:Nat),.sl j 1 0 bs.length f] 100)) []:=Rest.push (hide_wf hwf I) _ _
 obtain ⟨R4,g4⟩:=show_rest R1 (by simp)
 have hbs:=buildS47 (σ.hide I) (k:Nat) j bs.length f
 have hj1:(((σ.hide I).push (.row [i64 (k:Nat),.sl j 1 0 bs.length f] 100)).show σ I).get (σ.hide I).next=some (.row [i64 (k:Nat),.sl j 1 0 bs.length f] 100):=by rw [g4,St.get_push,if_pos rfl]
 generalize ((σ.hide I).push (.row [i64 (k:Nat),.sl j 1 0 bs.length f] 100))=s1 at*
 have hX4:RL ((s1.show σ I).hide I) 100 l X:=(hX.rest R4).get fun _=>rfl
 have hlI:∀i∈fid l,i∉I:=fun i hi hm=>by
  obtain ⟨vs,h2⟩:=hX.row hi
  obtain ⟨vs',ty,h3,h4⟩:=hIn i hm
  rw [h2] at h3
  simp only [Option.some.injEq,AObj.row.injEq] at h3
  exact h4 h3.2.symm
 have hin:I.all (fun k=>(σ.get k).isSome)=true:=all_some fun k hk=>by
  obtain ⟨vs,ty,h3,_⟩:=hIn k hk
  exact ⟨_,h3⟩
 have hin4:I.all (fun k=>((s1.show σ I).get k).isSome)=true:=all_some fun k hk=>by
  obtain ⟨vs,ty,h3,_⟩:=hIn k hk
  exact ⟨_,R4.keep _ _ (by simp) h3⟩
 obtain ⟨st5,a1,a2,a3⟩:=hX4.app el47 (by decide) (hide_wf R4.wf I) (fun i hi=>by
  show i∉I++(s1.show σ I).lock
  rw [show (s1.show σ I).lock=σ.lock from rfl,hlk,List.append_nil]
  exact hlI i hi) (by omega) (k:=k) (bs:=bs) ⟨j,f,rfl,R4.keep _ _ (by simp) hj⟩ hj1 (fun hm=>by
  obtain ⟨vs,h2⟩:=hX.row hm
  have:=hwf _ _ h2
  exact absurd this (Nat.lt_irrefl _))
 obtain ⟨R5,g5⟩:=show_rest a3 (fun i hi hm=>hlI i hm hi)
 refine ⟨_,_,_,st5,_,(buildR _ _ _ _).2,hin,hbs,hin4,a1,⟨⟨_,a2.get g5,by rw [List.map_append,hY];rfl⟩,(hI.keep.trans (R4.weak (by simp))).over R5 hI.fr hw2,fr_new hI.keep R4.next,(hI.kt.trans R4.kt).trans (kt_app (hX.rest R4) R5)⟩⟩
theorem SL.atB{s1:St}{l:AV}{K:List Nat}(h:SL s1 l K){i k:Nat}(hk:K[i]? =some k):∃id,l= .sl id 1 0 K.length false∧s1.get id=some (.row (K.map fun k=>i64 (k:Nat)) 3)∧indexAddrA E0 73 l (i64 i)=some (.ptr id (0+i*1))∧∀σ:St,σ.get id=some (.row (K.map fun k=>i64 (k:Nat)) 3)→loadA E0 σ 3 (.ptr id (0+i*1))=some (i64 k):=by
 have hi:i<K.length:=(List.getElem?_eq_some_iff.1 hk).1
 rcases h with ⟨e,_⟩|⟨_,_,id,rfl,hg⟩
 ·omega
 ·exact ⟨id,rfl,hg,idxS sl55 hi,fun σ h2=>load_row h2 (p3 (by rw [Nat.zero_add,Nat.mul_one,List.getElem?_map,hk];rfl))⟩
theorem rin_loop{s2 σ0:St}{S:List Nat}{Y:List (Nat×List Int)}{l:AV}{R:List (List Int)}{js:List Nat}{v13 v7:AV}{K:List Nat}{k i8 e v:Nat}(hw2:s2.wf)(hl:s2.lock= [])(hI:InI 100 s2 σ0 S Y l σ0)(hL:LO σ0 false v13 js R)(hv:SL σ0 v7 K)(hk:K[i8]? =some k)(hb:Y.length+R.length≤1000000):
  ∃l' σ',InI 100 s2 σ0 S (Y++R.map fun r=>(k,r)) l' σ'∧
   ∀T,f15L10 T (.ptr e 0) (.ptr v 0) l v7 (i64 i8) v13 (i64 0)→AW Tryz.prog (.block 2 (.loop (f15P 11))) (fun ex T' s=>ex= .normal∧f15L5 T' (.ptr e 0) (.ptr v 0) l' v7 (i64 i8)∧s=σ') T σ0:=by
 have hlen:=hL.lenA
 obtain ⟨p55,e7,hg55,x1,x2⟩:=hv.atB hk
 have turn:∀i (p:AV×St),i<R.length→InI 100 s2 σ0 S (Y++(R.take i).map fun r=>(k,r)) p.1 p.2→∃p':AV×St,InI 100 s2 σ0 S (Y++(R.take (i+1)).map fun r=>(k,r)) p'.1 p'.2∧∀T,f15L10 T (.ptr e 0) (.ptr v 0) p.1 v7 (i64 i8) v13 (i64 i)→AW Tryz.prog (f15P 11) (fun ex T' s=>ex= .normal∧f15L10 T' (.ptr e 0) (.ptr v 0) p'.1 v7 (i64 i8) v13 (i64 (i+1:Nat))∧s=p'.2) T p.2:=fun i ⟨q,σ⟩ hi h1=>by
  simp only at h1
  have hri:R[i]? =some R[i]:=List.getElem?_eq_getElem hi
  obtain ⟨p59,j,b1,b2,b3,vs59,b4⟩:=(hL.kt (by decide) (by decide) h1.kt).atB hri
  have hg:=h1.kt _ _ (fun vs q=>by cases q) hg55
  obtain ⟨u,s1,l',s5,w',c1,c2,c3,c4,c5,c6⟩:=rin_turn (k:=k) hw2 hl h1 b3 (by simp;omega) (I:= [p55,p59]) (fun m hm=>by
   simp only [List.mem_cons,List.not_mem_nil,or_false] at hm
   rcases hm with rfl|rfl
   ·exact ⟨_,3,hg,by decide⟩
   ·exact ⟨_,22,b4,by decide⟩)
  refine ⟨(l',_),?_,fun T hT=>f15_11_T hlen (lssT (by omega)) (fun m hm=> ?_) x1 (x2 σ hg) b1 b2 c1 c2 c3 c4 c5 (add64 (by omega)) hT⟩
  ·rw [List.take_add_one,hri,List.map_append,←List.append_assoc]
   exact c6
  ·simp only [List.mem_cons,List.not_mem_nil,or_false] at hm
   rcases hm with rfl|rfl
   ·exact h1.keep.wf _ _ hg
   ·exact h1.keep.wf _ _ b4
 obtain ⟨c,c0,inv,step⟩:=chain_seq _ _ R.length (l,σ0) (by simpa using hI) turn
 have e1:=inv R.length (Nat.le_refl _)
 rw [List.take_of_length_le (Nat.le_refl _)] at e1
 exact ⟨(c R.length).1,(c R.length).2,e1,fun T hT=>AW.turns (In:=fun i T=>f15L10 T (.ptr e 0) (.ptr v 0) (c i).1 v7 (i64 i8) v13 (i64 i)) (L:=fun T=>f15L5 T (.ptr e 0) (.ptr v 0) (c R.length).1 v7 (i64 i8)) (c:=fun i=>(c i).2) (n:=R.length) (sf:=(c R.length).2) (by rw [c0]) (by rw [c0];exact hT) (fun i hi T hT=>step i hi T hT) (fun T hT=>f15_11_F hlen (lssF (by omega)) hT)⟩
end
section
set_option maxRecDepth 8000
def bytR(r:RS)(n:ByteArray):List Int:=((r.F[pos n r.F]?).map fun g=>g.lb++g.ob).getD []
def segB(r:RS)(k:Nat):List Int:=bytR r (nmG k)
def recY(B:Nat→List Int)(K:List Nat):List (Nat×List Int):=K.flatMap fun k=>(splitN (B k).length (B k)).map fun d=>(k,d)
def segK(r:RS):List Nat:=sgs (r.F.map RF.name)
theorem sgs_mem{R:List ByteArray}{k:Nat}(h:k∈sgs R):nmG k∈R:=by
 unfold sgs at h
 obtain ⟨h1,h2⟩:=List.mem_filter.1 h
 obtain ⟨w,hw,rfl⟩:=List.mem_map.1 h1
 have h2:0<numS w:=by simpa using h2
 rw [(nmG_numS h2).1];exact hw
theorem seg_file{s:PS}{r:RS}(h:Sim s r)(hoff:s.off=false){k:Nat}(hk:k∈segK r):thE r (nmG k)=0∧rdE s.L s.off true (nmG k)=0:=by
 have hm:=sgs_mem hk
 obtain ⟨f,hf,hn⟩:=List.mem_map.1 hm
 have h1:thE r (nmG k)=0:=by
  unfold thE
  rw [if_neg (by rw [←h.off,hoff];simp),if_neg (by rw [←hn];exact fun h'=>h' (h.may f hf)),if_neg (by rw [(hit_iff h.ord _).2 ⟨f,hf,hn⟩];simp)]
 exact ⟨h1,by rw [h.err];exact h1⟩
theorem seg_bytes{s:PS}{r:RS}(h:Sim s r){n:ByteArray}{j:Nat}{f:PF}(h1:find n s.L=some j)(h2:s.L[j]? =some f):f.bytes=bytR r n:=by
 obtain ⟨f',g,k1,k2,k3,k4,k5,k6,_⟩:=h.there h1
 rw [h2] at k1
 cases k1
 unfold bytR
 rw [k3]
 exact sim_bytes k6
theorem segB_sum{r:RS}(ho:Ord (r.F.map RF.name)):∀F':List RF,(∀f∈F',f∈r.F)→((sgs (F'.map RF.name)).map fun k=>(segB r k).length).sum≤usedR F'
 | [],_=>by simp [sgs,usedR]
 |f::F',hF=>by
  have ih:=segB_sum ho F' (fun g hg=>hF g (List.mem_cons_of_mem _ hg))
  have e:usedR (f::F')=f.lb.length+f.ob.length+usedR F':=by simp [usedR]
  have hs:sgs ((f::F').map RF.name)=if 0<numS f.name then numS f.name::sgs (F'.map RF.name) else sgs (F'.map RF.name):=by
   unfold sgs
   rw [List.map_cons,List.map_cons]
   by_cases hc:0<numS f.name
   ·rw [if_pos hc,List.filter_cons_of_pos (by simpa using hc)]
   ·rw [if_neg hc,List.filter_cons_of_neg (by simpa using hc)]
  rw [hs,e]
  by_cases hc:0<numS f.name
  ·rw [if_pos hc,List.map_cons,List.sum_cons]
   obtain ⟨i,hi⟩:=List.getElem?_of_mem (hF f (by simp))
   have hb:segB r (numS f.name)=f.lb++f.ob:=by
    unfold segB bytR
    rw [(nmG_numS hc).1,pos_at ho hi,hi];rfl
   rw [hb,List.length_append]
   omega
  ·rw [if_neg hc];omega
theorem recY_len(B:Nat→List Int):∀K:List Nat,9*(recY B K).length≤(K.map fun k=>(B k).length).sum
 | []=>by simp [recY]
 |k::K=>by
  have ih:=recY_len B K
  have h1:=(splitN_size (B k).length (B k)).1
  have e:(recY B (k::K)).length=(splitN (B k).length (B k)).length+(recY B K).length:=by
   unfold recY;rw [List.flatMap_cons,List.length_append,List.length_map]
  rw [e,List.map_cons,List.sum_cons];omega
theorem recY_app(B:Nat→List Int)(K K':List Nat):recY B (K++K')=recY B K++recY B K':=by unfold recY;rw [List.flatMap_append]
theorem recY_b{s:PS}{r:RS}(h:Sim s r)(hu:usedR r.F≤8000000)(i:Nat):(recY (segB r) ((segK r).take i)).length≤888888:=by
 have h1:=recY_len (segB r) (segK r)
 have h2:=segB_sum h.ord r.F (fun _ hf=>hf)
 have h3:recY (segB r) (segK r)=recY (segB r) ((segK r).take i)++recY (segB r) ((segK r).drop i):=by rw [←recY_app,List.take_append_drop]
 have h4:=congrArg List.length h3
 rw [List.length_append] at h4
 unfold segK at*
 omega
theorem segB_len{s:PS}{r:RS}(_:Sim s r)(k:Nat):(segB r k).length≤usedR r.F:=by
 unfold segB bytR
 cases hg:r.F[pos (nmG k) r.F]? with
 |none=>simp
 |some g=>
  have:g.lb.length+g.ob.length≤usedR r.F:=le_sum (List.mem_map.2 ⟨g,List.mem_of_getElem? hg,rfl⟩)
  simp only [Option.map_some,Option.getD_some,List.length_append];exact this
theorem nxtK_b{R:List ByteArray}(i:Nat):1≤nxtK (sgs R) i∧nxtK (sgs R) i≤100000000:=by
 unfold nxtK
 split
 ·omega
 ·rw [List.getD_eq_getElem?_getD]
  cases h:(sgs R)[i- 1]? with
  |none=>simp
  |some k=>
   have:=sgs_ok R k (List.mem_of_getElem? h)
   simp only [Option.getD_some];omega
theorem nxtK_at{K:List Nat}{i k:Nat}(h:K[i]? =some k):nxtK K (i+1)=k+1:=by
 unfold nxtK
 rw [if_neg (by omega),Nat.add_sub_cancel,List.getD_eq_getElem?_getD,h];rfl
end
section
set_option maxRecDepth 8000
theorem PD.restS{st st':St}{d m:Nat}{s:PS}{S:List Nat}(h:PDs st d m s)(hr:Rest st st' S)(h1:d∉S)(h2:m∉S):PDs st' d m s:=by
 obtain ⟨bs,c,hm⟩:=h.map
 exact ⟨hr.keep _ _ h1 h.row,bs,c,hr.keep _ _ h2 hm⟩
theorem SL.restS{s1 st':St}{l:AV}{K:List Nat}{S:List Nat}(h:SL s1 l K)(hr:Rest s1 st' S)(hS:∀i∈S,∀vs,s1.get i≠some (.row vs 3)):SL st' l K:=Ls.keep h fun id _ hg=>hr.keep _ _ (fun hm=>hS id hm _ hg) hg
structure GOp (s2:St) (w d:Nat) (B:Nat→List Int) (K:List Nat) (i:Nat) (l:AV) (σ:St):Prop where
 rl:∃X,RL σ 95 l X∧X.map yOf=recY B (K.take i)
 keep:Rest s2 σ [w]
 fr:∀j∈fid l,s2.next≤j
 row:σ.get w=some (.row [.ptr d 0,i64 (nxtK K i),i64 (0:Nat),i64 (0:Nat)] 93)
theorem gop_turn{s2:St}{w d m nx0:Nat}{s:PS}{r:RS}(hS:Sim s r)(hoff:s.off=false)(hu:usedR r.F≤8000000)(hW:WA s2 w d m s nx0 0 0)(hgl:GT s2){v25:AV}(hv:SL s2 v25 (segK r))
  {i:Nat} (hi:i<(segK r).length) {l:AV} {σ:St} (hI:GOp s2 w d (segB r) (segK r) i l σ):
  ∃l' σ',GOp s2 w d (segB r) (segK r) (i+1) l' σ'∧∀T,f14L4 T (.ptr d 0) (.ptr w 0) l v25 (i64 (segK r).length) (i64 i)→
   AW Tryz.prog (.seq (f14P 5) (.seq (f14P 6) (.seq (.block 2 (.seq (f14P 7) (.seq (f14P 8) (.seq (f14P 9) (.seq (f14P 10) (.seq (.seq (f14P 11) (.block 3 (.loop (f14P 12)))) (f14P 13))))))) (f14P 14)))) (fun ex T' s=>ex= .normal∧f14L4 T' (.ptr d 0) (.ptr w 0) l' v25 (i64 (segK r).length) (i64 (i+1:Nat))∧s=σ') T σ:=by
 have hki:(segK r)[i]? =some (segK r)[i]:=List.getElem?_eq_getElem hi
 have hmem:=List.getElem_mem hi
 have hil:(segK r).length≤4096:=Nat.le_trans (sgs_len _) (by rw [List.length_map];exact hS.len)
 generalize (segK r)[i]=k at*
 have hk9:=sgs_ok _ k hmem
 obtain ⟨id25,e25,hg25,x1,x2⟩:=hv.atB hki
 have hg25σ:=hI.keep.keep id25 _ (by
  simp only [List.mem_singleton]
  intro e;rw [e,hW.row] at hg25;simp at hg25) hg25
 have hld:=x2 σ hg25σ
 obtain ⟨σ1,n1,N1⟩:=nameP_ok hI.keep.wf (hI.keep.gl.trans hgl) (n:=k) hk9.1 hk9.2
 have hpσ:=PD.restS hW.disk hI.keep (by simp [hW.wd.symm]) (by simp [hW.wm.symm])
 have hp1:=PD.rest hpσ N1
 have hl1:σ1.lock= []:=N1.lock.trans (hI.keep.lock.trans hW.lock)
 obtain ⟨v,σ2,r2,R2,hv2⟩:=read_ok hp1 N1.wf hl1 hS.g (by rw [hS.used];unfold big;omega) (nmG k)
 rw [(seg_file hS hoff hmem).2] at r2 hv2
 rcases hv2 with ⟨h0,_⟩|⟨_,j,f,f1,f2,hown,_⟩
 ·exact absurd rfl h0
 rw [seg_bytes hS f1 f2] at hown
 change OwnB σ2 v (segB r k) at hown
 have hBl:=segB_len hS k
 have hl2:σ2.lock= []:=R2.lock.trans hl1
 obtain ⟨v46,js,σ3,r3,hL3,R3,_⟩:=splitU_ok R2.wf hl2 hown (by omega)
 have R03:=(N1.trans R2).trans R3
 obtain ⟨X,hX,hXY⟩:=hI.rl
 have K03:=hI.keep.trans (R03.weak (by simp))
 have htk:(segK r).take (i+1)=(segK r).take i++ [k]:=by rw [List.take_add_one,hki];rfl
 have hYe:recY (segB r) ((segK r).take (i+1))=recY (segB r) ((segK r).take i)++(splitN (segB r k).length (segB r k)).map fun d=>(k,d):=by
  rw [htk,recY_app];congr 1;simp [recY]
 have hYb:=recY_b hS hu (i+1)
 rw [hYe,List.length_append,List.length_map] at hYb
 obtain ⟨l',σ4,a1,a2⟩:=gin_loop (k:=k) (d:=d) (w:=w) (v25:=v25) (n26:=(segK r).length) (n27:=i) hW.wf hW.lock ⟨⟨X,hX.rest R03,hXY⟩,K03,hI.fr,fun _ _ _ h=>h⟩ hL3 (by omega)
 have hw4:σ4.get w=some (.row [.ptr d 0,i64 (nxtK (segK r) i),i64 (0:Nat),i64 (0:Nat)] 93):=a1.kt w _ (fun vs q=>by cases q) (R03.keep _ _ (by simp) hI.row)
 have hl4:σ4.lock= []:=a1.keep.lock.trans hW.lock
 have hst:=storeWl hw4 hl4 (k:=1) (by simp) (k+1:Nat)
 have K5:Rest σ4 (σ4.set w (.row ([.ptr d 0,i64 (nxtK (segK r) i),i64 (0:Nat),i64 (0:Nat)].set 1 (i64 (k+1:Nat))) 93)) [w]:=Rest.set a1.keep.wf (a1.keep.wf _ _ hw4) _ (by simp)
 obtain ⟨X',hX',hXY'⟩:=a1.rl
 refine ⟨l',_,⟨⟨X',hX'.keep fun q vs ty hty hg=>K5.keep q _ (fun e=> ?_) hg,by rw [hYe];exact hXY'⟩,a1.keep.trans K5,a1.fr,by rw [St.get_set,if_pos rfl,nxtK_at hki];rfl⟩,fun T hT=> ?_⟩
 ·rw [List.mem_singleton.1 e,hw4] at hg
  simp only [Option.some.injEq,AObj.row.injEq] at hg
  rcases hty with h|h<;>(rw [h] at hg;exact absurd hg.2 (by decide))
 ·refine AW.andThen (f14_5_T (lssT (by omega)) hT) fun T1 q1=>AW.andThen (f14_6_T q1) fun T2 q2=> ?_
  refine AW.andThen (AW.blockN (L:=fun T=>f14L4 T (.ptr d 0) (.ptr w 0) l' v25 (i64 (segK r).length) (i64 i)) ?_) fun T9 q9=>f14_14 (add64 (by omega)) q9
  refine AW.andThen (f14_7 x1 hld q2) fun T3 q3=>AW.andThen (f14_8 n1 q3) fun T4 q4=>AW.andThen (f14_9 r2 q4) fun T5 q5=>AW.andThen (f14_10_F (neqF rfl) q5) fun T6 q6=> ?_
  exact AW.andThen (AW.andThen (f14_11 r3 hL3.lenA q6) fun T7 q7=>a2 T7 q7) fun T8 q8=>f14_13 (add64 (by omega)) hst q8
theorem gopen_off{st:St}{d m:Nat}{s:PS}(hp:PDs st d m s)(hoff:s.off=true):obC 14 [.ptr d 0] st (.tup [.nilp,.nils,i64 8]) st:=by
 have hob:=off_ok hp
 rw [hoff] at hob
 refine ACalls.body (E:=E0) hE Tryz.func14 f14body ?_
 refine AW.andThen (f14_0 ⟨rfl,rfl⟩) fun T1 q1=> ?_
 refine AW.retThen (f14_1_T hob q1) fun T8 q8=> ?_
 refine ⟨[T8.get 2,T8.get 3,T8.get 4],rfl,?_⟩
 simp only [oneOrTup]
 exact ⟨by rw [q8.2.1,q8.2.2.1,q8.2.2.2],trivial⟩
theorem gopen_ok{st:St}{d m:Nat}{s:PS}{r:RS}(hS:Sim s r)(hp:PDs st d m s)(hw:st.wf)(hl:st.lock= [])(hgl:GT st)(hoff:s.off=false)(hu:usedR r.F≤8000000):
  ∃l st',obC 14 [.ptr d 0] st (.tup [.ptr st.next 0,l,i64 0]) st'∧WA st' st.next d m s (nxtK (segK r) (segK r).length) 0 0∧(∃X,RL st' 95 l X∧X.map yOf=recY (segB r) (segK r))∧Rest st st' []:=by
 have hob:=off_ok hp
 rw [hoff] at hob
 have R1:Rest st (st.push (.row [.ptr d 0,i64 (1:Nat),i64 (0:Nat),i64 (0:Nat)] 93)) []:=Rest.push hw _ _
 have W1:WA (st.push (.row [.ptr d 0,i64 (1:Nat),i64 (0:Nat),i64 (0:Nat)] 93)) st.next d m s 1 0 0:=⟨PD.rest hp R1,by rw [St.get_push,if_pos rfl],R1.wf,hl⟩
 have hbx:=box54 st d
 change boxA st 93 (.agg [.ptr d 0,i64 1,i64 0,i64 0])=some (.ptr st.next 0,st.push (.row [.ptr d 0,i64 (1:Nat),i64 (0:Nat),i64 (0:Nat)] 93)) at hbx
 generalize st.push (.row [.ptr d 0,i64 (1:Nat),i64 (0:Nat),i64 (0:Nat)] 93)=s1 at*
 obtain ⟨v25,s2,b1,b2,b3,_⟩:=psegs_ok W1 (sim_names hS) hS.ord (by rw [List.length_map];exact hS.len) (fun n hn=>by
  obtain ⟨f,hf,rfl⟩:=List.mem_map.1 hn
  exact hS.may f hf)
 have hil:(segK r).length≤4096:=Nat.le_trans (sgs_len _) (by rw [List.length_map];exact hS.len)
 have W2:=W1.rest b3
 have R12:Rest st s2 []:=R1.trans b3
 obtain ⟨c,c0,inv,step⟩:=chain_seq (σ:=AV×St) (fun i p=>GOp s2 st.next d (segB r) (segK r) i p.1 p.2)
  (fun i p p'=>∀T,f14L4 T (.ptr d 0) (.ptr st.next 0) p.1 v25 (i64 (segK r).length) (i64 i)→
   AW Tryz.prog (.seq (f14P 5) (.seq (f14P 6) (.seq (.block 2 (.seq (f14P 7) (.seq (f14P 8) (.seq (f14P 9) (.seq (f14P 10) (.seq (.seq (f14P 11) (.block 3 (.loop (f14P 12)))) (f14P 13))))))) (f14P 14)))) (fun ex T' s=>ex= .normal∧f14L4 T' (.ptr d 0) (.ptr st.next 0) p'.1 v25 (i64 (segK r).length) (i64 (i+1:Nat))∧s=p'.2) T p.2) (segK r).length (.nils,s2)
  ⟨⟨[],RL.nil _ _,rfl⟩,Rest.refl b3.wf _,fun j hj=>by simp [fid] at hj,W2.row⟩
  (fun i p hi hI=>by
   obtain ⟨l',σ',h1,h2⟩:=gop_turn hS hoff hu W2 (R12.gl.trans hgl) b2 hi hI
   exact ⟨(l',σ'),h1,h2⟩)
 have hI:=inv (segK r).length (Nat.le_refl _)
 have hrl:=hI.rl
 rw [List.take_of_length_le (Nat.le_refl _)] at hrl
 refine ⟨(c (segK r).length).1,(c (segK r).length).2,?_,⟨PD.restS W2.disk hI.keep (by simp [W2.wd.symm]) (by simp [W2.wm.symm]),hI.row,hI.keep.wf,hI.keep.lock.trans W2.lock⟩,hrl,R12.fresh hI.keep (fun i hi=>by rw [List.mem_singleton.1 hi];exact Nat.le_refl _) hw⟩
 refine ACalls.body (E:=E0) hE Tryz.func14 f14body ?_
 refine AW.andThen (f14_0 ⟨rfl,rfl⟩) fun T1 q1=> ?_
 refine AW.andThen (f14_1_F hob q1) fun T2 q2=> ?_
 refine AW.andThen (f14_2 (build54 d) hbx q2) fun T3 q3=> ?_
 refine AW.andThen (f14_3 q3) fun T4 q4=> ?_
 refine AW.andThen (AW.andThen (f14_4 b1 (Ls.len sl55 b2) q4) fun T5 q5=>AW.turns (In:=fun i T=>f14L4 T (.ptr d 0) (.ptr st.next 0) (c i).1 v25 (i64 (segK r).length) (i64 i)) (L:=fun T=>f14L6 T (.ptr st.next 0) (c (segK r).length).1) (c:=fun i=>(c i).2) (n:=(segK r).length) (sf:=(c (segK r).length).2) (by rw [c0]) (by rw [c0];exact q5) (fun i hi T hT=>step i hi T hT)
  (fun T hT=>AW.andThen (f14_5_F (lssF (by omega)) hT) fun T6 q6=>AW.seqExit (f14_6_F q6))) fun T7 q7=> ?_
 refine AW.atRet (f14_15 q7) fun T8 q8=> ?_
 refine ⟨[T8.get 2,T8.get 3,T8.get 4],rfl,?_⟩
 simp only [oneOrTup]
 exact ⟨by rw [q8.2.1,q8.2.2.1,q8.2.2.2],trivial⟩
end
section
set_option maxRecDepth 8000
def Byts(l:List Int):Prop:=∀b∈l,0≤b∧b<256
def BytR(r:RS):Prop:=∀f∈r.F,Byts (f.lb++f.ob)
theorem byts_nat{l:List Int}(h:Byts l):∃xs:List Nat,l=xs.map Int.ofNat∧∀x∈xs,x<256:=by
 refine ⟨l.map Int.toNat,?_,fun x hx=> ?_⟩
 ·rw [List.map_map]
  conv=>lhs;rw [←List.map_id l]
  refine List.map_congr_left fun b hb=> ?_
  have:=h b hb
  show b=Int.ofNat b.toNat
  simp only [Int.ofNat_eq_natCast];omega
 ·obtain ⟨b,hb,rfl⟩:=List.mem_map.1 hx
  have:=h b hb
  omega
theorem segB_byts{r:RS}(h:BytR r)(k:Nat):Byts (segB r k):=by
 unfold segB bytR
 cases hg:r.F[pos (nmG k) r.F]? with
 |none=>intro b hb;simp at hb
 |some g=>exact h g (List.mem_of_getElem? hg)
structure ROp (s2:St) (v e:Nat) (B:Nat→List Int) (K:List Nat) (i:Nat) (l:AV) (σ:St):Prop where
 rl:∃X,RL σ 100 l X∧X.map yOf=recY B (K.take i)
 keep:Rest s2 σ [v]
 fr:∀j∈fid l,s2.next≤j
 row:σ.get v=some (.row [.ptr e 0,i64 (nxtK K i),i64 (0:Nat),i64 (0:Nat)] 71)
theorem rop_turn{s2:St}{v e nx0:Nat}{fv:AV}{s:PS}{r:RS}(hS:Sim s r)(hB:BytR r)(hoff:s.off=false)(hu:usedR r.F≤8000000)(hW:RA s2 v e fv r nx0 0 0){v7:AV}(hv:SL s2 v7 (segK r))
  {i:Nat} (hi:i<(segK r).length) {l:AV} {σ:St} (hI:ROp s2 v e (segB r) (segK r) i l σ):
  ∃l' σ',ROp s2 v e (segB r) (segK r) (i+1) l' σ'∧∀T,f15L5 T (.ptr e 0) (.ptr v 0) l v7 (i64 i)→
   AW Tryz.prog (.seq (f15P 6) (.seq (.block 1 (.seq (f15P 7) (.seq (f15P 8) (.seq (f15P 9) (.seq (.seq (f15P 10) (.block 2 (.loop (f15P 11)))) (f15P 12)))))) (f15P 13))) (fun ex T' s=>ex= .normal∧f15L5 T' (.ptr e 0) (.ptr v 0) l' v7 (i64 (i+1:Nat))∧s=σ') T σ:=by
 have hki:(segK r)[i]? =some (segK r)[i]:=List.getElem?_eq_getElem hi
 have hmem:=List.getElem_mem hi
 have hil:(segK r).length≤4096:=Nat.le_trans (sgs_len _) (by rw [List.length_map];exact hS.len)
 generalize (segK r)[i]=k at*
 have hk9:=sgs_ok _ k hmem
 obtain ⟨id25,e25,hg25,x1,x2⟩:=hv.atB hki
 have hg25σ:=hI.keep.keep id25 _ (by
  simp only [List.mem_singleton]
  intro q;rw [q,hW.row] at hg25;simp at hg25) hg25
 have hld:=x2 σ hg25σ
 obtain ⟨σ1,n1,N1⟩:=nameR_ok hI.keep.wf (hI.keep.lock.trans hW.lock) (n:=k) hk9.1 hk9.2
 have hpσ:RD σ e fv r:=RD.rest hW.disk hI.keep (by simpa using hW.ve.symm) (fun j hj hm=>hW.vf (by rw [←List.mem_singleton.1 hm];exact hj))
 have hp1:RD σ1 e fv r:=RD.rest hpσ N1 (by simp) (fun _ _=>by simp)
 have hl1:σ1.lock= []:=N1.lock.trans (hI.keep.lock.trans hW.lock)
 obtain ⟨w,σ2,r2,R2,hv2,_⟩:=rread_ok hp1 N1.wf hl1 hS.rgood (by unfold big;omega) (by have:=hS.len;omega) (nmG_small k)
 rw [(seg_file hS hoff hmem).1] at r2 hv2
 rcases hv2 with ⟨h0,_⟩|⟨_,g,f2,hown⟩
 ·exact absurd rfl h0
 have hbb:g.lb++g.ob=segB r k:=by unfold segB bytR;rw [f2];rfl
 rw [hbb] at hown
 obtain ⟨xs,hxs,h256⟩:=byts_nat (segB_byts hB k)
 have hBl:=segB_len hS k
 have hl2:σ2.lock= []:=R2.lock.trans hl1
 have hbs:=hown.bs
 rw [hxs] at hbs
 obtain ⟨v13,js,σ3,r3,hL3,R3,_⟩:=splitR_ok R2.wf hl2 hbs h256 (by have:=congrArg List.length hxs;rw [List.length_map] at this;omega)
 rw [←hxs] at hL3
 have R03:=(N1.trans R2).trans R3
 obtain ⟨X,hX,hXY⟩:=hI.rl
 have K03:=hI.keep.trans (R03.weak (by simp))
 have htk:(segK r).take (i+1)=(segK r).take i++ [k]:=by rw [List.take_add_one,hki];rfl
 have hYe:recY (segB r) ((segK r).take (i+1))=recY (segB r) ((segK r).take i)++(splitN (segB r k).length (segB r k)).map fun d=>(k,d):=by
  rw [htk,recY_app];congr 1;simp [recY]
 have hYb:=recY_b hS hu (i+1)
 rw [hYe,List.length_append,List.length_map] at hYb
 have hv3:SL σ3 v7 (segK r):=hv.restS K03 (fun j hj vs hg=>by rw [List.mem_singleton.1 hj,hW.row] at hg;simp at hg)
 obtain ⟨l',σ4,a1,a2⟩:=rin_loop (k:=k) (e:=e) (v:=v) hW.wf hW.lock ⟨⟨X,hX.rest R03,hXY⟩,K03,hI.fr,fun _ _ _ h=>h⟩ hL3 hv3 hki (by omega)
 have hw4:σ4.get v=some (.row [.ptr e 0,i64 (nxtK (segK r) i),i64 (0:Nat),i64 (0:Nat)] 71):=a1.kt v _ (fun vs q=>by cases q) (R03.keep _ _ (by simp) hI.row)
 have hl4:σ4.lock= []:=a1.keep.lock.trans hW.lock
 have hst:=storeWl hw4 hl4 (k:=1) (by simp) (k+1:Nat)
 have hld4:=x2 σ4 (a1.kt _ _ (fun vs q=>by cases q) (R03.keep _ _ (by simp) hg25σ))
 have K5:Rest σ4 (σ4.set v (.row ([.ptr e 0,i64 (nxtK (segK r) i),i64 (0:Nat),i64 (0:Nat)].set 1 (i64 (k+1:Nat))) 71)) [v]:=Rest.set a1.keep.wf (a1.keep.wf _ _ hw4) _ (by simp)
 obtain ⟨X',hX',hXY'⟩:=a1.rl
 have hln:lenA E0 73 v7=some (i64 (segK r).length):=Ls.len sl55 hv
 refine ⟨l',_,⟨⟨X',hX'.keep fun q vs ty hty hg=>K5.keep q _ (fun e=> ?_) hg,by rw [hYe];exact hXY'⟩,a1.keep.trans K5,a1.fr,by rw [St.get_set,if_pos rfl,nxtK_at hki];rfl⟩,fun T hT=> ?_⟩
 ·rw [List.mem_singleton.1 e,hw4] at hg
  simp only [Option.some.injEq,AObj.row.injEq] at hg
  rcases hty with h|h<;>(rw [h] at hg;exact absurd hg.2 (by decide))
 ·refine AW.andThen (f15_6_T hln (lssT (by omega)) hT) fun T1 q1=> ?_
  refine AW.andThen (AW.blockN (L:=fun T=>f15L5 T (.ptr e 0) (.ptr v 0) l' v7 (i64 i)) ?_) fun T9 q9=>f15_13 (add64 (by omega)) q9
  refine AW.andThen (f15_7 x1 hld n1 q1) fun T3 q3=>AW.andThen (f15_8 r2 q3) fun T4 q4=>AW.andThen (f15_9 r3 q4) fun T5 q5=> ?_
  exact AW.andThen (AW.andThen (f15_10 q5) fun T7 q7=>a2 T7 q7) fun T8 q8=>f15_12 x1 hld4 (add64 (by omega)) hst q8
theorem rgopen_off{st:St}{e:Nat}{fv:AV}{r:RS}(hp:RD st e fv r)(hoff:r.off=true):obC 15 [.ptr e 0] st (.tup [.nilp,.nils,i64 8]) st:=by
 have hob:loadA E0 st 4 (.ptr e 3)=some (bo r.off):=load_row hp.row (p4 rfl)
 rw [hoff] at hob
 refine ACalls.body (E:=E0) hE Tryz.func15 f15body ?_
 refine AW.andThen (f15_0 ⟨rfl,rfl⟩) fun T1 q1=> ?_
 refine AW.retThen (f15_1_T hob q1) fun T8 q8=> ?_
 refine ⟨[T8.get 2,T8.get 3,T8.get 4],rfl,?_⟩
 simp only [oneOrTup]
 exact ⟨by rw [q8.2.1,q8.2.2.1,q8.2.2.2],trivial⟩
theorem build71(e:Nat):buildA E0 71 [(0,.ptr e 0),(1,i64 1)]=some (.agg [.ptr e 0,i64 1,i64 0,i64 0]):=by kernel_rfl
theorem box71(st:St)(e:Nat):boxA st 71 (.agg [.ptr e 0,i64 1,i64 0,i64 0])=some (.ptr st.next 0,st.push (.row [.ptr e 0,i64 1,i64 0,i64 0] 71)):=by kernel_rfl
theorem rgopen_ok{st:St}{e:Nat}{fv:AV}{s:PS}{r:RS}(hS:Sim s r)(hB:BytR r)(hp:RD st e fv r)(hw:st.wf)(hl:st.lock= [])(hoff:s.off=false)(hu:usedR r.F≤8000000):
  ∃l st',obC 15 [.ptr e 0] st (.tup [.ptr st.next 0,l,i64 0]) st'∧RA st' st.next e fv r (nxtK (segK r) (segK r).length) 0 0∧(∃X,RL st' 100 l X∧X.map yOf=recY (segB r) (segK r))∧Rest st st' []:=by
 have hob:loadA E0 st 4 (.ptr e 3)=some (bo r.off):=load_row hp.row (p4 rfl)
 rw [←hS.off,hoff] at hob
 have R1:Rest st (st.push (.row [.ptr e 0,i64 (1:Nat),i64 (0:Nat),i64 (0:Nat)] 71)) []:=Rest.push hw _ _
 have W1:RA (st.push (.row [.ptr e 0,i64 (1:Nat),i64 (0:Nat),i64 (0:Nat)] 71)) st.next e fv r 1 0 0:=⟨RD.rest hp R1 (by simp) (fun _ _=>by simp),by rw [St.get_push,if_pos rfl],R1.wf,hl⟩
 have hbx:=box71 st e
 change boxA st 71 (.agg [.ptr e 0,i64 1,i64 0,i64 0])=some (.ptr st.next 0,st.push (.row [.ptr e 0,i64 (1:Nat),i64 (0:Nat),i64 (0:Nat)] 71)) at hbx
 generalize st.push (.row [.ptr e 0,i64 (1:Nat),i64 (0:Nat),i64 (0:Nat)] 71)=s1 at*
 obtain ⟨v7,s2,b1,b2,b3,_⟩:=rsegs_ok W1 hS.len
 have hil:(segK r).length≤4096:=Nat.le_trans (sgs_len _) (by rw [List.length_map];exact hS.len)
 have W2:=W1.rest b3
 have R12:Rest st s2 []:=R1.trans b3
 have hln:lenA E0 73 v7=some (i64 (segK r).length):=Ls.len sl55 b2
 obtain ⟨c,c0,inv,step⟩:=chain_seq (σ:=AV×St) (fun i p=>ROp s2 st.next e (segB r) (segK r) i p.1 p.2)
  (fun i p p'=>∀T,f15L5 T (.ptr e 0) (.ptr st.next 0) p.1 v7 (i64 i)→
   AW Tryz.prog (.seq (f15P 6) (.seq (.block 1 (.seq (f15P 7) (.seq (f15P 8) (.seq (f15P 9) (.seq (.seq (f15P 10) (.block 2 (.loop (f15P 11)))) (f15P 12)))))) (f15P 13))) (fun ex T' s=>ex= .normal∧f15L5 T' (.ptr e 0) (.ptr st.next 0) p'.1 v7 (i64 (i+1:Nat))∧s=p'.2) T p.2) (segK r).length (.nils,s2)
  ⟨⟨[],RL.nil _ _,rfl⟩,Rest.refl b3.wf _,fun j hj=>by simp [fid] at hj,W2.row⟩
  (fun i p hi hI=>by
   obtain ⟨l',σ',h1,h2⟩:=rop_turn hS hB hoff hu W2 b2 hi hI
   exact ⟨(l',σ'),h1,h2⟩)
 have hI:=inv (segK r).length (Nat.le_refl _)
 have hrl:=hI.rl
 rw [List.take_of_length_le (Nat.le_refl _)] at hrl
 refine ⟨(c (segK r).length).1,(c (segK r).length).2,?_,⟨RD.rest W2.disk hI.keep (by simpa using W2.ve.symm) (fun j hj hm=>W2.vf (by rw [←List.mem_singleton.1 hm];exact hj)),hI.row,hI.keep.wf,hI.keep.lock.trans W2.lock⟩,hrl,R12.fresh hI.keep (fun i hi=>by rw [List.mem_singleton.1 hi];exact Nat.le_refl _) hw⟩
 refine ACalls.body (E:=E0) hE Tryz.func15 f15body ?_
 refine AW.andThen (f15_0 ⟨rfl,rfl⟩) fun T1 q1=> ?_
 refine AW.andThen (f15_1_F hob q1) fun T2 q2=> ?_
 refine AW.andThen (f15_2 (build71 e) hbx q2) fun T3 q3=> ?_
 refine AW.andThen (f15_3 q3) fun T4 q4=> ?_
 refine AW.andThen (f15_4 b1 q4) fun T4 q4=> ?_
 refine AW.andThen (AW.andThen (f15_5 q4) fun T5 q5=>AW.turns (In:=fun i T=>f15L5 T (.ptr e 0) (.ptr st.next 0) (c i).1 v7 (i64 i)) (L:=fun T=>f15L6 T (.ptr st.next 0) (c (segK r).length).1) (c:=fun i=>(c i).2) (n:=(segK r).length) (sf:=(c (segK r).length).2) (by rw [c0]) (by rw [c0];exact q5) (fun i hi T hT=>step i hi T hT)
  (fun T hT=>AW.seqExit (f15_6_F hln (lssF (by omega)) hT))) fun T7 q7=> ?_
 refine AW.atRet (f15_14 q7) fun T8 q8=> ?_
 refine ⟨[T8.get 2,T8.get 3,T8.get 4],rfl,?_⟩
 simp only [oneOrTup]
 exact ⟨by rw [q8.2.1,q8.2.2.1,q8.2.2.2],trivial⟩
end
section
set_option maxRecDepth 8000
theorem sl47:SlT 47 100 2:=by
 have h:(E0.ty 47).map (fun i=>i.desc)=some (.slice 100):=by kernel_rfl
 obtain ⟨q,h1,h2⟩:=Option.map_eq_some_iff.1 h
 exact ⟨⟨q,h1,h2⟩,by kernel_rfl⟩
theorem RL.at{st:St}{t et:Nat}(hT:SlT t et 2){l:AV}{X:List (Nat×AV×List Int)}(h:RL st et l X){i:Nat}{x:Nat×AV×List Int}(hx:X[i]? =some x):∃id vs,st.get id=some (.row vs et)∧indexAddrA E0 t l (i64 i)=some (.ptr id (0+i*2))∧loadA E0 st 3 (.ptr id (0+i*2))=some (i64 (x.1:Nat))∧loadA E0 st 22 (.ptr id (0+i*2+1))=some x.2.1∧sliceCells st x.2.1=some (x.2.2.length,x.2.2.map u8):=by
 have hi:i<X.length:=(List.getElem?_eq_some_iff.1 hx).1
 obtain ⟨h1,h2⟩:=recCs_at X i x hx
 rcases h.ls with ⟨e,_⟩|⟨_,_,id,rfl,hg⟩
 ·omega
 ·exact ⟨id,_,hg,idxS hT hi,load_row hg (p3 (by rw [Nat.zero_add];exact h1)),load_row hg (part24 (by rw [Nat.zero_add];exact h2)),(h.each x (List.mem_of_getElem? hx)).cells⟩
theorem same_ok{st:St}{l1 l2:AV}{X1 X2:List (Nat×AV×List Int)}(hw:st.wf)(h1:RL st 95 l1 X1)(h2:RL st 100 l2 X2)(hX:X1.map yOf=X2.map yOf)(hb:X1.length≤1000000):∃st',obC 24 [l1,l2] st TT st'∧Rest st st' []:=by
 have hlen:X1.length=X2.length:=by have:=congrArg List.length hX;simpa using this
 have e1:lenA E0 43 l1=some (i64 X1.length):=Ls.len sl28 h1.ls
 have e2:lenA E0 47 l2=some (i64 X1.length):=by rw [hlen];exact Ls.len sl47 h2.ls
 have turn:∀i (σ:St),i<X1.length→Rest st σ []→∃σ',Rest st σ' []∧∀T,f24L2 T l1 l2 (i64 X1.length) (i64 i)→AW Tryz.prog (f24P 3) (fun ex T' s=>ex= .normal∧f24L2 T' l1 l2 (i64 X1.length) (i64 (i+1:Nat))∧s=σ') T σ:=fun i σ hi hR=>by
  have a1:X1[i]? =some X1[i]:=List.getElem?_eq_getElem hi
  have a2:X2[i]? =some (X2[i]'(by omega)):=List.getElem?_eq_getElem (by omega)
  have a3:yOf X1[i]=yOf (X2[i]'(by omega)):=by
   have:=congrArg (·[i]?) hX
   simp only [List.getElem?_map,a1,a2,Option.map_some,Option.some.injEq] at this
   exact this
  have b1:=h1.rest hR
  have b2:=h2.rest hR
  generalize X1[i]=x1 at*
  generalize X2[i]'(by omega)=x2 at*
  obtain ⟨p1,vs1,g1,i1,c1,d1,s1⟩:=b1.at sl28 a1
  obtain ⟨p2,vs2,g2,i2,c2,d2,s2⟩:=b2.at sl47 a2
  simp only [yOf,Prod.mk.injEq] at a3
  rw [←a3.1] at c2
  rw [←a3.2] at s2
  have hlt:∀k∈ [p1,p2,p1,p2],k<σ.next:=fun k hk=>by
   simp only [List.mem_cons,List.not_mem_nil,or_false] at hk
   rcases hk with rfl|rfl|rfl|rfl
   ·exact hR.wf _ _ g1
   ·exact hR.wf _ _ g2
   ·exact hR.wf _ _ g1
   ·exact hR.wf _ _ g2
  have hall: [p1,p2,p1,p2].all (fun k=>(σ.get k).isSome)=true:=all_some fun k hk=>by
   simp only [List.mem_cons,List.not_mem_nil,or_false] at hk
   rcases hk with rfl|rfl|rfl|rfl
   ·exact ⟨_,g1⟩
   ·exact ⟨_,g2⟩
   ·exact ⟨_,g1⟩
   ·exact ⟨_,g2⟩
  have hq:=equal_ok (st:=σ.hide [p1,p2,p1,p2]) (v:=x1.2.1) (w:=x2.2.1) (bs:=x1.2.2) s1 s2
  have R5:=hideshow hR.wf [p1,p2,p1,p2]
  exact ⟨_,hR.trans R5,fun T hT=>f24_3_TFT (lssT (by omega)) hlt i1 c1 i2 c2 (neqF rfl) i1 d1 i2 d2 hall hq (add64 (by omega)) hT⟩
 obtain ⟨c,c0,inv,step⟩:=chain_seq (fun _ σ=>Rest st σ []) _ X1.length st (Rest.refl hw _) turn
 refine ⟨c X1.length,?_,inv _ (Nat.le_refl _)⟩
 refine ACalls.body (E:=E0) hE Tryz.func24 f24body ?_
 refine AW.andThen (f24_0 ⟨rfl,rfl,rfl⟩) fun T1 q1=> ?_
 refine AW.andThen (f24_1_F e1 e2 (neqF rfl) q1) fun T2 q2=> ?_
 refine AW.andThen (AW.andThen (f24_2 e1 q2) fun T3 q3=>AW.turns (In:=fun i T=>f24L2 T l1 l2 (i64 X1.length) (i64 i)) (L:=fun T=>f24L3 T) (c:=c) (n:=X1.length) (sf:=c X1.length) (by rw [c0]) q3 (fun i hi T hT=>step i hi T hT) (fun T hT=>f24_3_F (lssF (by omega)) hT)) fun T4 q4=> ?_
 refine AW.atRet (f24_4 q4) fun T5 q5=> ?_
 refine ⟨_,rfl,?_⟩
 simp only [oneOrTup]
 exact ⟨q5.2,trivial⟩
end
end Go.Proofs.YtalchcdenhfmiaaGreatDoor.E

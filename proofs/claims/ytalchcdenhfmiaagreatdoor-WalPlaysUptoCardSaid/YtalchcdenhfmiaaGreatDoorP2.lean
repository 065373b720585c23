/- Part 2 of the proof, over the abstract machine: contracts of the functions that the statement reaches, joined out of several texts. Condition: none beyond those that the lemmas name. -/
import Derived.Test.YtalchcdenhfmiaaGreatDoorP1
namespace Go.Proofs.YtalchcdenhfmiaaGreatDoor.E
open Go Go.Proofs
section
set_option maxRecDepth 4000
def GC(T:Tm):List AV:= [T.get 0,T.get 1,T.get 4,T.get 5]
theorem er_take{F:List RF}{i:Nat}{f:RF}(h:F[i]? =some f)(k:Nat):(F.take (i+1)).eraseIdx k=if i=k then (F.take i).eraseIdx k else if i<k then (F.take i).eraseIdx k++ [f] else (F.take i).eraseIdx k++ [f]:=by
 have hi:=(List.getElem?_eq_some_iff.1 h).1
 rw [List.take_add_one,h]
 simp only [Option.toList_some]
 have hl:(F.take i).length=i:=by simp;omega
 rcases Nat.lt_trichotomy i k with h1|h1|h1
 ·rw [if_neg (by omega),if_pos h1,List.eraseIdx_of_length_le (by simp;omega),List.eraseIdx_of_length_le (by omega)]
 ·rw [if_pos h1,List.eraseIdx_append_of_length_le (by omega),hl,←h1,Nat.sub_self]
  rw [List.eraseIdx_of_length_le (l:=F.take i) (by omega)]
  simp
 ·rw [if_neg (by omega),if_neg (by omega),List.eraseIdx_append_of_lt_length (by omega)]
noncomputable def cuS(st:St)(F:List RF)(k:Nat):Nat→AV×St
 |0=>(.nils,st)
 |i+1=>match F[i]? with
  |some g=>if i=k then cuS st F k i else (appendA E0 ((cuS st F k i).2.push (.row [str g.name,g.lv,g.ov] 110)) 96 96 (cuS st F k i).1 (.sl (cuS st F k i).2.next 3 0 1 true)).getD (cuS st F k i)
  |none=>cuS st F k i
theorem cuS_ok{st:St}{F:List RF}{k:Nat}(hw:st.wf)(hl:st.lock= [])(hsz:F.length≤1000000):∀i,i≤F.length→Rest st (cuS st F k i).2 []∧OwnF (cuS st F k i).2 (cuS st F k i).1 ((F.take i).eraseIdx k)∧(∀j∈fid (cuS st F k i).1,st.next≤j)∧
  ∀g,F[i]? =some g→i≠k→appendA E0 ((cuS st F k i).2.push (.row [str g.name,g.lv,g.ov] 110)) 96 96 (cuS st F k i).1 (.sl (cuS st F k i).2.next 3 0 1 true)=some (cuS st F k (i+1)):=by
 have next:∀i,i≤F.length→Rest st (cuS st F k i).2 []→OwnF (cuS st F k i).2 (cuS st F k i).1 ((F.take i).eraseIdx k)→∀g,F[i]? =some g→i≠k→∃w s2,appendA E0 ((cuS st F k i).2.push (.row [str g.name,g.lv,g.ov] 110)) 96 96 (cuS st F k i).1 (.sl (cuS st F k i).2.next 3 0 1 true)=some (w,s2)∧cuS st F k (i+1)=(w,s2)∧OwnF s2 w ((F.take i).eraseIdx k++ [g])∧Rest ((cuS st F k i).2.push (.row [str g.name,g.lv,g.ov] 110)) s2 (fid (cuS st F k i).1)∧(w=(cuS st F k i).1∧s2=((cuS st F k i).2.push (.row [str g.name,g.lv,g.ov] 110))∨∃l f,w= .sl ((cuS st F k i).2.push (.row [str g.name,g.lv,g.ov] 110)).next 3 0 l f):=fun i hi R hv g hfi hik=>by
  have R3:Rest (cuS st F k i).2 ((cuS st F k i).2.push (.row [str g.name,g.lv,g.ov] 110)) []:=Rest.push R.wf _ _
  have hown:OwnF ((cuS st F k i).2.push (.row [str g.name,g.lv,g.ov] 110)) (cuS st F k i).1 ((F.take i).eraseIdx k):=by
   rcases hv with h|⟨h,j,hv,hg⟩
   ·exact .inl h
   ·exact .inr ⟨h,j,hv,R3.keep _ _ (by simp) hg⟩
  have hlen:((F.take i).eraseIdx k).length≤i:=by
   have:=List.length_eraseIdx_le (F.take i) k
   simp at this;omega
  have hlt:=(List.getElem?_eq_some_iff.1 hfi).1
  obtain ⟨w,s2,b1,b2,b3,b4⟩:=appF hown R3.wf (by simpa using R.lock.trans hl) (one_cells (cuS st F k i).2 g) (by simp;omega)
  refine ⟨w,s2,b1,?_,b2,b3,b4⟩
  rw [cuS,hfi]
  simp only
  rw [if_neg hik,b1];rfl
 intro i
 induction i with
 |zero=>exact fun _=>⟨Rest.refl hw _,.inl ⟨by simp,rfl⟩,(fun j hj=>(by cases hj)),fun g hg hik=>by
   obtain ⟨w,s2,b1,b2,_⟩:=next 0 (by omega) (Rest.refl hw _) (.inl ⟨by simp,rfl⟩) g hg hik
   rw [b1,b2]⟩
 |succ i ih=>
  intro hi
  obtain ⟨R,hv,hf,hs⟩:=ih (by omega)
  have hlt:i<F.length:=hi
  have hfi:=List.getElem?_eq_getElem hlt
  have he:=er_take hfi k
  have key:Rest st (cuS st F k (i+1)).2 []∧OwnF (cuS st F k (i+1)).2 (cuS st F k (i+1)).1 ((F.take (i+1)).eraseIdx k)∧(∀j∈fid (cuS st F k (i+1)).1,st.next≤j):=by
   by_cases hik:i=k
   ·rw [if_pos hik] at he
    have e:cuS st F k (i+1)=cuS st F k i:=by
     rw [cuS,hfi]
     simp only
     rw [if_pos hik]
    rw [e,he]
    exact ⟨R,hv,hf⟩
   ·rw [if_neg hik,ite_self] at he
    obtain ⟨w,s2,b1,b2,b3,b4,b5⟩:=next i (by omega) R hv _ hfi hik
    rw [b2,he]
    refine ⟨(R.trans (Rest.push R.wf _ _)).old b4 hf hw,b3,?_⟩
    rcases b5 with ⟨rfl,_⟩|⟨_,_,rfl⟩
    ·exact hf
    ·intro j hj
     simp only [fid,List.mem_singleton] at hj
     have:=R.next
     simp at hj
     omega
  refine ⟨key.1,key.2.1,key.2.2,fun g hg hik=> ?_⟩
  obtain ⟨w,s2,b1,b2,_⟩:=next (i+1) hi key.1 key.2.1 g hg hik
  rw [b1,b2]
theorem cut_loop{d k:Nat}{fv:AV}{s:RS}{T:Tm}{st:St}(hr:RD st d fv s)(hw:st.wf)(hl:st.lock= [])(hsz:s.F.length≤1000000)(hn:T.n=32)(h0:T.get 0= .ptr d 0)(h1:T.get 1=i64 k)(h4:T.get 4= .nils)(h5:T.get 5=i64 0):
  AW Tryz.prog (.loop (cuP 2)) (fun e T' st'=>e= .exit 0∧T'.n=32∧T'.get 0= .ptr d 0∧T'.get 4=(cuS st s.F k s.F.length).1∧st'=(cuS st s.F k s.F.length).2) T st:=by
 refine .loop (fun m T st'=>∃i:Nat,i≤s.F.length∧m=s.F.length- i∧st'=(cuS st s.F k i).2∧T.n=32∧T.get 0= .ptr d 0∧T.get 1=i64 k∧T.get 4=(cuS st s.F k i).1∧T.get 5=i64 i) s.F.length ⟨0,by omega,rfl,rfl,hn,h0,h1,h4,h5⟩ fun m T st' hI=> ?_
 obtain ⟨i,hi,rfl,rfl,hn,h0,h1,h4,h5⟩:=hI
 obtain ⟨R,hv,_,hs⟩:=cuS_ok (k:=k) hw hl hsz i hi
 have hT:=conz (P:=fun p=>T.get p.1=p.2) (p:=(0,.ptr d 0)) h0 (conz (p:=(1,i64 k)) h1 (conz (p:=(4,(cuS st s.F k i).1)) h4 (one (p:=(5,i64 i)) h5)))
 have hr':=hr.rest R (by simp) (by simp)
 have o1:obL (cuS st s.F k i).2 96 (.ptr d 0) fv:=⟨hr'.load,rfl⟩
 cases hfi:s.F[i]? with
 |none=>
  have hle:s.F.length≤i:=List.getElem?_eq_none_iff.1 hfi
  obtain rfl:i=s.F.length:=by omega
  rcases hr'.fv with ⟨h2,rfl⟩|⟨_,f,fl,rfl,h3⟩
  ·refine (any_run (G:=GC) (cu_endN d s.F.length (cuS st s.F k s.F.length).1 (cuS st s.F k s.F.length).2 k) (by simp only [Ob.ok_cons,Ob.ok_nil,and_true];exact ⟨o1,lt_F (by omega)⟩) hn hT).mono fun e T' st2 ⟨he,hn',hF,hst⟩=> ?_
   subst he;subst hst
   simp only [GC,List.cons.injEq,and_true] at hF
   exact ⟨rfl,hn',hF.1,hF.2.2.1,rfl⟩
  ·refine (any_run (G:=GC) (cu_end d f s.F.length s.F.length fl (cuS st s.F k s.F.length).1 (cuS st s.F k s.F.length).2 k) (by simp only [Ob.ok_cons,Ob.ok_nil,and_true];exact ⟨o1,lt_F (by omega)⟩) hn hT).mono fun e T' st2 ⟨he,hn',hF,hst⟩=> ?_
   subst he;subst hst
   simp only [GC,List.cons.injEq,and_true] at hF
   exact ⟨rfl,hn',hF.1,hF.2.2.1,rfl⟩
 |some g=>
  obtain ⟨f,fl,rfl,hgf⟩:=hr'.fv.of hfi
  have hlt:i<s.F.length:=(List.getElem?_eq_some_iff.1 hfi).1
  have hadd:i64 (addN i 1)=i64 ((i+1:Nat):Int):=by rw [addN_eq _ _ (by omega)];rfl
  by_cases hik:i=k
  ·refine (any_run (G:=GC) (cu_skip d f s.F.length i (i+1) fl (cuS st s.F k i).1 (cuS st s.F k i).2 k) (by simp only [Ob.ok_cons,Ob.ok_nil,and_true];exact ⟨o1,lt_T (by omega),ob_F (by show (_ !=_)=false;simp [hik]),hadd⟩) hn hT).mono fun e T' st2 ⟨he',hn',hF,hst⟩=> ?_
   subst he';subst hst
   simp only [GC,List.cons.injEq,and_true] at hF
   have e:cuS st s.F k (i+1)=cuS st s.F k i:=by
    rw [cuS,hfi]
    simp only
    rw [if_pos hik]
   exact ⟨s.F.length- (i+1),by omega,i+1,by omega,rfl,by rw [e],hn',hF.1,hF.2.1,by rw [e];exact hF.2.2.1,hF.2.2.2⟩
  ·have oag:obL (cuS st s.F k i).2 110 (.ptr f (0+i*3)) (agg g):=⟨by rw [Nat.zero_add];exact load_row hgf (p121' hfi),rfl⟩
   refine (any_run (G:=GC) (cu_take d f s.F.length i (i+1) fl (cuS st s.F k i).1 (cuS st s.F k (i+1)).1 (agg g) (.sl (cuS st s.F k i).2.next 3 0 1 true) (cuS st s.F k i).2 ((cuS st s.F k i).2.push (.row [str g.name,g.lv,g.ov] 110)) (cuS st s.F k (i+1)).2 k) (by simp only [Ob.ok_cons,Ob.ok_nil,and_true];exact ⟨o1,lt_T (by omega),ob_T (by show (_ !=_)=true;simp;omega),o1,by omega,oag,bs113 _ _ _ _,hs g hfi hik,hadd⟩) hn hT).mono fun e T' st2 ⟨he',hn',hF,hst⟩=> ?_
   subst he';subst hst
   simp only [GC,List.cons.injEq,and_true] at hF
   exact ⟨s.F.length- (i+1),by omega,i+1,by omega,rfl,rfl,hn',hF.1,hF.2.1,hF.2.2.1,hF.2.2.2⟩
theorem OwnF.set{st:St}{d:Nat}{v:AV}{F:List RF}(h:OwnF st v F){vs:List AV}(hd:st.get d=some (.row vs 98))(o:AObj):FV (st.set d o) v F:=by
 refine h.fv.keep fun j hj p hp=> ?_
 rw [St.get_set,if_neg fun e=> ?_]
 ·exact hp
 ·rcases h with ⟨_,rfl⟩|⟨_,r,rfl,hg⟩
  ·cases hj
  ·simp only [fid,List.mem_singleton] at hj
   exact row_ne hg hd (by decide) (hj.symm.trans e)
theorem cut_ok{st:St}{d:Nat}{fv:AV}{s:RS}(hp:RD st d fv s)(hw:st.wf)(hl:st.lock= [])(hsz:s.F.length≤1000000)(k:Nat):
  ∃st' fv',obC 87 [.ptr d 0,i64 k] st (.tup []) st'∧RD st' d fv' {s with F:=s.F.eraseIdx k}∧Rest st st' [d]∧∀i∈fid fv',st.next≤i:=by
 obtain ⟨R,hv,hfid,_⟩:=cuS_ok (k:=k) hw hl hsz s.F.length (Nat.le_refl _)
 rw [List.take_length] at hv
 have hp3:=hp.rest R (by simp) (by simp)
 have hd3:=R.wf _ _ hp3.row
 have hst:=store113 hp3.row (R.lock.trans hl) hv.cell
 have run:=fun T hn h0 h1 h4 h5=>cut_loop (T:=T) (k:=k) hp hw hl hsz hn h0 h1 h4 h5
 generalize (cuS st s.F k s.F.length).1=v at*
 generalize (cuS st s.F k s.F.length).2=s3 at*
 refine ⟨s3.set d (.row [v,i64 s.q,i64 s.fu,bo s.off] 98),v,?_,⟨by rw [St.get_set,if_pos rfl],hv.set hp3.row _⟩,(R.weak (by simp)).trans (Rest.set R.wf hd3 _ (by simp)),hfid⟩
 refine ACalls.body (E:=E0) hE Tryz.func87 body76 ?_
 refine .seq ((any_run (G:=GC) (cu_0 d st k) Ob.ok_nil rfl (conz rfl (one rfl))).mono fun e T1 s1 ⟨he,n1,F1,hst⟩=> ?_)
 subst he;subst hst
 simp only [GC,List.cons.injEq] at F1
 simp only [thenA]
 refine .seq (.seq ((any_run (G:=GC) (cu_1 d s1 k) Ob.ok_nil n1 (conz F1.1 (conz F1.2.1 (one F1.2.2.1)))).mono fun e T2 s2 ⟨he,n2,F2,hst⟩=> ?_))
 subst he;subst hst
 simp only [GC,List.cons.injEq,and_true] at F2
 simp only [thenA]
 refine .block ((run _ n2 F2.1 F2.2.1 F2.2.2.1 F2.2.2.2).mono fun e T3 s4 ⟨he,n3,h0,h4,hst3⟩=> ?_)
 subst he;subst hst3
 simp only [blockA,if_true,thenA]
 refine (any_run (G:=GC) (cu_3 d v s4 (s4.set d (.row [v,i64 s.q,i64 s.fu,bo s.off] 98))) (by simp only [Ob.ok_cons,Ob.ok_nil,and_true];exact hst) n3 (conz h0 (one h4))).mono fun e T4 s5 ⟨he,n4,F4,hst'⟩=> ?_
 subst he;subst hst'
 exact ⟨[],rfl,rfl,rfl⟩
end
section
set_option maxRecDepth 100000
def sitesQ:Nat→List Nat
 |31=> [2010,6061,6062,2026,28,6063,6064]
 |55=> [6066,14,6063,6087]
 |53=> [6066,14,6063,2028,6057,2037,8000,2041,2046,2048,5000]
 |33=> [6066,16,2020,6067,2026,2031,8000,6063,2045,6057,2051]
 |50=> [6066,15,2022,2031,6057,8000]
 |_=> []
noncomputable def rqEv(f:Nat)(args:List AV)(st:St)(o:List Or):=(evCallS Tryz.prog E0 noOv sitesQ 100000 f args st o).map fun q=>(q.1,q.2.1,q.2.2.2)
section
variable (d f len i j:Nat) (fl:Bool) (n n2:ByteArray) (e q u y:Int) (v a x o1 o2 lv ov:AV) (st s1 s2 s3 s4 s5 s6:St)
def obT(d:Nat)(n:ByteArray)(i:Nat)(e:Int)(st:St):Prop:=obC 66 [.ptr d 0,str n] st (.tup [i64 i,i64 e]) st
theorem rcOff:rqEv 31 [.ptr d 0,str n] st [.eff TT id]=some (i64 8,st,[obL st 4 (.ptr d 3) TT]):=by kernel_rfl
theorem rcBad:rqEv 31 [.ptr d 0,str n] st [.eff FF id,.eff FF id]=some (i64 1,st,[obL st 4 (.ptr d 3) FF,obC 61 [str n] st FF st]):=by kernel_rfl
theorem rcFull:rqEv 31 [.ptr d 0,str n] st [.eff FF id,.eff TT id,.eff (.tup [i64 i,FF]) id,.eff (.sl f 3 0 len fl) id,TT]=some (i64 7,st,[obL st 4 (.ptr d 3) FF,obC 61 [str n] st TT st,obC 62 [.ptr d 0,str n] st (.tup [i64 i,FF]) st,obL st 96 (.ptr d 0) (.sl f 3 0 len fl),bo (geN len 4096)=TT]):=by kernel_rfl
theorem rcBurnT:rqEv 31 [.ptr d 0,str n] st [.eff FF id,.eff TT id,.eff (.tup [i64 i,TT]) id,.eff TT (fun _=>s1)]=some (i64 8,s1,[obL st 4 (.ptr d 3) FF,obC 61 [str n] st TT st,obC 62 [.ptr d 0,str n] st (.tup [i64 i,TT]) st,obC 63 [.ptr d 0] st TT s1]):=by kernel_rfl
theorem rcOkT:rqEv 31 [.ptr d 0,str n] st [.eff FF id,.eff TT id,.eff (.tup [i64 i,TT]) id,.eff FF (fun _=>s1),.eff (.tup []) (fun _=>s2)]=some (i64 0,s2,[obL st 4 (.ptr d 3) FF,obC 61 [str n] st TT st,obC 62 [.ptr d 0,str n] st (.tup [i64 i,TT]) st,obC 63 [.ptr d 0] st FF s1,obC 64 [.ptr d 0,.agg [str n,.nils,.nils]] s1 (.tup []) s2]):=by kernel_rfl
theorem rcBurnN:rqEv 31 [.ptr d 0,str n] st [.eff FF id,.eff TT id,.eff (.tup [i64 i,FF]) id,.eff .nils id,FF,.eff TT (fun _=>s1)]=some (i64 8,s1,[obL st 4 (.ptr d 3) FF,obC 61 [str n] st TT st,obC 62 [.ptr d 0,str n] st (.tup [i64 i,FF]) st,obL st 96 (.ptr d 0) .nils,bo (geN 0 4096)=FF,obC 63 [.ptr d 0] st TT s1]):=by kernel_rfl
theorem rcBurnS:rqEv 31 [.ptr d 0,str n] st [.eff FF id,.eff TT id,.eff (.tup [i64 i,FF]) id,.eff (.sl f 3 0 len fl) id,FF,.eff TT (fun _=>s1)]=some (i64 8,s1,[obL st 4 (.ptr d 3) FF,obC 61 [str n] st TT st,obC 62 [.ptr d 0,str n] st (.tup [i64 i,FF]) st,obL st 96 (.ptr d 0) (.sl f 3 0 len fl),bo (geN len 4096)=FF,obC 63 [.ptr d 0] st TT s1]):=by kernel_rfl
theorem rcOkN:rqEv 31 [.ptr d 0,str n] st [.eff FF id,.eff TT id,.eff (.tup [i64 i,FF]) id,.eff .nils id,FF,.eff FF (fun _=>s1),.eff (.tup []) (fun _=>s2)]=some (i64 0,s2,[obL st 4 (.ptr d 3) FF,obC 61 [str n] st TT st,obC 62 [.ptr d 0,str n] st (.tup [i64 i,FF]) st,obL st 96 (.ptr d 0) .nils,bo (geN 0 4096)=FF,obC 63 [.ptr d 0] st FF s1,obC 64 [.ptr d 0,.agg [str n,.nils,.nils]] s1 (.tup []) s2]):=by kernel_rfl
theorem rcOkS:rqEv 31 [.ptr d 0,str n] st [.eff FF id,.eff TT id,.eff (.tup [i64 i,FF]) id,.eff (.sl f 3 0 len fl) id,FF,.eff FF (fun _=>s1),.eff (.tup []) (fun _=>s2)]=some (i64 0,s2,[obL st 4 (.ptr d 3) FF,obC 61 [str n] st TT st,obC 62 [.ptr d 0,str n] st (.tup [i64 i,FF]) st,obL st 96 (.ptr d 0) (.sl f 3 0 len fl),bo (geN len 4096)=FF,obC 63 [.ptr d 0] st FF s1,obC 64 [.ptr d 0,.agg [str n,.nils,.nils]] s1 (.tup []) s2]):=by kernel_rfl
theorem rrNot:rqEv 55 [.ptr d 0,str n] st [.eff (.tup [i64 i,i64 e]) id,TT]=some (i64 e,st,[obT d n i e st,bo (neN e 0)=TT]):=by kernel_rfl
theorem rrBurn:rqEv 55 [.ptr d 0,str n] st [.eff (.tup [i64 i,i64 0]) id,FF,.eff TT (fun _=>s1)]=some (i64 8,s1,[obT d n i 0 st,bo (neN 0 0)=FF,obC 63 [.ptr d 0] st TT s1]):=by kernel_rfl
theorem rrOk:rqEv 55 [.ptr d 0,str n] st [.eff (.tup [i64 i,i64 0]) id,FF,.eff FF (fun _=>s1),.eff (.tup []) (fun _=>s2)]=some (i64 0,s2,[obT d n i 0 st,bo (neN 0 0)=FF,obC 63 [.ptr d 0] st FF s1,obC 87 [.ptr d 0,i64 i] s1 (.tup []) s2]):=by kernel_rfl
theorem rsNot:rqEv 53 [.ptr d 0,str n] st [.eff (.tup [i64 i,i64 e]) id,TT]=some (i64 e,st,[obT d n i e st,bo (neN e 0)=TT]):=by kernel_rfl
theorem rsBurn:rqEv 53 [.ptr d 0,str n] st [.eff (.tup [i64 i,i64 0]) id,FF,.eff TT (fun _=>s1)]=some (i64 8,s1,[obT d n i 0 st,bo (neN 0 0)=FF,obC 63 [.ptr d 0] st TT s1]):=by kernel_rfl
def obOwn(I:List Nat)(st s2 s3:St)(lv x o1 o2:AV):Ob:= [(true=true→I.all (fun k=>(st.get k).isSome)=true),obC 57 [lv] (st.hide I) o1 s2,(true=true→I.all (fun k=>((s2.show st I).get k).isSome)=true),appendA E0 ((s2.show st I).hide I) 22 22 o1 x=some (o2,s3)]
def shw(I:List Nat)(st s2 s3:St):St:=s3.show (s2.show st I) I
theorem rsOk:rqEv 53 [.ptr d 0,str n] st [.eff (.tup [i64 i,i64 0]) id,FF,.eff FF (fun _=>s1),.eff (.sl f 3 0 len fl) id,.eff (.sl f 3 0 len fl) id,.eff (.ptr f j) id,.eff lv id,.eff (.sl f 3 0 len fl) id,.eff (.ptr f j) id,.eff ov id,.eff o1 (fun _=>s2),.eff o2 (fun _=>s3),.eff (.ptr f j) id,.eff .undef (fun _=>s4),.eff (.sl f 3 0 len fl) id,.eff .undef (fun _=>s5)]=some (i64 0,s5,
  [obT d n i 0 st,bo (neN 0 0)=FF,obC 63 [.ptr d 0] st FF s1,∀k∈ [d,d,f,d,f],k<s1.next,[d,d,f,d,f].contains d=true∧loadA E0 s1 96 (.ptr d 0)=some (.sl f 3 0 len fl),[d,d,f,d,f].contains d=true∧loadA E0 s1 96 (.ptr d 0)=some (.sl f 3 0 len fl),indexAddrA E0 96 (.sl f 3 0 len fl) (i64 i)=some (.ptr f j),[d,d,f,d,f].contains f=true∧loadA E0 s1 22 (.ptr f (j+1))=some lv,
   [d,d,f,d,f].contains d=true∧loadA E0 s1 96 (.ptr d 0)=some (.sl f 3 0 len fl),indexAddrA E0 96 (.sl f 3 0 len fl) (i64 i)=some (.ptr f j),[d,d,f,d,f].contains f=true∧loadA E0 s1 22 (.ptr f (j+2))=some ov]++obOwn [d,d,f,d,f] s1 s2 s3 lv ov o1 o2++
  [indexAddrA E0 96 (.sl f 3 0 len fl) (i64 i)=some (.ptr f j),(false=true→ [d,d,f,d,f].all (fun k=>((shw [d,d,f,d,f] s1 s2 s3).get k).isSome)=true),storeA E0 (shw [d,d,f,d,f] s1 s2 s3) 22 (.ptr f (j+1)) o2=some s4,obL s4 96 (.ptr d 0) (.sl f 3 0 len fl),0≤(i:Int)∧(i:Int)<len,storeA E0 s4 22 (.ptr f (0+i*3+2)) .nils=some s5]):=by kernel_rfl
theorem rapNot:rqEv 33 [.ptr d 0,str n,x] st [.eff (.tup [i64 i,i64 e]) id,TT]=some (i64 e,st,[obT d n i e st,bo (neN e 0)=TT]):=by kernel_rfl
def gtQ(a b:Int)(v:AV):Prop:=binA E0 .gtr 3 (i64 a) (i64 b)=some v
def obRm(d:Nat)(len:Nat)(q u y:Int)(st s2:St)(r:AV):Ob:= [∀k∈ [d],k<st.next,gtQ len 0 TT,[d].contains d=true∧loadA E0 st 3 (.ptr d 1)=some (i64 q),(true=true→ [d].all (fun k=>(st.get k).isSome)=true),obC 67 [.ptr d 0] (st.hide [d]) (i64 u) s2,addP u len (i64 y),gtQ y q r]
def obNoR(len:Nat)(st:St):Ob:= [∀k∈([]:List Nat),k<st.next,gtQ len 0 FF]
def obTl(d f len i j:Nat)(fl:Bool)(x o1 o2 ov:AV)(sb s3 s4 s5 s6:St):Ob:= [obC 63 [.ptr d 0] sb FF s3,∀k∈ [d,d,f],k<s3.next,[d,d,f].contains d=true∧loadA E0 s3 96 (.ptr d 0)=some (.sl f 3 0 len fl),[d,d,f].contains d=true∧loadA E0 s3 96 (.ptr d 0)=some (.sl f 3 0 len fl),indexAddrA E0 96 (.sl f 3 0 len fl) (i64 i)=some (.ptr f j),[d,d,f].contains f=true∧loadA E0 s3 22 (.ptr f (j+2))=some ov]++obOwn [d,d,f] s3 s4 s5 ov x o1 o2++
 [indexAddrA E0 96 (.sl f 3 0 len fl) (i64 i)=some (.ptr f j),(false=true→ [d,d,f].all (fun k=>((shw [d,d,f] s3 s4 s5).get k).isSome)=true),storeA E0 (shw [d,d,f] s3 s4 s5) 22 (.ptr f (j+2)) o2=some s6]
def tlX(F pf ov o1 o2:AV)(s3 s4 s5 s6:St):List Or:= [.eff FF (fun _=>s3),.eff F id,.eff F id,.eff pf id,.eff ov id,.eff o1 (fun _=>s4),.eff o2 (fun _=>s5),.eff pf id,.eff .undef (fun _=>s6)]
section
variable (c:List AV) (g:Bool) (k:Nat)
theorem rapFull:rqEv 33 [.ptr d 0,str n,.imm 1 k g c] st [.eff (.tup [i64 i,i64 0]) id,FF,.eff TT id,.eff (i64 q) id,.eff (i64 u) (fun _=>s2),.eff (i64 y) id,.eff TT id]=some (i64 7,s2.show st [d],[obT d n i 0 st,bo (neN 0 0)=FF]++obRm d k q u y st s2 TT):=by kernel_rfl
theorem rapBurn:rqEv 33 [.ptr d 0,str n,.imm 1 k g c] st [.eff (.tup [i64 i,i64 0]) id,FF,.eff TT id,.eff (i64 q) id,.eff (i64 u) (fun _=>s2),.eff (i64 y) id,.eff FF id,.eff TT (fun _=>s3)]=some (i64 8,s3,[obT d n i 0 st,bo (neN 0 0)=FF]++obRm d k q u y st s2 FF++ [obC 63 [.ptr d 0] (s2.show st [d]) TT s3]):=by kernel_rfl
theorem rapOk:rqEv 33 [.ptr d 0,str n,.imm 1 k g c] st (([.eff (.tup [i64 i,i64 0]) id,FF,.eff TT id,.eff (i64 q) id,.eff (i64 u) (fun _=>s2),.eff (i64 y) id,.eff FF id]:List Or)++tlX (.sl f 3 0 len fl) (.ptr f j) ov o1 o2 s3 s4 s5 s6)=some (i64 0,s6,[obT d n i 0 st,bo (neN 0 0)=FF]++obRm d k q u y st s2 FF++obTl d f len i j fl (.imm 1 k g c) o1 o2 ov (s2.show st [d]) s3 s4 s5 s6):=by kernel_rfl
theorem rapBurn0I:rqEv 33 [.ptr d 0,str n,.imm 1 k g c] st [.eff (.tup [i64 i,i64 0]) id,FF,.eff FF id,.eff TT (fun _=>s3)]=some (i64 8,s3,[obT d n i 0 st,bo (neN 0 0)=FF]++obNoR k st++ [obC 63 [.ptr d 0] st TT s3]):=by kernel_rfl
theorem rapBurn0N:rqEv 33 [.ptr d 0,str n,.nils] st [.eff (.tup [i64 i,i64 0]) id,FF,.eff FF id,.eff TT (fun _=>s3)]=some (i64 8,s3,[obT d n i 0 st,bo (neN 0 0)=FF]++obNoR 0 st++ [obC 63 [.ptr d 0] st TT s3]):=by kernel_rfl
theorem rapOk0I:rqEv 33 [.ptr d 0,str n,.imm 1 k g c] st (([.eff (.tup [i64 i,i64 0]) id,FF,.eff FF id]:List Or)++tlX (.sl f 3 0 len fl) (.ptr f j) ov o1 o2 s3 s4 s5 s6)=some (i64 0,s6,[obT d n i 0 st,bo (neN 0 0)=FF]++obNoR k st++obTl d f len i j fl (.imm 1 k g c) o1 o2 ov st s3 s4 s5 s6):=by kernel_rfl
theorem rapOk0N:rqEv 33 [.ptr d 0,str n,.nils] st (([.eff (.tup [i64 i,i64 0]) id,FF,.eff FF id]:List Or)++tlX (.sl f 3 0 len fl) (.ptr f j) ov o1 o2 s3 s4 s5 s6)=some (i64 0,s6,[obT d n i 0 st,bo (neN 0 0)=FF]++obNoR 0 st++obTl d f len i j fl .nils o1 o2 ov st s3 s4 s5 s6):=by kernel_rfl
theorem rreNot:rqEv 50 [.ptr d 0,str n] st [.eff (.tup [i64 i,i64 e]) id,TT]=some (.tup [.nils,i64 e],st,[obT d n i e st,bo (neN e 0)=TT]):=by kernel_rfl
theorem rreOk:rqEv 50 [.ptr d 0,str n] st [.eff (.tup [i64 i,i64 0]) id,FF,.eff (.sl f 3 0 len fl) id,.eff (.ptr f j) id,.eff lv id,.eff (.sl f 3 0 len fl) id,.eff (.ptr f j) id,.eff ov id,.eff o1 (fun _=>s2),.eff o2 (fun _=>s3)]=some (.tup [o2,i64 0],shw [d,f,d,f] st s2 s3,
  [obT d n i 0 st,bo (neN 0 0)=FF,∀k∈ [d,f,d,f],k<st.next,[d,f,d,f].contains d=true∧loadA E0 st 96 (.ptr d 0)=some (.sl f 3 0 len fl),indexAddrA E0 96 (.sl f 3 0 len fl) (i64 i)=some (.ptr f j),[d,f,d,f].contains f=true∧loadA E0 st 22 (.ptr f (j+1))=some lv,
   [d,f,d,f].contains d=true∧loadA E0 st 96 (.ptr d 0)=some (.sl f 3 0 len fl),indexAddrA E0 96 (.sl f 3 0 len fl) (i64 i)=some (.ptr f j),[d,f,d,f].contains f=true∧loadA E0 st 22 (.ptr f (j+2))=some ov]++obOwn [d,f,d,f] st s2 s3 lv ov o1 o2):=by kernel_rfl
end
end
end
section
set_option maxRecDepth 4000
theorem show_rest{st s':St}{I S:List Nat}(h:Rest (st.hide I) s' S)(hI:∀i∈I,i∉S):Rest st (s'.show st I) S∧∀k,(s'.show st I).get k=s'.get k:=by
 have hg:∀k,(s'.show st I).get k=s'.get k:=fun k=>by
  rw [St.show_get]
  split
  ·rename_i hk
   obtain ⟨o,ho⟩:=Option.isSome_iff_exists.1 hk.2
   rw [ho,h.keep k o (hI k hk.1) ho]
  ·rfl
 have hn:(s'.show st I).next=s'.next:=by
  show (St.show1 _ _ _).next=_
  rw [St.show1_next]
 refine ⟨⟨fun i o hi ho=>by rw [hg];exact h.keep i o hi ho,by rw [hn];exact h.next,rfl,?_,fun i o ho=> ?_⟩,hg⟩
 ·show (St.show1 _ _ _).gl=_
  rw [St.show1_gl];exact h.gl
 ·rw [hg] at ho
  show i<(s'.show st I).next
  rw [hn];exact h.wf _ _ ho
theorem OwnB.of_get{st st':St}{v:AV}{bs:List Int}(h:OwnB st v bs)(hk:∀i∈fid v,∀o,st.get i=some o→st'.get i=some o):OwnB st' v bs:=by
 rcases h with h|⟨h,i,rfl,hg⟩|⟨h,i,rfl,hg⟩
 ·exact .inl h
 ·exact .inr (.inl ⟨h,i,rfl,hk i (by simp [fid]) _ hg⟩)
 ·exact .inr (.inr ⟨h,i,rfl,hk i (by simp [fid]) _ hg⟩)
theorem app_row2{st:St}{id len n:Nat}{vs c:List AV}{x:AV}(hg:st.get id=some (.row vs 5))(hl:id∉st.lock)(ho:len=vs.length)(hx:sliceCells st x=some (n,c))(hc:c.length=n)(h0:n≠0)(hb:len+n≤big):
  appendA E0 st 22 22 (.sl id 1 0 len false) x=some (.sl st.next 1 0 (len+n) false,(st.del id).push (.row (vs++c) 5)):=by
 unfold big at hb
 simp only [appendA,el28,src28,hx,str28,hg,Nat.mul_one]
 rw [if_pos ⟨hc,fun h=>by cases h⟩,if_neg (fun h=>h rfl),if_neg h0,if_pos ⟨by omega,by omega⟩,if_pos ⟨trivial,by omega⟩,if_neg (by simp),if_pos ⟨by omega,hl⟩,List.drop_zero]
theorem app_own2{st:St}{v x:AV}{bs c:List Int}(hv:OwnB st v bs)(hw:st.wf)(hl:∀i∈fid v,i∉st.lock)(hx:sliceCells st x=some (c.length,c.map u8))(hb:bs.length+c.length≤big):
  ∃v' st',appendA E0 st 22 22 v x=some (v',st')∧OwnB st' v' (bs++c)∧Rest st st' (fid v)∧(v'=v∧st'=st∨∃l f,v'= .sl st.next 1 0 l f):=by
 by_cases h0:c.length=0
 ·have hc:c= []:=List.eq_nil_of_length_eq_zero h0
  subst hc
  exact ⟨v,st,app_zero hv.kind hx rfl,by simpa using hv,Rest.refl hw _,.inl ⟨rfl,rfl⟩⟩
 have hne:bs++c≠ []:=fun e=>h0 (by rw [(List.append_eq_nil_iff.1 e).2];rfl)
 rcases hv with ⟨rfl,rfl⟩|⟨rfl,i,rfl,hg⟩|⟨hbs,i,rfl,hg⟩
 ·exact ⟨_,_,app_nil hx (by simp) h0 (by simpa using hb),.inr (.inr ⟨hne,st.next,by simp,by rw [St.get_push,if_pos rfl];simp⟩),Rest.push hw _ _,.inr ⟨_,_,rfl⟩⟩
 ·exact ⟨_,_,app_full hg (by simp) hx (by simp) h0 (by simpa using hb),.inr (.inr ⟨hne,st.next,by simp,by rw [St.get_push,if_pos rfl];simp⟩),Rest.push hw _ _,.inr ⟨_,_,rfl⟩⟩
 ·have hdw:(st.del i).wf:=fun j p h=>by
   rw [St.get_del] at h
   split at h
   ·cases h
   ·exact hw _ _ h
  refine ⟨_,_,app_row2 hg (hl i (by simp [fid])) (by simp) hx (by simp) h0 hb,.inr (.inr ⟨hne,st.next,by simp,by rw [St.get_push,if_pos (by simp)];simp⟩),⟨fun j p hj h=> ?_,by simp,rfl,rfl,push_wf hdw _⟩,.inr ⟨_,_,rfl⟩⟩
  have:=hw _ _ h
  rw [St.get_push,if_neg (by simp;omega),St.get_del,if_neg (fun e=>hj (by simp [fid,e]))];exact h
theorem own_ok{st:St}{v:AV}{bs:List Int}(hv:BV v bs)(hw:st.wf)(hb:bs.length≤big):∃o st',obC 57 [v] st o st'∧OwnB st' o bs∧Rest st st' []∧∀i∈fid o,st.next≤i:=by
 obtain ⟨o,st',h1,h2,h3,h4⟩:=app_own2 (st:=st) (v:= .nils) (bs:= []) (.inl ⟨rfl,rfl⟩) hw (fun i hi=>by cases hi) (hv.cells st) (by simpa using hb)
 refine ⟨o,st',rf_run (ownRun v o st st') (by simp only [Ob.ok_cons,Ob.ok_nil,and_true];exact h1),h2,h3,fun i hi=> ?_⟩
 rcases h4 with ⟨rfl,_⟩|⟨l,g,rfl⟩
 ·cases hi
 ·simp only [fid,List.mem_singleton] at hi;omega
theorem hide_wf{st:St}(hw:st.wf)(I:List Nat):(st.hide I).wf:=fun i o h=>hw i o h
theorem ownApp_ok{I:List Nat}{st:St}{lv x:AV}{lb c:List Int}(hw:st.wf)(hl:st.lock= [])(hI:∀k∈I,(st.get k).isSome=true)(hv:BV lv lb)(hx:BV x c)(hb:lb.length+c.length≤big):
  ∃o1 o2 s2 s3,(obOwn I st s2 s3 lv x o1 o2).ok∧OwnB (shw I st s2 s3) o2 (lb++c)∧Rest st (shw I st s2 s3) []∧∀i∈fid o2,st.next≤i:=by
 obtain ⟨o1,s2,a1,a2,a3,a4⟩:=own_ok (st:=st.hide I) hv (hide_wf hw I) (by omega)
 obtain ⟨R2,g2⟩:=show_rest a3 (by simp)
 have hin:∀k∈I,k<st.next:=fun k hk=>by
  obtain ⟨o,ho⟩:=Option.isSome_iff_exists.1 (hI k hk)
  exact hw _ _ ho
 have hown:OwnB ((s2.show st I).hide I) o1 lb:=a2.of_get fun i _ o ho=>by rw [St.hide_get,g2];exact ho
 have hlock:∀i∈fid o1,i∉((s2.show st I).hide I).lock:=fun i hi hm=>by
  have h1:=a4 i hi
  have e:((s2.show st I).hide I).lock=I:=by
   show I++(s2.show st I).lock=I
   rw [R2.lock,hl,List.append_nil]
  rw [e] at hm
  have:=hin i hm
  simp only [St.hide_next] at h1
  omega
 obtain ⟨o2,s3,b1,b2,b3,b4⟩:=app_own2 hown (hide_wf R2.wf I) hlock (hx.cells _) hb
 obtain ⟨R3,g3⟩:=show_rest b3 (fun i hi hf=>by
  have:=hin i hi
  have:=a4 i hf
  simp only [St.hide_next] at this
  omega)
 refine ⟨o1,o2,s2,s3,?_,b2.of_get fun i _ o ho=>by unfold shw;rw [g3];exact ho,R2.old R3 (fun i hi=>a4 i hi) hw,fun i hi=> ?_⟩
 ·unfold obOwn
  simp only [Ob.ok_cons,Ob.ok_nil,and_true]
  refine ⟨fun _=>List.all_eq_true.2 hI,a1,fun _=>List.all_eq_true.2 fun k hk=> ?_,b1⟩
  obtain ⟨o,ho⟩:=Option.isSome_iff_exists.1 (hI k hk)
  rw [R2.keep _ _ (by simp) ho];rfl
 ·rcases b4 with ⟨rfl,_⟩|⟨l,g,rfl⟩
  ·exact a4 i hi
  ·simp only [fid,List.mem_singleton] at hi
   have:=R2.next
   simp only [St.hide_next] at hi
   omega
theorem frz_bv{id:Nat}{vs:List AV}{v:AV}{bs:List Int}(h:BV v bs):frz id vs v=v:=frz_dv (f:=⟨⟨#[]⟩,v,bs,0⟩) h
def frzF(id:Nat)(vs:List AV)(f:RF):RF:={f with lv:=frz id vs f.lv,ov:=frz id vs f.ov}
theorem frz_cells(id:Nat)(vs:List AV):∀F:List RF,frzL id vs (cells F)=cells (F.map (frzF id vs))
 | []=>rfl
 |f::r=>by simp only [cells,List.map_cons,frzL,frz_cells id vs r];rfl
theorem frzF_good{F:List RF}(h:RGood F)(id:Nat)(vs:List AV):F.map (frzF id vs)=F:=by
 conv=>rhs;rw [←List.map_id F]
 refine List.map_congr_left fun f hf=> ?_
 obtain ⟨h1,h2⟩:=h f hf
 simp only [frzF,frz_bv h1,frz_bv h2]
 rfl
theorem freeze_ref{st s8:St}{d j:Nat}{fv a:AV}{s:RS}{S:List Nat}{vs:List AV}{args:List AV}{f:Nat}(h:obC f args st a s8)(ha:frz j vs a=a)(hp:RD s8 d fv s)(hr:Rest st s8 S)(hw:st.wf)(hl:st.lock= [])(hj:s8.get j=some (.row vs 5))(hjn:st.next≤j):
  ∃st',obC f args st a st'∧RD st' d fv {s with F:=s.F.map (frzF j vs)}∧RestF st st' S:=by
 have hF:=frzSt_ok (id:=j) (vs:=vs) hr.wf
 have hjd:d≠j:=row_ne hp.row hj (by decide)
 refine ⟨frzSt j vs s8,?_,⟨?_,?_⟩,⟨fun i o hi ho hs=> ?_,hr.next,hr.lock,hr.gl,frz_wf hr.wf⟩⟩
 ·refine ACalls.freeze h fun b s' ⟨e1,e2⟩ _ _=>⟨j,vs,5,by rw [e2];exact hj,by rw [e2];exact hr.lock.trans hl,by rw [e1];exact ha,by rw [e2]⟩
 ·rw [hF.get,if_neg hjd,hp.row]
  simp only [Option.map_some,frzO,frzL]
  rcases hp.fv with ⟨_,e⟩|⟨_,r,fl,e,hg⟩
  ·rw [e];rfl
  ·have hjr:r≠j:=row_ne hg hj (by decide)
   rw [e]
   simp only [frz,if_neg hjr]
   rfl
 ·rcases hp.fv with ⟨e1,e⟩|⟨h0,r,fl,e,hg⟩
  ·exact .inl ⟨by show s.F.map _= [];rw [e1];rfl,e⟩
  ·have hjr:r≠j:=row_ne hg hj (by decide)
   refine .inr ⟨by simpa using h0,r,fl,by simpa using e,?_⟩
   rw [hF.get,if_neg hjr,hg]
   simp only [Option.map_some,frzO,frz_cells]
 ·have:=hr.keep i o hi ho
  have hii:=hw _ _ ho
  rw [hF.get,if_neg (by omega),this,Option.map_some,hs j _ hjn]
end
section
set_option maxRecDepth 4000
theorem rq_run{f:Nat}{args:List AV}{a:AV}{st st':St}{o:List Or}{ob:Ob}(h:rqEv f args st o=some (a,st',ob))(hob:ob.ok):obC f args st a st':=by
 obtain ⟨⟨a1,s1,x1,o1⟩,h1,h2⟩:=Option.map_eq_some_iff.1 h
 simp only [Prod.mk.injEq] at h2
 obtain ⟨rfl,rfl,rfl⟩:=h2
 exact ACalls.run hE (ov:=noOv) noOv_ok h1 hob
theorem neN_T{a:Int}(h:a≠0):bo (neN a 0)=TT:=ob_T (by show (a !=0)=true;simpa using h)
theorem neN_F:bo (neN 0 0)=FF:=ob_F rfl
def rCreate(s:RS)(n:ByteArray):Int×RS:=
 if s.off=true then (8,s) else if¬mayS n then (1,s) else if hit n s.F=false∧4096≤s.F.length then (7,s) else
 if burnB s.fu=true then (8,rBurnt s) else (0,{rBurnt s with F:=putF s.F ⟨n,.nils,.nils,[],[]⟩})
theorem rcreate_ok{st:St}{d:Nat}{fv:AV}{s:RS}(hp:RD st d fv s)(hw:st.wf)(hl:st.lock= [])(hsz:s.F.length+1≤1000000)(hf:0≤s.fu∧s.fu≤9223372036854775807){n:ByteArray}(hn:n.size≤1000000000000):
  ∃st' fv',obC 31 [.ptr d 0,str n] st (i64 (rCreate s n).1) st'∧RD st' d fv' (rCreate s n).2∧Rest st st' (d::fid fv):=by
 have o1:obL st 4 (.ptr d 3) (bo s.off):=⟨load_row hp.row (p4 rfl),rfl⟩
 have o2:=refMay_ok n hn st
 have o3:=at_ok hp hw (by omega) n
 unfold rCreate
 cases hoff:s.off with
 |true=>
  rw [if_pos rfl]
  rw [hoff] at o1
  exact ⟨st,fv,rq_run (rcOff d n st) (by simp only [Ob.ok_cons,Ob.ok_nil,and_true];exact o1),hp,Rest.refl hw _⟩
 |false=>
  rw [if_neg (by decide)]
  rw [hoff] at o1
  by_cases hm:mayS n
  ·rw [if_neg (fun h=>h hm)]
   rw [decide_eq_true hm] at o2
   obtain ⟨s1,b1,b2,b3⟩:=goes_ok hp hw hl hoff hf
   have R1:Rest st s1 (d::fid fv):=b3.weak (by simp)
   have tail:∃s2 fv',obC 64 [.ptr d 0,.agg [str n,.nils,.nils]] s1 (.tup []) s2∧RD s2 d fv' {rBurnt s with F:=putF s.F ⟨n,.nils,.nils,[],[]⟩}∧Rest st s2 (d::fid fv):=by
    obtain ⟨s2,fv',c1,c2,c3⟩:=put_ok' b2 b3.wf (b3.lock.trans hl) hsz ⟨n,.nils,.nils,[],[]⟩
    exact ⟨s2,fv',c1,c2,R1.trans c3⟩
   obtain ⟨s2,fv',c1,c2,c3⟩:=tail
   cases hh:hit n s.F with
   |true=>
    rw [hh] at o3
    rw [if_neg (fun h=>by cases h.1)]
    by_cases hb:burnB s.fu=true
    ·rw [if_pos hb]
     rw [hb] at b1
     exact ⟨s1,fv,rq_run (rcBurnT d (pos n s.F) n st s1) (by simp only [Ob.ok_cons,Ob.ok_nil,and_true];exact ⟨o1,o2,o3,b1⟩),b2,R1⟩
    ·rw [if_neg hb]
     rw [Bool.not_eq_true] at hb
     rw [hb] at b1
     exact ⟨s2,fv',rq_run (rcOkT d (pos n s.F) n st s1 s2) (by simp only [Ob.ok_cons,Ob.ok_nil,and_true];exact ⟨o1,o2,o3,b1,c1⟩),c2,c3⟩
   |false=>
    rw [hh] at o3
    have o4:obL st 96 (.ptr d 0) fv:=⟨hp.load,rfl⟩
    rcases hp.fv with ⟨h2,rfl⟩|⟨h0,f,fl,rfl,hg⟩
    ·have hlen:¬(false=false∧4096≤s.F.length):=by rw [h2];simp
     rw [if_neg hlen]
     have hge:bo (geN 0 4096)=FF:=by kernel_rfl
     by_cases hb:burnB s.fu=true
     ·rw [if_pos hb]
      rw [hb] at b1
      exact ⟨s1,.nils,rq_run (rcBurnN d (pos n s.F) n st s1) (by simp only [Ob.ok_cons,Ob.ok_nil,and_true];exact ⟨o1,o2,o3,o4,hge,b1⟩),b2,R1⟩
     ·rw [if_neg hb]
      rw [Bool.not_eq_true] at hb
      rw [hb] at b1
      exact ⟨s2,fv',rq_run (rcOkN d (pos n s.F) n st s1 s2) (by simp only [Ob.ok_cons,Ob.ok_nil,and_true];exact ⟨o1,o2,o3,o4,hge,b1,c1⟩),c2,c3⟩
    ·by_cases hlen:4096≤s.F.length
     ·rw [if_pos ⟨rfl,hlen⟩]
      exact ⟨st,_,rq_run (rcFull d f s.F.length (pos n s.F) fl n st) (by simp only [Ob.ok_cons,Ob.ok_nil,and_true];exact ⟨o1,o2,o3,o4,ob_T (by rw [geN_eq];simp;omega)⟩),hp,Rest.refl hw _⟩
     ·rw [if_neg (fun h=>hlen h.2)]
      have hge:bo (geN s.F.length 4096)=FF:=ob_F (by rw [geN_eq];simp;omega)
      by_cases hb:burnB s.fu=true
      ·rw [if_pos hb]
       rw [hb] at b1
       exact ⟨s1,_,rq_run (rcBurnS d f s.F.length (pos n s.F) fl n st s1) (by simp only [Ob.ok_cons,Ob.ok_nil,and_true];exact ⟨o1,o2,o3,o4,hge,b1⟩),b2,R1⟩
      ·rw [if_neg hb]
       rw [Bool.not_eq_true] at hb
       rw [hb] at b1
       exact ⟨s2,fv',rq_run (rcOkS d f s.F.length (pos n s.F) fl n st s1 s2) (by simp only [Ob.ok_cons,Ob.ok_nil,and_true];exact ⟨o1,o2,o3,o4,hge,b1,c1⟩),c2,c3⟩
  ·rw [if_pos hm]
   rw [decide_eq_false hm] at o2
   exact ⟨st,fv,rq_run (rcBad d n st) (by simp only [Ob.ok_cons,Ob.ok_nil,and_true];exact ⟨o1,o2⟩),hp,Rest.refl hw _⟩
def rRemove(s:RS)(n:ByteArray):Int×RS:=
 if thE s n≠0 then (thE s n,s) else if burnB s.fu=true then (8,rBurnt s) else (0,{rBurnt s with F:=s.F.eraseIdx (pos n s.F)})
theorem thE_off{s:RS}{n:ByteArray}(h:thE s n=0):s.off=false∧mayS n∧hit n s.F=true:=by
 unfold thE at h
 split at h
 ·cases h
 ·rename_i h1
  split at h
  ·cases h
  ·rename_i h2
   split at h
   ·cases h
   ·rename_i h3
    exact ⟨by simpa using h1,Classical.not_not.1 h2,by simpa using h3⟩
theorem rremove_ok{st:St}{d:Nat}{fv:AV}{s:RS}(hp:RD st d fv s)(hw:st.wf)(hl:st.lock= [])(hsz:s.F.length≤1000000)(hf:0≤s.fu∧s.fu≤9223372036854775807){n:ByteArray}(hn:n.size≤1000000000000):
  ∃st' fv',obC 55 [.ptr d 0,str n] st (i64 (rRemove s n).1) st'∧RD st' d fv' (rRemove s n).2∧Rest st st' (d::fid fv):=by
 have o1:=there_ok hp hw hsz hn
 unfold rRemove
 by_cases hr:thE s n≠0
 ·rw [if_pos hr]
  rw [if_neg hr] at o1
  exact ⟨st,fv,rq_run (rrNot d 0 n (thE s n) st) (by simp only [Ob.ok_cons,Ob.ok_nil,and_true];exact ⟨o1,neN_T hr⟩),hp,Rest.refl hw _⟩
 ·rw [if_neg hr]
  have h0:thE s n=0:=by simpa using hr
  rw [h0,if_pos rfl] at o1
  obtain ⟨hoff,hm,hh⟩:=thE_off h0
  obtain ⟨s1,b1,b2,b3⟩:=goes_ok hp hw hl hoff hf
  have R1:Rest st s1 (d::fid fv):=b3.weak (by simp)
  by_cases hb:burnB s.fu=true
  ·rw [if_pos hb]
   rw [hb] at b1
   exact ⟨s1,fv,rq_run (rrBurn d (pos n s.F) n st s1) (by simp only [Ob.ok_cons,Ob.ok_nil,and_true];exact ⟨o1,neN_F,b1⟩),b2,R1⟩
  ·rw [if_neg hb]
   rw [Bool.not_eq_true] at hb
   rw [hb] at b1
   obtain ⟨s2,fv',c1,c2,c3,_⟩:=cut_ok b2 b3.wf (b3.lock.trans hl) hsz (pos n s.F)
   exact ⟨s2,fv',rq_run (rrOk d (pos n s.F) n st s1 s2) (by simp only [Ob.ok_cons,Ob.ok_nil,and_true];exact ⟨o1,neN_F,b1,c1⟩),c2,R1.trans (c3.weak (by simp))⟩
theorem hit_get{n:ByteArray}{F:List RF}(h:hit n F=true):∃f,F[pos n F]? =some f∧eqS f.name n=true:=by
 unfold hit at h
 split at h
 ·rename_i f hf;exact ⟨f,hf,h⟩
 ·cases h
end
section
set_option maxRecDepth 4000
theorem cells_split{F:List RF}{i:Nat}{g:RF}(hg:F[i]? =some g):cells F=cells (F.take i)++([str g.name,g.lv,g.ov]++cells (F.drop (i+1))):=by
 have hlt:=(List.getElem?_eq_some_iff.1 hg).1
 conv=>lhs;rw [←List.take_append_drop i F,cells_append,drop_at hg]
 rfl
theorem cells_put{F:List RF}{i:Nat}(hi:i<F.length)(f:RF):cells (F.set i f)=cells (F.take i)++([str f.name,f.lv,f.ov]++cells (F.drop (i+1))):=by
 rw [List.set_eq_take_append_cons_drop,if_pos hi,cells_append]
 rfl
theorem take_len{F:List RF}{i:Nat}(hi:i<F.length):(cells (F.take i)).length=i*3:=by
 rw [cells_length,List.length_take,Nat.min_eq_left (by omega)]
theorem size28':tySize E0 22=some 1:=by kernel_rfl
theorem storeL{st:St}{r i:Nat}{F:List RF}{g:RF}{v:AV}(hg:st.get r=some (.row (cells F) 110))(hl:st.lock= [])(hF:F[i]? =some g)(hv:avCells v=some [v]):storeA E0 st 22 (.ptr r (i*3+1)) v=some (st.set r (.row (cells (F.set i {g with lv:=v})) 110)):=by
 have hwg:=St.wget_of hg (show r∉st.lock by rw [hl];simp)
 have hlt:=(List.getElem?_eq_some_iff.1 hF).1
 simp only [storeA,hv,hwg,size28',List.length_cons,List.length_nil]
 rw [if_pos ⟨trivial,by rw [cells_length];omega⟩,cells_put hlt,cells_split hF]
 have h1:i*3+1=(cells (F.take i)).length+1:=by rw [take_len hlt]
 have h2:i*3+1+(0+1)=(cells (F.take i)).length+2:=by rw [take_len hlt]
 rw [h2,h1,List.take_length_add_append,List.drop_length_add_append]
 simp
theorem storeO{st:St}{r i:Nat}{F:List RF}{g:RF}{v:AV}(hg:st.get r=some (.row (cells F) 110))(hl:st.lock= [])(hF:F[i]? =some g)(hv:avCells v=some [v]):storeA E0 st 22 (.ptr r (i*3+2)) v=some (st.set r (.row (cells (F.set i {g with ov:=v})) 110)):=by
 have hwg:=St.wget_of hg (show r∉st.lock by rw [hl];simp)
 have hlt:=(List.getElem?_eq_some_iff.1 hF).1
 simp only [storeA,hv,hwg,size28',List.length_cons,List.length_nil]
 rw [if_pos ⟨trivial,by rw [cells_length];omega⟩,cells_put hlt,cells_split hF]
 have h1:i*3+2=(cells (F.take i)).length+2:=by rw [take_len hlt]
 have h2:i*3+2+(0+1)=(cells (F.take i)).length+3:=by rw [take_len hlt]
 rw [h2,h1,List.take_length_add_append,List.drop_length_add_append]
 simp
theorem settle_ref{st s8:St}{d i:Nat}{fv a o2:AV}{s:RS}{g':RF}{bs:List Int}{S:List Nat}{args:List AV}{f:Nat}(h:obC f args st a s8)(ha:∀j vs,frz j vs a=a)(hp:RD s8 d fv {s with F:=s.F.set i g'})(hg:RGood s.F)(hr:Rest st s8 S)(hw:st.wf)(hl:st.lock= [])
  (hlv:BV g'.lv g'.lb∨(g'.lv=o2∧g'.lb=bs)) (hov:BV g'.ov g'.ob∨(g'.ov=o2∧g'.ob=bs)) (ho:OwnB s8 o2 bs) (hn:∀i∈fid o2,st.next≤i):
  ∃st' g'',obC f args st a st'∧g''.name=g'.name∧g''.lb=g'.lb∧g''.ob=g'.ob∧BV g''.lv g''.lb∧BV g''.ov g''.ob∧RD st' d fv {s with F:=s.F.set i g''}∧RestF st st' S:=by
 have main:∀j fl,o2= .sl j 1 0 bs.length fl→s8.get j=some (.row (bs.map u8) 5)→∃st' g'',obC f args st a st'∧g''.name=g'.name∧g''.lb=g'.lb∧g''.ob=g'.ob∧BV g''.lv g''.lb∧BV g''.ov g''.ob∧RD st' d fv {s with F:=s.F.set i g''}∧RestF st st' S:=fun j fl e hj=>by
  obtain ⟨st',h1,h2,h3⟩:=freeze_ref h (ha j _) hp hr hw hl hj (hn j (by rw [e];simp [fid]))
  have hb:∀{v:AV} {b:List Int},BV v b∨(v=o2∧b=bs)→BV (frz j (bs.map u8) v) b:=fun {v b} hv=>by
   rcases hv with hv|⟨rfl,rfl⟩
   ·rw [frz_bv hv];exact hv
   ·refine .inr ⟨fl,?_⟩
    rw [e]
    simp only [frz,if_true]
    rw [if_pos (by simp)]
    simp
    exact List.take_of_length_le (by simp)
  refine ⟨st',frzF j (bs.map u8) g',h1,rfl,rfl,rfl,hb hlv,hb hov,?_,h3⟩
  simp only [List.map_set,frzF_good hg] at h2
  exact h2
 rcases ho with ⟨rfl,rfl⟩|⟨rfl,j,rfl,hj⟩|⟨_,j,rfl,hj⟩
 ·refine ⟨s8,g',h,rfl,rfl,rfl,?_,?_,hp,hr.f⟩
  ·rcases hlv with h|⟨h,h'⟩
   ·exact h
   ·exact .inl ⟨h',h⟩
  ·rcases hov with h|⟨h,h'⟩
   ·exact h
   ·exact .inl ⟨h',h⟩
 ·exact main j true rfl hj
 ·exact main j false rfl hj
theorem get_in{F:List RF}(hg:RGood F){i:Nat}{g:RF}(h:F[i]? =some g):BV g.lv g.lb∧BV g.ov g.ob:=hg g (List.mem_of_getElem? h)
theorem used_get{F:List RF}{i:Nat}{g:RF}(h:F[i]? =some g):g.lb.length+g.ob.length≤usedR F:=le_sum (List.mem_map.2 ⟨g,List.mem_of_getElem? h,rfl⟩)
def rLoose(s:RS)(n:ByteArray):Int:=if thE s n≠0 then 0 else match s.F[pos n s.F]? with
 |some g=>(g.ob.length:Int)
 |none=>0
theorem rread_ok{st:St}{d:Nat}{fv:AV}{s:RS}(hp:RD st d fv s)(hw:st.wf)(hl:st.lock= [])(hg:RGood s.F)(hu:usedR s.F≤big)(hsz:s.F.length≤1000000){n:ByteArray}(hn:n.size≤1000000000000):
  ∃v st',obC 50 [.ptr d 0,str n] st (.tup [v,i64 (thE s n)]) st'∧Rest st st' []∧((thE s n≠0∧v= .nils)∨(thE s n=0∧∃g,s.F[pos n s.F]? =some g∧OwnB st' v (g.lb++g.ob)))∧∀i∈fid v,st.next≤i:=by
 have o1:=there_ok hp hw hsz hn
 by_cases hr:thE s n≠0
 ·rw [if_neg hr] at o1
  exact ⟨.nils,st,rq_run (rreNot d 0 n (thE s n) st) (by simp only [Ob.ok_cons,Ob.ok_nil,and_true];exact ⟨o1,neN_T hr⟩),Rest.refl hw _,.inl ⟨hr,rfl⟩,fun i hi=>by cases hi⟩
 ·have h0:thE s n=0:=by simpa using hr
  rw [h0,if_pos rfl] at o1
  obtain ⟨hoff,hm,hh⟩:=thE_off h0
  obtain ⟨g,hF,_⟩:=hit_get hh
  have hlt:=(List.getElem?_eq_some_iff.1 hF).1
  obtain ⟨f,fl,rfl,hgf⟩:=hp.fv.of hF
  obtain ⟨b1,b2⟩:=get_in hg hF
  have hc:=cells_at _ _ _ hF
  have hd:=hw _ _ hp.row
  have hf:=hw _ _ hgf
  obtain ⟨o1',o2,s2,s3,c1,c2,c3,c4⟩:=ownApp_ok (I:= [d,f,d,f]) hw hl (fun k hk=>by
   simp only [List.mem_cons,List.not_mem_nil,or_false] at hk
   rcases hk with rfl|rfl|rfl|rfl<;>simp [hp.row,hgf]) b1 b2 (Nat.le_trans (used_get hF) hu)
  rw [h0]
  refine ⟨o2,_,rq_run (rreOk d f s.F.length (pos n s.F) (pos n s.F*3) fl n o1' o2 g.lv g.ov st s2 s3) ?_,c3,.inr ⟨rfl,g,hF,c2⟩,c4⟩
  rw [Ob.ok_append]
  refine ⟨?_,c1⟩
  simp only [Ob.ok_cons,Ob.ok_nil,and_true]
  refine ⟨o1,neN_F,?_,⟨by simp,hp.load⟩,iA113 hlt,⟨by simp,load_row hgf (p28' hc.2.1)⟩,⟨by simp,hp.load⟩,iA113 hlt,⟨by simp,load_row hgf (p28' hc.2.2)⟩⟩
  simp only [List.mem_cons,List.not_mem_nil,or_false]
  rintro k (rfl|rfl|rfl|rfl)<;>assumption
end
section
set_option maxRecDepth 4000
theorem OwnB.set_row{st:St}{v:AV}{bs:List Int}(h:OwnB st v bs){r:Nat}{vs:List AV}{ty:Nat}(hg:st.get r=some (.row vs ty))(ht:ty≠5)(o:AObj):OwnB (st.set r o) v bs:=
 h.of_get fun i hi p hp=>by
  rw [St.get_set,if_neg fun e=> ?_]
  ·exact hp
  ·rcases h with ⟨_,rfl⟩|⟨_,j,rfl,hj⟩|⟨_,j,rfl,hj⟩
   ·cases hi
   ·simp only [fid,List.mem_singleton] at hi
    rw [←e,hi,hj] at hg
    simp only [Option.some.injEq,AObj.row.injEq] at hg
    exact ht hg.2.symm
   ·simp only [fid,List.mem_singleton] at hi
    rw [←e,hi,hj] at hg
    simp only [Option.some.injEq,AObj.row.injEq] at hg
    exact ht hg.2.symm
theorem RD.setF{st:St}{d r:Nat}{fl:Bool}{s:RS}{F2:List RF}(h:RD st d (.sl r 3 0 s.F.length fl) s)(hl:F2.length=s.F.length)(h0:F2≠ []):RD (st.set r (.row (cells F2) 110)) d (.sl r 3 0 s.F.length fl) {s with F:=F2}:=by
 have hrd:r≠d:=h.ne r (by simp [fid])
 exact ⟨by rw [St.get_set,if_neg hrd.symm];exact h.row,.inr ⟨h0,r,fl,by rw [hl],by rw [St.get_set,if_pos rfl]⟩⟩
def rSyncE(s:RS)(n:ByteArray):Int:=if thE s n≠0 then thE s n else if burnB s.fu=true then 8 else 0
def RSync(s:RS)(n:ByteArray)(s':RS):Prop:=
 if thE s n≠0 then s'=s else if burnB s.fu=true then s'=rBurnt s else∃g g',s.F[pos n s.F]? =some g∧g'.name=g.name∧g'.lb=g.lb++g.ob∧g'.ob= []∧BV g'.lv g'.lb∧BV g'.ov g'.ob∧s'={rBurnt s with F:=s.F.set (pos n s.F) g'}
theorem set_ne{F:List RF}{i:Nat}{g:RF}(h:i<F.length):F.set i g≠ []:=fun e=>by
 have:(F.set i g).length=0:=by rw [e];rfl
 rw [List.length_set] at this;omega
theorem rsync_ok{st:St}{d:Nat}{fv:AV}{s:RS}(hp:RD st d fv s)(hw:st.wf)(hl:st.lock= [])(hg:RGood s.F)(hu:usedR s.F≤big)(hsz:s.F.length≤1000000)(hf:0≤s.fu∧s.fu≤9223372036854775807){n:ByteArray}(hn:n.size≤1000000000000):
  ∃st' s',obC 53 [.ptr d 0,str n] st (i64 (rSyncE s n)) st'∧RD st' d fv s'∧RestF st st' (d::fid fv)∧RSync s n s':=by
 have o1:=there_ok hp hw hsz hn
 unfold rSyncE RSync
 by_cases hr:thE s n≠0
 ·simp only [if_pos hr]
  rw [if_neg hr] at o1
  exact ⟨st,s,rq_run (rsNot d 0 n (thE s n) st) (by simp only [Ob.ok_cons,Ob.ok_nil,and_true];exact ⟨o1,neN_T hr⟩),hp,(Rest.refl hw _).f,rfl⟩
 ·simp only [if_neg hr]
  have h0:thE s n=0:=by simpa using hr
  rw [h0,if_pos rfl] at o1
  obtain ⟨hoff,hm,hh⟩:=thE_off h0
  obtain ⟨s1,b1,b2,b3⟩:=goes_ok hp hw hl hoff hf
  have R1:Rest st s1 (d::fid fv):=b3.weak (by simp)
  by_cases hb:burnB s.fu=true
  ·simp only [if_pos hb]
   rw [hb] at b1
   exact ⟨s1,rBurnt s,rq_run (rsBurn d (pos n s.F) n st s1) (by simp only [Ob.ok_cons,Ob.ok_nil,and_true];exact ⟨o1,neN_F,b1⟩),b2,R1.f,rfl⟩
  ·simp only [if_neg hb]
   rw [Bool.not_eq_true] at hb
   rw [hb] at b1
   obtain ⟨g,hF,_⟩:=hit_get hh
   have hF':(rBurnt s).F[pos n s.F]? =some g:=hF
   have hlt:=(List.getElem?_eq_some_iff.1 hF).1
   obtain ⟨f,fl,hfv,hgf⟩:=b2.fv.of hF'
   have hfv':fv= .sl f 3 0 s.F.length fl:=hfv
   subst hfv'
   have hgf:s1.get f=some (.row (cells s.F) 110):=hgf
   obtain ⟨v1,v2⟩:=get_in hg hF
   have hc:=cells_at _ _ _ hF
   have w1:=b3.wf
   have l1:s1.lock= []:=b3.lock.trans hl
   have hd:=w1 _ _ b2.row
   have hfn:=w1 _ _ hgf
   obtain ⟨o1',o2,s2,s3,c1,c2,c3,c4⟩:=ownApp_ok (I:= [d,d,f,d,f]) w1 l1 (fun k hk=>by
    simp only [List.mem_cons,List.not_mem_nil,or_false] at hk
    rcases hk with rfl|rfl|rfl|rfl|rfl<;>simp [b2.row,hgf]) v1 v2 (Nat.le_trans (used_get hF) hu)
   have p3:=b2.rest c3 (by simp) (by simp)
   have g3:=c3.keep _ _ (by simp) hgf
   have l3:(shw [d,d,f,d,f] s1 s2 s3).lock= []:=c3.lock.trans l1
   have w3:=c3.wf
   have all3: [d,d,f,d,f].all (fun k=>((shw [d,d,f,d,f] s1 s2 s3).get k).isSome)=true:=by simp [p3.row,g3]
   generalize hsh:shw [d,d,f,d,f] s1 s2 s3=s3' at*
   have t1:=storeL g3 l3 hF c2.cell
   have p4:RD (s3'.set f (.row (cells (s.F.set (pos n s.F) {g with lv:=o2})) 110)) d (.sl f 3 0 s.F.length fl) {rBurnt s with F:=s.F.set (pos n s.F) {g with lv:=o2}}:=RD.setF (s:=rBurnt s) p3 (by simp [rBurnt]) (set_ne hlt)
   have g4:(s3'.set f (.row (cells (s.F.set (pos n s.F) {g with lv:=o2})) 110)).get f=some (.row (cells (s.F.set (pos n s.F) {g with lv:=o2})) 110):=by rw [St.get_set,if_pos rfl]
   have w4:=set_wf w3 (w3 _ _ g3) (.row (cells (s.F.set (pos n s.F) {g with lv:=o2})) 110)
   have own4:=c2.set_row g3 (by decide) (.row (cells (s.F.set (pos n s.F) {g with lv:=o2})) 110)
   have R4:Rest st (s3'.set f (.row (cells (s.F.set (pos n s.F) {g with lv:=o2})) 110)) (d::fid (.sl f 3 0 s.F.length fl)):=(R1.trans (c3.weak (by simp))).trans (Rest.set w3 (w3 _ _ g3) _ (by simp [fid]))
   have l4:(s3'.set f (.row (cells (s.F.set (pos n s.F) {g with lv:=o2})) 110)).lock= []:=l3
   generalize s3'.set f (.row (cells (s.F.set (pos n s.F) {g with lv:=o2})) 110)=s4 at*
   have hF4:(s.F.set (pos n s.F) {g with lv:=o2})[pos n s.F]? =some {g with lv:=o2}:=by rw [List.getElem?_set_self hlt]
   have t2:=storeO (v:= .nils) g4 l4 hF4 rfl
   have ec:cells (s.F.set (pos n s.F) {g with lv:=o2,ov:= .nils})=cells (s.F.set (pos n s.F) ⟨g.name,o2,.nils,g.lb++g.ob,[]⟩):=by rw [cells_put hlt,cells_put hlt]
   rw [List.set_set,ec] at t2
   have p5:RD (s4.set f (.row (cells (s.F.set (pos n s.F) ⟨g.name,o2,.nils,g.lb++g.ob,[]⟩)) 110)) d (.sl f 3 0 s.F.length fl) {rBurnt s with F:=(rBurnt s).F.set (pos n s.F) ⟨g.name,o2,.nils,g.lb++g.ob,[]⟩}:=by
    have hrd:f≠d:=p4.ne f (by simp [fid])
    exact ⟨by rw [St.get_set,if_neg hrd.symm];exact p4.row,.inr ⟨set_ne hlt,f,fl,by simp [rBurnt],by rw [St.get_set,if_pos rfl];rfl⟩⟩
   have own5:=own4.set_row g4 (by decide) (.row (cells (s.F.set (pos n s.F) ⟨g.name,o2,.nils,g.lb++g.ob,[]⟩)) 110)
   have R5:Rest st (s4.set f (.row (cells (s.F.set (pos n s.F) ⟨g.name,o2,.nils,g.lb++g.ob,[]⟩)) 110)) (d::fid (.sl f 3 0 s.F.length fl)):=R4.trans (Rest.set w4 (w4 _ _ g4) _ (by simp [fid]))
   generalize s4.set f (.row (cells (s.F.set (pos n s.F) ⟨g.name,o2,.nils,g.lb++g.ob,[]⟩)) 110)=s5 at*
   have hcall:obC 53 [.ptr d 0,str n] st (i64 0) s5:=by
    refine rq_run (rsOk d f s.F.length (pos n s.F) (pos n s.F*3) fl n o1' o2 g.lv g.ov st s1 s2 s3 s4 s5) ?_
    rw [Ob.ok_append,Ob.ok_append]
    refine ⟨⟨?_,c1⟩,?_⟩
    ·simp only [Ob.ok_cons,Ob.ok_nil,and_true]
     refine ⟨o1,neN_F,b1,?_,⟨by simp,b2.load⟩,⟨by simp,b2.load⟩,iA113 hlt,⟨by simp,load_row hgf (p28' hc.2.1)⟩,⟨by simp,b2.load⟩,iA113 hlt,⟨by simp,load_row hgf (p28' hc.2.2)⟩⟩
     simp only [List.mem_cons,List.not_mem_nil,or_false]
     rintro k (rfl|rfl|rfl|rfl|rfl)<;>assumption
    ·simp only [Ob.ok_cons,Ob.ok_nil,and_true]
     rw [hsh]
     exact ⟨iA113 hlt,(fun h=>(by cases h)),t1,⟨p4.load,rfl⟩,by omega,by rw [Nat.zero_add];exact t2⟩
   obtain ⟨st',g'',e1,e2,e3,e4,e5,e6,e7,e8⟩:=settle_ref (s:=rBurnt s) (bs:=g.lb++g.ob) hcall (fun j vs=>rfl) p5 hg R5 hw hl (.inr ⟨rfl,rfl⟩) (.inl (.inl ⟨rfl,rfl⟩)) own5 (fun i hi=>Nat.le_trans b3.next (c4 i hi))
   exact ⟨st',_,e1,e7,e8,g,g'',hF,e2,e3,e4,e5,e6,rfl⟩
end
section
set_option maxRecDepth 4000
theorem gtQ_T{a b:Int}(h:b<a):gtQ a b TT:=gtP_T h
theorem gtQ_F{a b:Int}(h:a≤b):gtQ a b FF:=gtP_F h
def rAppE(s:RS)(n:ByteArray)(c:List Int):Int:=if thE s n≠0 then thE s n else if 0<c.length∧s.q<usedR s.F+c.length then 7 else if burnB s.fu=true then 8 else 0
def RApp(s:RS)(n:ByteArray)(c:List Int)(s':RS):Prop:=
 if thE s n≠0 then s'=s else if 0<c.length∧s.q<usedR s.F+c.length then s'=s else if burnB s.fu=true then s'=rBurnt s else
 ∃g g',s.F[pos n s.F]? =some g∧g'.name=g.name∧g'.lb=g.lb∧g'.ob=g.ob++c∧BV g'.lv g'.lb∧BV g'.ov g'.ob∧s'={rBurnt s with F:=s.F.set (pos n s.F) g'}
theorem hide_RD{st:St}{d:Nat}{fv:AV}{s:RS}(h:RD st d fv s)(I:List Nat):RD (st.hide I) d fv s:=⟨h.row,h.fv.keep fun _ _ _ ho=>ho⟩
theorem tail_ok{sb:St}{d:Nat}{fv x:AV}{s:RS}{i:Nat}{g:RF}{c:List Int}(hp:RD sb d fv s)(hoff:s.off=false)(hw:sb.wf)(hl:sb.lock= [])(hg:RGood s.F)(hf:0≤s.fu∧s.fu≤9223372036854775807)(hF:s.F[i]? =some g)(hx:BV x c)(hb:g.ob.length+c.length≤big)(hbn:burnB s.fu=false):
  ∃f fl o1 o2 s3 s4 s5 s6,fv= .sl f 3 0 s.F.length fl∧(obTl d f s.F.length i (i*3) fl x o1 o2 g.ov sb s3 s4 s5 s6).ok∧RD s6 d fv {rBurnt s with F:=(rBurnt s).F.set i ⟨g.name,g.lv,o2,g.lb,g.ob++c⟩}∧Rest sb s6 (d::fid fv)∧OwnB s6 o2 (g.ob++c)∧∀i∈fid o2,sb.next≤i:=by
 obtain ⟨s3,b1,b2,b3⟩:=goes_ok hp hw hl hoff hf
 rw [hbn] at b1
 have hF':(rBurnt s).F[i]? =some g:=hF
 have hlt:=(List.getElem?_eq_some_iff.1 hF).1
 obtain ⟨f,fl,hfv,hgf⟩:=b2.fv.of hF'
 have hfv':fv= .sl f 3 0 s.F.length fl:=hfv
 subst hfv'
 have hgf:s3.get f=some (.row (cells s.F) 110):=hgf
 obtain ⟨v1,v2⟩:=get_in hg hF
 have hc:=cells_at _ _ _ hF
 have w3:=b3.wf
 have l3:s3.lock= []:=b3.lock.trans hl
 have hd:=w3 _ _ b2.row
 have hfn:=w3 _ _ hgf
 obtain ⟨o1,o2,s4,s5,c1,c2,c3,c4⟩:=ownApp_ok (I:= [d,d,f]) w3 l3 (fun k hk=>by
  simp only [List.mem_cons,List.not_mem_nil,or_false] at hk
  rcases hk with rfl|rfl|rfl<;>simp [b2.row,hgf]) v2 hx hb
 have p5:=b2.rest c3 (by simp) (by simp)
 have g5:=c3.keep _ _ (by simp) hgf
 have l5:(shw [d,d,f] s3 s4 s5).lock= []:=c3.lock.trans l3
 have w5:=c3.wf
 generalize hsh:shw [d,d,f] s3 s4 s5=s5' at*
 have t1:=storeO g5 l5 hF c2.cell
 have ec:cells (s.F.set i {g with ov:=o2})=cells (s.F.set i ⟨g.name,g.lv,o2,g.lb,g.ob++c⟩):=by rw [cells_put hlt,cells_put hlt]
 rw [ec] at t1
 refine ⟨f,fl,o1,o2,s3,s4,s5,s5'.set f (.row (cells (s.F.set i ⟨g.name,g.lv,o2,g.lb,g.ob++c⟩)) 110),rfl,?_,RD.setF (s:=rBurnt s) p5 (by simp [rBurnt]) (set_ne hlt),((b3.weak (by simp)).trans (c3.weak (by simp))).trans (Rest.set w5 (w5 _ _ g5) _ (by simp [fid])),c2.set_row g5 (by decide) _,fun i hi=>Nat.le_trans b3.next (c4 i hi)⟩
 unfold obTl
 rw [Ob.ok_append,Ob.ok_append]
 refine ⟨⟨?_,c1⟩,?_⟩
 ·simp only [Ob.ok_cons,Ob.ok_nil,and_true]
  refine ⟨b1,?_,⟨by simp,b2.load⟩,⟨by simp,b2.load⟩,iA113 hlt,⟨by simp,load_row hgf (p28' hc.2.2)⟩⟩
  simp only [List.mem_cons,List.not_mem_nil,or_false]
  rintro k (rfl|rfl|rfl)<;>assumption
 ·simp only [Ob.ok_cons,Ob.ok_nil,and_true]
  rw [hsh]
  exact ⟨iA113 hlt,(fun h=>(by cases h)),t1⟩
theorem roomR_ok{st:St}{d:Nat}{fv:AV}{s:RS}(hp:RD st d fv s)(hw:st.wf)(hg:RGood s.F)(hu:usedR s.F<1000000000)(hsz:s.F.length≤1000000){k:Nat}(hk:0<k)(hk2:k<1000000000){r:AV}(hr:gtQ ((usedR s.F:Int)+k) s.q r):
  (obRm d k s.q (usedR s.F) ((usedR s.F:Int)+k) st (st.hide [d]) r).ok∧Rest st ((st.hide [d]).show st [d]) []:=by
 have hd:=hw _ _ hp.row
 refine ⟨?_,(show_rest (Rest.refl (hide_wf hw [d]) []) (by simp)).1⟩
 unfold obRm
 simp only [Ob.ok_cons,Ob.ok_nil,and_true]
 refine ⟨fun i hi=> ?_,gtQ_T (by omega),⟨by simp,load_row hp.row (p3 rfl)⟩,fun _=>by simp [hp.row],rused_ok (hide_RD hp [d]) (hide_wf hw [d]) hg hsz hu,addP_ok (by omega),hr⟩
 obtain rfl:=List.mem_singleton.1 hi;exact hd
theorem rappend_ok{st:St}{d:Nat}{fv:AV}{s:RS}(hp:RD st d fv s)(hw:st.wf)(hl:st.lock= [])(hg:RGood s.F)(hu:usedR s.F<1000000000)(hsz:s.F.length≤1000000)(hf:0≤s.fu∧s.fu≤9223372036854775807){n:ByteArray}(hn:n.size≤1000000000000){x:AV}{c:List Int}(hx:BV x c)(hc:c.length<1000000000):
  ∃st' s',obC 33 [.ptr d 0,str n,x] st (i64 (rAppE s n c)) st'∧RD st' d fv s'∧RestF st st' (d::fid fv)∧RApp s n c s':=by
 have o1:=there_ok hp hw hsz hn
 unfold rAppE RApp
 by_cases hr:thE s n≠0
 ·simp only [if_pos hr]
  rw [if_neg hr] at o1
  exact ⟨st,s,rq_run (rapNot d 0 n (thE s n) x st) (by simp only [Ob.ok_cons,Ob.ok_nil,and_true];exact ⟨o1,neN_T hr⟩),hp,(Rest.refl hw _).f,rfl⟩
 simp only [if_neg hr]
 have h0:thE s n=0:=by simpa using hr
 rw [h0,if_pos rfl] at o1
 obtain ⟨hoff,hm,hh⟩:=thE_off h0
 obtain ⟨g,hF,_⟩:=hit_get hh
 have hug:=used_get hF
 have pre:Ob.ok [obT d n (pos n s.F) 0 st,bo (neN 0 0)=FF]:=by simp only [Ob.ok_cons,Ob.ok_nil,and_true];exact ⟨o1,neN_F⟩
 have main:∀{sb:St},Rest st sb []→(∀{s3:St},obC 63 [.ptr d 0] sb TT s3→obC 33 [.ptr d 0,str n,x] st (i64 8) s3)→(∀{f:Nat} {fl:Bool} {o1 o2:AV} {s3 s4 s5 s6:St},(obTl d f s.F.length (pos n s.F) (pos n s.F*3) fl x o1 o2 g.ov sb s3 s4 s5 s6).ok→obC 33 [.ptr d 0,str n,x] st (i64 0) s6)→
   ∃st' s',obC 33 [.ptr d 0,str n,x] st (i64 (if burnB s.fu=true then 8 else 0)) st'∧RD st' d fv s'∧RestF st st' (d::fid fv)∧(if burnB s.fu=true then s'=rBurnt s else∃g g',s.F[pos n s.F]? =some g∧g'.name=g.name∧g'.lb=g.lb∧g'.ob=g.ob++c∧BV g'.lv g'.lb∧BV g'.ov g'.ob∧s'={rBurnt s with F:=s.F.set (pos n s.F) g'}):=fun {sb} rb hbT hok=>by
  have pb:=hp.rest rb (by simp) (by simp)
  have lb:=rb.lock.trans hl
  by_cases hb:burnB s.fu=true
  ·simp only [if_pos hb]
   obtain ⟨s3,b1,b2,b3⟩:=goes_ok pb rb.wf lb hoff hf
   rw [hb] at b1
   exact ⟨s3,rBurnt s,hbT b1,b2,((rb.weak (by simp)).trans (b3.weak (by simp))).f,rfl⟩
  ·simp only [if_neg hb]
   rw [Bool.not_eq_true] at hb
   obtain ⟨f,fl,p1,p2,s3,s4,s5,s6,rfl,c1,c2,c3,c4,c5⟩:=tail_ok pb hoff rb.wf lb hg hf hF hx (by unfold big;omega) hb
   obtain ⟨st',g'',e1,e2,e3,e4,e5,e6,e7,e8⟩:=settle_ref (s:=rBurnt s) (bs:=g.ob++c) (hok c1) (fun j vs=>rfl) c2 hg ((rb.weak (by simp)).trans c3) hw hl (.inl (get_in hg hF).1) (.inr ⟨rfl,rfl⟩) c4 (fun i hi=>Nat.le_trans rb.next (c5 i hi))
   exact ⟨st',_,e1,e7,e8,g,g'',hF,e2,e3,e4,e5,e6,rfl⟩
 by_cases hc0:0<c.length
 ·have hxi:∃fl,x= .imm 1 c.length fl (c.map u8):=by
   rcases hx with ⟨rfl,_⟩|h
   ·simp at hc0
   ·exact h
  obtain ⟨gx,rfl⟩:=hxi
  by_cases hroom:s.q<usedR s.F+c.length
  ·simp only [if_pos (show 0<c.length∧s.q<(usedR s.F:Int)+(c.length:Int) from ⟨hc0,hroom⟩)]
   obtain ⟨r1,r2⟩:=roomR_ok hp hw hg hu hsz hc0 hc (gtQ_T hroom)
   refine ⟨_,s,rq_run (rapFull d (pos n s.F) n s.q (usedR s.F) ((usedR s.F:Int)+(c.length:Int)) st (st.hide [d]) _ gx _) ?_,hp.rest r2 (by simp) (by simp),(r2.weak (by simp)).f,rfl⟩
   rw [Ob.ok_append]
   exact ⟨pre,r1⟩
  ·simp only [if_neg (show¬(0<c.length∧s.q<(usedR s.F:Int)+(c.length:Int)) from fun h=>hroom h.2)]
   obtain ⟨r1,r2⟩:=roomR_ok hp hw hg hu hsz hc0 hc (gtQ_F (show (usedR s.F:Int)+c.length≤s.q by omega))
   refine main r2 (fun h=>rq_run (rapBurn d (pos n s.F) n s.q (usedR s.F) ((usedR s.F:Int)+(c.length:Int)) st (st.hide [d]) _ _ gx _) ?_) (fun {f fl p1 p2 s3 s4 s5 s6} h=>rq_run (rapOk d f s.F.length (pos n s.F) (pos n s.F*3) fl n s.q (usedR s.F) ((usedR s.F:Int)+(c.length:Int)) p1 p2 g.ov st (st.hide [d]) s3 s4 s5 s6 (c.map u8) gx c.length) ?_)
   ·rw [Ob.ok_append,Ob.ok_append]
    simp only [Ob.ok_cons,Ob.ok_nil,and_true] at pre⊢
    exact ⟨⟨pre,r1⟩,h⟩
   ·rw [Ob.ok_append,Ob.ok_append]
    exact ⟨⟨pre,r1⟩,h⟩
 ·simp only [if_neg (show¬(0<c.length∧s.q<(usedR s.F:Int)+(c.length:Int)) from fun h=>hc0 h.1)]
  have hlen:c.length=0:=by omega
  have hno:(obNoR c.length st).ok:=by
   unfold obNoR
   simp only [Ob.ok_cons,Ob.ok_nil,and_true]
   exact ⟨fun k hk=>(by cases hk),gtQ_F (by omega)⟩
  refine main (Rest.refl hw []) (fun h=> ?_) (fun {f fl p1 p2 s3 s4 s5 s6} h=> ?_)
  ·rcases hx with ⟨rfl,rfl⟩|⟨gx,rfl⟩
   ·refine rq_run (rapBurn0N d (pos n s.F) n st _) ?_
    rw [Ob.ok_append,Ob.ok_append]
    simp only [Ob.ok_cons,Ob.ok_nil,and_true] at pre⊢
    exact ⟨⟨pre,hno⟩,h⟩
   ·refine rq_run (rapBurn0I d (pos n s.F) n st _ _ gx _) ?_
    rw [Ob.ok_append,Ob.ok_append]
    simp only [Ob.ok_cons,Ob.ok_nil,and_true] at pre⊢
    exact ⟨⟨pre,hno⟩,h⟩
  ·rcases hx with ⟨rfl,rfl⟩|⟨gx,rfl⟩
   ·refine rq_run (rapOk0N d f s.F.length (pos n s.F) (pos n s.F*3) fl n p1 p2 g.ov st s3 s4 s5 s6) ?_
    rw [Ob.ok_append,Ob.ok_append]
    exact ⟨⟨pre,hno⟩,h⟩
   ·refine rq_run (rapOk0I d f s.F.length (pos n s.F) (pos n s.F*3) fl n p1 p2 g.ov st s3 s4 s5 s6 _ gx _) ?_
    rw [Ob.ok_append,Ob.ok_append]
    exact ⟨⟨pre,hno⟩,h⟩
end
section
set_option maxRecDepth 100000
noncomputable def cyP(i:Nat):Code:=match Tryz.f69.body with
 |some (.seq r0 (.seq r1 (.seq (.seq r2 (.block 0 (.loop b))) (.seq r6 _))))=> [r0,r1,r2,b,r6].getD i .skip
 |_=> .skip
theorem body77:Tryz.f69.body=some (.seq (cyP 0) (.seq (cyP 1) (.seq (.seq (cyP 2) (.block 0 (.loop (cyP 3)))) (.seq (cyP 4) .ret)))):=by kernel_rfl
noncomputable def cyEv(i:Nat)(l:List (Nat×AV))(st:St)(x:List Or):=(evS Tryz.prog E0 noOv noS 100000 [2023,25,8000,2038,2046,2055,6057,27] (cyP i) ⟨65,l,[]⟩ st x).map fun q=>(q.1,q.2.1.n,[q.2.1.get 0,q.2.1.get 2,q.2.1.get 3,q.2.1.get 4],q.2.2.1,q.2.2.2.2)
section
variable (d e f len i j k:Nat) (fl b:Bool) (n:ByteArray) (q fu:Int) (G lv ov o1 o2 bs w:AV) (st s1 s2 s3 s4 s5:St)
theorem cy_0:cyEv 0 [(0,.ptr d 0)] st []=some (.normal,65,[.ptr d 0,.nilp,.undef,.undef],st,[]):=by kernel_rfl
theorem cy_1:cyEv 1 [(0,.ptr d 0)] st [.eff (i64 q) id,.eff (i64 fu) id,.eff (bo b) id,.eff (.ptr e 0) (fun _=>s1)]=some (.normal,65,[.ptr d 0,.undef,.ptr e 0,.undef],s1.show st [d,d,d],
 [∀k∈ [d,d,d],k<st.next,[d,d,d].contains d=true∧loadA E0 st 3 (.ptr d 1)=some (i64 q),[d,d,d].contains d=true∧loadA E0 st 3 (.ptr d 2)=some (i64 fu),[d,d,d].contains d=true∧loadA E0 st 4 (.ptr d 3)=some (bo b),(true=true→ [d,d,d].all (fun k=>(st.get k).isSome)=true),boxA (st.hide [d,d,d]) 98 (.agg [.nils,i64 q,i64 fu,bo b])=some (.ptr e 0,s1)]):=by kernel_rfl
theorem cy_2:cyEv 2 [(0,.ptr d 0),(3,.ptr e 0)] st []=some (.normal,65,[.ptr d 0,.undef,.ptr e 0,i64 0],st,[]):=by kernel_rfl
theorem cy_4:cyEv 4 [(3,.ptr e 0)] st []=some (.normal,65,[.undef,.ptr e 0,.ptr e 0,.undef],st,[]):=by kernel_rfl
abbrev cyT(d e i:Nat):List (Nat×AV):= [(0,.ptr d 0),(3,.ptr e 0),(4,i64 i)]
theorem cy_endN:cyEv 3 (cyT d e i) st [.eff .nils id,FF]=some (.exit 0,65,[.ptr d 0,.undef,.ptr e 0,i64 i],st,[obL st 96 (.ptr d 0) .nils,bo (ltN i 0)=FF]):=by kernel_rfl
theorem cy_end:cyEv 3 (cyT d e i) st [.eff (.sl f 3 0 len fl) id,FF]=some (.exit 0,65,[.ptr d 0,.undef,.ptr e 0,i64 i],st,[obL st 96 (.ptr d 0) (.sl f 3 0 len fl),bo (ltN i len)=FF]):=by kernel_rfl
def hd1(I:List Nat)(st s:St):St:=s.show st I
def cyI(d e f:Nat):List Nat:= [e,d,f,d,f,d,f]
def cyO(d e f len i j k:Nat)(fl:Bool)(n:ByteArray)(G lv ov o1 o2 bs w:AV)(st s1 s2 s3 s4 s5:St):Ob:=
  [obL st 96 (.ptr d 0) (.sl f 3 0 len fl),bo (ltN i len)=TT,∀k∈cyI d e f,k<st.next,(cyI d e f).contains e=true∧loadA E0 st 96 (.ptr e 0)=some G,
   (cyI d e f).contains d=true∧loadA E0 st 96 (.ptr d 0)=some (.sl f 3 0 len fl),indexAddrA E0 96 (.sl f 3 0 len fl) (i64 i)=some (.ptr f j),(cyI d e f).contains f=true∧loadA E0 st 9 (.ptr f (j+0))=some (str n),
   (cyI d e f).contains d=true∧loadA E0 st 96 (.ptr d 0)=some (.sl f 3 0 len fl),indexAddrA E0 96 (.sl f 3 0 len fl) (i64 i)=some (.ptr f j),(cyI d e f).contains f=true∧loadA E0 st 22 (.ptr f (j+1))=some lv,
   (cyI d e f).contains d=true∧loadA E0 st 96 (.ptr d 0)=some (.sl f 3 0 len fl),indexAddrA E0 96 (.sl f 3 0 len fl) (i64 i)=some (.ptr f j),(cyI d e f).contains f=true∧loadA E0 st 22 (.ptr f (j+2))=some ov,
   (true=true→(cyI d e f).all (fun k=>(st.get k).isSome)=true),obC 57 [lv] (st.hide (cyI d e f)) o1 s1,
   (true=true→(cyI d e f).all (fun k=>((hd1 (cyI d e f) st s1).get k).isSome)=true),obC 57 [ov] ((hd1 (cyI d e f) st s1).hide (cyI d e f)) o2 s2,
   (true=true→(cyI d e f).all (fun k=>((hd1 (cyI d e f) (hd1 (cyI d e f) st s1) s2).get k).isSome)=true),buildSliceA E0 ((hd1 (cyI d e f) (hd1 (cyI d e f) st s1) s2).hide (cyI d e f)) 96 1 [(0,.agg [str n,o1,o2])]=some (bs,s3),
   (true=true→(cyI d e f).all (fun k=>((hd1 (cyI d e f) (hd1 (cyI d e f) (hd1 (cyI d e f) st s1) s2) s3).get k).isSome)=true),appendA E0 ((hd1 (cyI d e f) (hd1 (cyI d e f) (hd1 (cyI d e f) st s1) s2) s3).hide (cyI d e f)) 96 96 G bs=some (w,s4),
   (false=true→(cyI d e f).all (fun k=>((hd1 (cyI d e f) (hd1 (cyI d e f) (hd1 (cyI d e f) (hd1 (cyI d e f) st s1) s2) s3) s4).get k).isSome)=true),storeA E0 (hd1 (cyI d e f) (hd1 (cyI d e f) (hd1 (cyI d e f) (hd1 (cyI d e f) st s1) s2) s3) s4) 96 (.ptr e 0) w=some s5,i64 (addN i 1)=i64 k]
def cyX(f len j k:Nat)(fl:Bool)(n:ByteArray)(G lv ov o1 o2 bs w:AV)(s1 s2 s3 s4 s5:St):List Or:= [.eff (.sl f 3 0 len fl) id,TT,.eff G id,.eff (.sl f 3 0 len fl) id,.eff (.ptr f j) id,.eff (str n) id,.eff (.sl f 3 0 len fl) id,.eff (.ptr f j) id,.eff lv id,.eff (.sl f 3 0 len fl) id,.eff (.ptr f j) id,.eff ov id,.eff o1 (fun _=>s1),.eff o2 (fun _=>s2),.eff bs (fun _=>s3),.eff w (fun _=>s4),.eff .undef (fun _=>s5),i64 k]
variable (x y:Nat) (g1 g2:Bool) (c1 c2:List AV)
theorem cy_NN:cyEv 3 (cyT d e i) st (cyX f len j k fl n G lv ov .nils .nils bs w s1 s2 s3 s4 s5)=some (.normal,65,[.ptr d 0,.undef,.ptr e 0,i64 k],s5,cyO d e f len i j k fl n G lv ov .nils .nils bs w st s1 s2 s3 s4 s5):=by kernel_rfl
theorem cy_NI:cyEv 3 (cyT d e i) st (cyX f len j k fl n G lv ov .nils (.imm 1 y g2 c2) bs w s1 s2 s3 s4 s5)=some (.normal,65,[.ptr d 0,.undef,.ptr e 0,i64 k],s5,cyO d e f len i j k fl n G lv ov .nils (.imm 1 y g2 c2) bs w st s1 s2 s3 s4 s5):=by kernel_rfl
theorem cy_IN:cyEv 3 (cyT d e i) st (cyX f len j k fl n G lv ov (.imm 1 x g1 c1) .nils bs w s1 s2 s3 s4 s5)=some (.normal,65,[.ptr d 0,.undef,.ptr e 0,i64 k],s5,cyO d e f len i j k fl n G lv ov (.imm 1 x g1 c1) .nils bs w st s1 s2 s3 s4 s5):=by kernel_rfl
theorem cy_II:cyEv 3 (cyT d e i) st (cyX f len j k fl n G lv ov (.imm 1 x g1 c1) (.imm 1 y g2 c2) bs w s1 s2 s3 s4 s5)=some (.normal,65,[.ptr d 0,.undef,.ptr e 0,i64 k],s5,cyO d e f len i j k fl n G lv ov (.imm 1 x g1 c1) (.imm 1 y g2 c2) bs w st s1 s2 s3 s4 s5):=by kernel_rfl
end
end
section
set_option maxRecDepth 4000
theorem freeze_step2{g:G}{st st2:St}{w:World}(hok:OK g st w){id:Nat}{vs:List AV}{ty:Nat}(hg:st.get id=some (.row vs ty))(hnl:id∉st.lock)(hfr:∀i∈st.lock,∀o,st.get i=some o→frzO id vs o=o)(hF:Frozen id vs st st2):
  ∃g2,Step g st w g2 st2 w∧∀a v,VR g a v→VR g2 (frz id vs a) v:=by
 obtain ⟨hlt,c,fr,us,h1,h2,h3,h4,h5,h6⟩:=hok.obj id _ hg
 have hn:id<g.n:=by rw [hok.n];exact hlt
 have h0:=hok.sep id _ hg
 let g2:G:={n:=g.n,blk:=g.blk,base:=g.base,siz:=g.siz,M:=fun b=>if b=g.blk id then c.toList else g.M b}
 have le:g.le g2:=⟨Nat.le_refl _,fun _ _=>rfl,fun _ _=>rfl,fun _ _=>rfl,fun b=>by
  show g.M b= []∨(if b=g.blk id then c.toList else g.M b)=g.M b
  split
  ·rename_i e;rw [e];exact .inl h0
  ·exact .inr rfl⟩
 have hFG:FG g g2 id vs us c.toList:=⟨le,by show (if g.blk id=g.blk id then _ else _)=_;rw [if_pos rfl],h5,h3,h4⟩
 have back:∀i o,st2.get i=some o→i≠id∧∃o0,st.get i=some o0∧o=frzO id vs o0:=fun i o ho=>by
  rw [hF.get] at ho
  split at ho
  ·cases ho
  ·rename_i hne
   obtain ⟨o0,h7,h8⟩:=Option.map_eq_some_iff.1 ho
   exact ⟨hne,o0,h7,h8.symm⟩
 refine ⟨g2,⟨le,⟨fun b hb=> ?_,fun i o ho=> ?_,fun i o j o' hi hj he=> ?_,fun i o ho=> ?_,hok.n.trans hF.next.symm,fun p hp=>(hok.glob p (by rw [←hF.gl];exact hp)).mono le⟩,rfl,rfl,rfl,Nat.le_refl _,fun _ _ _=>rfl,fun i o ho _=> ?_,fun b hb hn'=> ?_,hF.lock,hF.gl⟩,fun a v hv=>hv.frz hFG⟩
 ·by_cases e:b=g.blk id
  ·subst e
   exact ⟨c,ty,fr,h1,by rw [hFG.M]⟩
  ·have:g2.M b=g.M b:=by show (if b=g.blk id then _ else _)=_;rw [if_neg e]
   rw [this] at hb⊢
   exact hok.imm b hb
 ·obtain ⟨hne,o0,h7,rfl⟩:=back i o ho
  have:=hok.obj i o0 h7
  exact ⟨by rw [hF.next];exact this.1,ObjR.frz hFG (by rw [hok.n];exact this.1) this.2⟩
 ·obtain ⟨_,o0,h7,_⟩:=back i o hi
  obtain ⟨_,o1,h8,_⟩:=back j o' hj
  exact hok.inj i o0 j o1 h7 h8 he
 ·obtain ⟨hne,o0,h7,_⟩:=back i o ho
  show (if g.blk i=g.blk id then _ else _)=_
  rw [if_neg fun e=>hne (hok.inj i o0 id _ h7 hg e)]
  exact hok.sep i o0 h7
 ·obtain ⟨hne,o0,h7,h8⟩:=back i o ho
  exact ⟨i,o0,h7,rfl,fun hc=>⟨rfl,by rw [h8,hfr i hc o0 h7]⟩⟩
 ·show (if b=g.blk id then _ else _)=_
  rw [if_neg fun e=>hn' id _ (St.wget_of hg hnl) e.symm]
theorem ACalls.freeze2{P:Program}{f:Nat}{args:List AV}{Q Q':AV→St→Prop}{st:St}(h:ACalls P f args Q st)
  (hq:∀a st',Q a st'→st'.lock=st.lock→st'.wf→∃id vs ty,st'.get id=some (.row vs ty)∧id∉st'.lock∧(∀i∈st'.lock,∀o,st'.get i=some o→frzO id vs o=o)∧Q' (frz id vs a) (frzSt id vs st')):ACalls P f args Q' st:=
 fun g w us hok hv=>(h g w us hok hv).mono fun e w' ⟨g',st',r,v,h1,k1,h3,k3⟩=>by
  have hwf:st'.wf:=fun id o ho=>(k1.ok.obj id o ho).1
  obtain ⟨id,vs,ty,hg,hl,hf,hq'⟩:=hq r st' k3 k1.lock hwf
  obtain ⟨g2,hs,hv2⟩:=freeze_step2 k1.ok hg hl hf (frzSt_ok hwf)
  exact ⟨g2,frzSt id vs st',frz id vs r,v,h1,k1.trans hs,hv2 _ _ h3,hq'⟩
def Calm(n:Nat)(o:AObj):Prop:=∀id vs,n≤id→frzO id vs o=o
theorem RestF.refl{st:St}(hw:st.wf)(S:List Nat):RestF st st S:=(Rest.refl hw S).f
theorem RestF.trans{a b c:St}{S:List Nat}(h:RestF a b S)(k:RestF b c S):RestF a c S:=
 ⟨fun i o hi ho hc=>k.keep i o hi (h.keep i o hi ho hc) (fun id vs hid=>hc id vs (Nat.le_trans h.next hid)),Nat.le_trans h.next k.next,k.lock.trans h.lock,k.gl.trans h.gl,k.wf⟩
theorem RestF.weak{a b:St}{S S':List Nat}(h:RestF a b S)(hs:∀i∈S,i∈S'):RestF a b S':=
 ⟨fun i o hi ho=>h.keep i o (fun e=>hi (hs i e)) ho,h.next,h.lock,h.gl,h.wf⟩
theorem RestF.old{a b c:St}{S S':List Nat}(h:RestF a b S)(k:RestF b c S')(hS:∀i∈S',i∈S∨a.next≤i)(hw:a.wf):RestF a c S:=
 ⟨fun i o hi ho hc=>k.keep i o (fun hi'=>by
   rcases hS i hi' with h1|h1
   ·exact hi h1
   ·have:=hw _ _ ho;omega) (h.keep i o hi ho hc) (fun id vs hid=>hc id vs (Nat.le_trans h.next hid)),Nat.le_trans h.next k.next,k.lock.trans h.lock,k.gl.trans h.gl,k.wf⟩
theorem calm_cells{F:List RF}(hg:RGood F)(n:Nat)(ty:Nat):Calm n (.row (cells F) ty):=fun id vs _=>by
 show AObj.row (frzL id vs (cells F)) ty=_
 rw [frz_cells,frzF_good hg]
theorem FV.lt{st:St}{fv:AV}{F:List RF}(h:FV st fv F)(hw:st.wf):∀i∈fid fv,i<st.next:=fun i hi=>by
 rcases h with ⟨_,rfl⟩|⟨_,f,fl,rfl,hg⟩
 ·cases hi
 ·simp only [fid,List.mem_singleton] at hi
  rw [hi];exact hw _ _ hg
theorem frz_fv{fv:AV}{st:St}{F:List RF}(h:FV st fv F){id:Nat}{vs:List AV}(hid:id∉fid fv):frz id vs fv=fv:=by
 rcases h with ⟨_,rfl⟩|⟨_,f,fl,rfl,_⟩
 ·rfl
 ·simp only [frz]
  rw [if_neg (fun e=>hid (by simp [fid,e]))]
theorem calm_row{st:St}{d:Nat}{fv:AV}{s:RS}(hp:RD st d fv s)(hw:st.wf):Calm st.next (.row [fv,i64 s.q,i64 s.fu,bo s.off] 98):=fun id vs hid=>by
 show AObj.row (frzL id vs _) 98=_
 simp only [frzL]
 rw [frz_fv hp.fv (fun h=>by have:=hp.fv.lt hw _ h;omega)]
 rfl
theorem RD.restF{st st':St}{d:Nat}{fv:AV}{s:RS}(h:RD st d fv s)(hw:st.wf)(hg:RGood s.F){S:List Nat}(hr:RestF st st' S)(h1:d∉S)(h2:∀i∈fid fv,i∉S):RD st' d fv s:=by
 refine ⟨hr.keep _ _ h1 h.row (calm_row h hw),?_⟩
 rcases h.fv with h|⟨h0,f,fl,rfl,hgf⟩
 ·exact .inl h
 ·exact .inr ⟨h0,f,fl,rfl,hr.keep _ _ (h2 f (by simp [fid])) hgf (calm_cells hg _ _)⟩
theorem own_imm{st:St}{v:AV}{bs:List Int}(hv:BV v bs)(hw:st.wf)(hb:bs.length≤big)(hlk:∀i∈st.lock,∃o,st.get i=some o∧Calm st.next o):∃o st',obC 57 [v] st o st'∧BV o bs∧RestF st st' []:=by
 obtain ⟨o,st',h1,h2,h3,h4⟩:=own_ok hv hw hb
 have main:∀j fl,o= .sl j 1 0 bs.length fl→st'.get j=some (.row (bs.map u8) 5)→∃o st',obC 57 [v] st o st'∧BV o bs∧RestF st st' []:=fun j fl e hj=>by
  have hjn:=h4 j (by rw [e];simp [fid])
  have hF:=frzSt_ok (id:=j) (vs:=bs.map u8) h3.wf
  refine ⟨.imm 1 bs.length fl (bs.map u8),frzSt j (bs.map u8) st',?_,.inr ⟨fl,rfl⟩,⟨fun i p _ hp hc=> ?_,h3.next,h3.lock,h3.gl,frz_wf h3.wf⟩⟩
  ·refine ACalls.freeze2 h1 fun b s' ⟨e1,e2⟩ _ _=>⟨j,bs.map u8,5,by rw [e2];exact hj,?_,?_,?_,by rw [e2]⟩
   ·rw [e2,h3.lock]
    intro hm
    obtain ⟨p,hp,_⟩:=hlk j hm
    have:=hw _ _ hp
    omega
   ·rw [e2,h3.lock]
    intro i hi p hp
    obtain ⟨p0,hp0,hc⟩:=hlk i hi
    have:=h3.keep i p0 (by simp) hp0
    rw [this] at hp
    cases hp
    exact hc j _ hjn
   ·rw [e1,e]
    simp only [frz,if_true]
    rw [if_pos (by simp),List.drop_zero,List.take_of_length_le (by simp)]
  ·have:=hw _ _ hp
   rw [hF.get,if_neg (by omega),h3.keep i p (by simp) hp,Option.map_some,hc j _ hjn]
 rcases h2 with ⟨rfl,rfl⟩|⟨rfl,j,rfl,hj⟩|⟨_,j,rfl,hj⟩
 ·exact ⟨.nils,st',h1,.inl ⟨rfl,rfl⟩,h3.f⟩
 ·exact main j true rfl hj
 ·exact main j false rfl hj
end
section
set_option maxRecDepth 4000
theorem chain_seq{σ:Type}(Inv:Nat→σ→Prop)(R:Nat→σ→σ→Prop)(n:Nat)(s0:σ)(h0:Inv 0 s0)(turn:∀i s,i<n→Inv i s→∃s',Inv (i+1) s'∧R i s s'):∃f:Nat→σ,f 0=s0∧(∀i,i≤n→Inv i (f i))∧∀i,i<n→R i (f i) (f (i+1)):=by
 classical
 let f:Nat→σ:=fun k=>Nat.rec s0 (fun i s=>if h:∃s',Inv (i+1) s'∧R i s s' then Classical.choose h else s) k
 have step:∀i,i<n→Inv i (f i)→Inv (i+1) (f (i+1))∧R i (f i) (f (i+1)):=fun i hi hI=>by
  have h:=turn i (f i) hi hI
  have e:f (i+1)=Classical.choose h:=by
   show (if h:∃s',Inv (i+1) s'∧R i (f i) s' then Classical.choose h else f i)=_
   rw [dif_pos h]
  rw [e]
  exact Classical.choose_spec h
 have inv:∀i,i≤n→Inv i (f i):=fun i=>by
  induction i with
  |zero=>exact fun _=>h0
  |succ i ih=>exact fun hi=>(step i hi (ih (by omega))).1
 exact ⟨f,rfl,inv,fun i hi=>(step i hi (inv i (by omega))).2⟩
theorem show_restF{st s':St}{I S:List Nat}(h:RestF (st.hide I) s' S)(hI:∀i∈I,i∉S∧∀o,st.get i=some o→Calm st.next o):RestF st (s'.show st I) S∧∀k,(s'.show st I).get k=s'.get k:=by
 have hg:∀k,(s'.show st I).get k=s'.get k:=fun k=>by
  rw [St.show_get]
  split
  ·rename_i hk
   obtain ⟨o,ho⟩:=Option.isSome_iff_exists.1 hk.2
   rw [ho,h.keep k o (hI k hk.1).1 ho (fun id vs hid=>(hI k hk.1).2 o ho id vs hid)]
  ·rfl
 have hn:(s'.show st I).next=s'.next:=by
  show (St.show1 _ _ _).next=_
  rw [St.show1_next]
 refine ⟨⟨fun i o hi ho hc=>by rw [hg];exact h.keep i o hi ho hc,by rw [hn];exact h.next,rfl,?_,fun i o ho=> ?_⟩,hg⟩
 ·show (St.show1 _ _ _).gl=_
  rw [St.show1_gl];exact h.gl
 ·rw [hg] at ho
  show i<(s'.show st I).next
  rw [hn];exact h.wf _ _ ho
theorem appF2{st:St}{v x:AV}{F G:List RF}(hv:OwnF st v F)(hw:st.wf)(hl:∀i∈fid v,i∉st.lock)(hx:sliceCells st x=some (G.length,cells G))(hb:F.length+G.length≤1000000):
  ∃v' st',appendA E0 st 96 96 v x=some (v',st')∧OwnF st' v' (F++G)∧Rest st st' (fid v)∧(v'=v∧st'=st∨∃l f,v'= .sl st.next 3 0 l f):=by
 obtain ⟨ti,z,he,h3,h64⟩:=el113
 by_cases h0:G.length=0
 ·have hG:G= []:=List.eq_nil_of_length_eq_zero h0
  subst hG
  refine ⟨v,st,?_,by simpa using hv,Rest.refl hw _,.inl ⟨rfl,rfl⟩⟩
  rcases hv with ⟨_,rfl⟩|⟨_,i,rfl,_⟩<;>simp only [appendA,he,src113,hx,str113,h3]
  ·rw [if_pos ⟨rfl,fun h=>by cases h⟩,if_pos h0]
  ·rw [if_pos ⟨rfl,fun h=>by cases h⟩,if_neg (fun h=>h rfl),if_pos h0]
 have hne:F++G≠ []:=fun e=>h0 (by rw [(List.append_eq_nil_iff.1 e).2];rfl)
 rcases hv with ⟨rfl,rfl⟩|⟨hF,i,rfl,hg⟩
 ·refine ⟨.sl st.next 3 0 G.length false,st.push (.row (cells G) 110),?_,.inr ⟨hne,st.next,by simp,by rw [St.get_push,if_pos rfl];rfl⟩,Rest.push hw _ _,.inr ⟨_,_,rfl⟩⟩
  simp only [appendA,he,src113,hx,str113,h3,h64]
  rw [if_pos ⟨by rw [cells_length],fun h=>by cases h⟩,if_neg h0,if_pos (by simp only [List.length_nil] at hb;omega)]
 ·have hdw:(st.del i).wf:=fun j p h=>by
   rw [St.get_del] at h
   split at h
   ·cases h
   ·exact hw _ _ h
  refine ⟨.sl st.next 3 0 (F.length+G.length) false,(st.del i).push (.row (cells F++cells G) 110),?_,.inr ⟨hne,st.next,by simp,by rw [St.get_push,if_pos (by simp),cells_append]⟩,⟨fun j o hj ho=> ?_,by simp,rfl,rfl,push_wf hdw _⟩,.inr ⟨_,_,rfl⟩⟩
  ·simp only [appendA,he,src113,hx,str113,h3,h64,hg]
   rw [if_pos ⟨by rw [cells_length],fun h=>by cases h⟩,if_neg (fun h=>h rfl),if_neg h0,if_pos (by omega),if_pos ⟨trivial,by rw [cells_length];omega⟩,if_neg (by simp),if_pos ⟨by rw [cells_length];omega,hl i (by simp [fid])⟩]
   rfl
  ·have:=hw _ _ ho
   rw [St.get_push,if_neg (by simp;omega),St.get_del,if_neg (fun e=>hj (by simp [fid,e]))];exact ho
def key(f:RF):ByteArray×List Int×List Int:=(f.name,f.lb,f.ob)
theorem cy_run{d e f len i k:Nat}{fl:Bool}{n:ByteArray}{G lv ov o1 o2 bs w:AV}{st s1 s2 s3 s4 s5:St}{x y:List Int}(h1:BV o1 x)(h2:BV o2 y):cyEv 3 (cyT d e i) st (cyX f len (i*3) k fl n G lv ov o1 o2 bs w s1 s2 s3 s4 s5)=some (.normal,65,[.ptr d 0,.undef,.ptr e 0,i64 k],s5,cyO d e f len i (i*3) k fl n G lv ov o1 o2 bs w st s1 s2 s3 s4 s5):=by
 rcases h1 with ⟨rfl,rfl⟩|⟨g1,rfl⟩<;>rcases h2 with ⟨rfl,rfl⟩|⟨g2,rfl⟩
 ·exact cy_NN d e f len i (i*3) k fl n G lv ov bs w st s1 s2 s3 s4 s5
 ·exact cy_NI d e f len i (i*3) k fl n G lv ov bs w st s1 s2 s3 s4 s5 _ g2 _
 ·exact cy_IN d e f len i (i*3) k fl n G lv ov bs w st s1 s2 s3 s4 s5 _ g1 _
 ·exact cy_II d e f len i (i*3) k fl n G lv ov bs w st s1 s2 s3 s4 s5 _ _ g1 g2 _ _
end
section
set_option maxRecDepth 4000
theorem Calm.mono{n m:Nat}{o:AObj}(h:Calm n o)(hm:n≤m):Calm m o:=fun id vs hid=>h id vs (by omega)
structure CyI (s0:St) (e:Nat) (s:RS) (i:Nat) (p:St×AV×List RF):Prop where
 rest:RestF s0 p.1 [e]
 rd:RD p.1 e p.2.1 {s with F:=p.2.2}
 own:OwnF p.1 p.2.1 p.2.2
 good:RGood p.2.2
 keys:p.2.2.map key=(s.F.take i).map key
 ids:∀j∈fid p.2.1,s0.next≤j
def CyR(d e:Nat)(i:Nat)(p p':St×AV×List RF):Prop:=∀T:Tm,T.n=65→T.get 0= .ptr d 0→T.get 3= .ptr e 0→T.get 4=i64 i→
 AW Tryz.prog (cyP 3) (fun ex T' st'=>ex= .normal∧T'.n=65∧T'.get 0= .ptr d 0∧T'.get 3= .ptr e 0∧T'.get 4=i64 ((i+1:Nat):Int)∧st'=p'.1) T p.1
def GY(T:Tm):List AV:= [T.get 0,T.get 2,T.get 3,T.get 4]
theorem cy_step{s0:St}{d e:Nat}{fv:AV}{s:RS}(hd:RD s0 d fv s)(hg:RGood s.F)(hw:s0.wf)(hl:s0.lock= [])(hde:d≠e){ve:List AV}(hve:s0.get e=some (.row ve 98))(hsz:s.F.length≤100000)(hu:usedR s.F≤big)(i:Nat)(p:St×AV×List RF)(hi:i<s.F.length)(hI:CyI s0 e s i p):
  ∃p',CyI s0 e s (i+1) p'∧CyR d e i p p':=by
 obtain ⟨st,G,F'⟩:=p
 obtain ⟨rest,rd,own,good,keys,ids⟩:=hI
 simp only at rest rd own good keys ids
 have hF:=List.getElem?_eq_getElem hi
 generalize s.F[i]=g at hF
 obtain ⟨f,fl,rfl,hgf0⟩:=hd.fv.of hF
 have hw':st.wf:=rest.wf
 have hl':st.lock= []:=rest.lock.trans hl
 have hf0:=hw _ _ hgf0
 have he:=hw _ _ hve
 have hfe:f≠e:=row_ne hgf0 hve (by decide)
 have rdD:=hd.restF hw hg rest (by simpa using hde) (by simp [fid];exact hfe)
 obtain ⟨f',fl',hfv,hgf⟩:=rdD.fv.of hF
 cases hfv
 have hc:=cells_at _ _ _ hF
 obtain ⟨v1,v2⟩:=get_in hg hF
 have hu1:=used_get hF
 have mem:∀{k:Nat} {Q:Nat→Prop},k∈cyI d e f→Q e→Q d→Q f→Q k:=fun {k Q} hk h1 h2 h3=>by
  simp only [cyI,List.mem_cons,List.not_mem_nil,or_false] at hk
  rcases hk with rfl|rfl|rfl|rfl|rfl|rfl|rfl<;>assumption
 have hse:s0.next≤st.next:=rest.next
 have calmI:∀k∈cyI d e f,∃o,st.get k=some o∧Calm st.next o:=fun k hk=>mem (Q:=fun k=>∃o,st.get k=some o∧Calm st.next o) hk ⟨_,rd.row,calm_row rd hw'⟩ ⟨_,rdD.row,calm_row rdD hw'⟩ ⟨_,hgf,calm_cells hg _ _⟩
 have oldI:∀k∈cyI d e f,k<s0.next:=fun k hk=>mem (Q:=fun k=>k<s0.next) hk he (hw _ _ hd.row) hf0
 have hlock:∀{A:St},A.lock= []→(A.hide (cyI d e f)).lock=cyI d e f:=fun {A} h=>by show cyI d e f++A.lock=_;rw [h,List.append_nil]
 obtain ⟨o1,s1,a1,a2,a3⟩:=own_imm (st:=st.hide (cyI d e f)) v1 (hide_wf hw' _) (by omega) (fun k hk=>by rw [hlock hl'] at hk;exact calmI k hk)
 obtain ⟨R1,g1⟩:=show_restF a3 (fun k hk=>⟨by simp,fun o ho=>by
  obtain ⟨o',h1,h2⟩:=calmI k hk
  rw [h1] at ho;cases ho;exact h2⟩)
 have calm1:∀k∈cyI d e f,∃o,(s1.show st (cyI d e f)).get k=some o∧Calm (s1.show st (cyI d e f)).next o:=fun k hk=>by
  obtain ⟨o',h1,h2⟩:=calmI k hk
  exact ⟨o',R1.keep _ _ (by simp) h1 h2,h2.mono R1.next⟩
 obtain ⟨o2,s2,b1,b2,b3⟩:=own_imm (st:=(s1.show st (cyI d e f)).hide (cyI d e f)) v2 (hide_wf R1.wf _) (by omega) (fun k hk=>by rw [hlock (R1.lock.trans hl')] at hk;exact calm1 k hk)
 obtain ⟨R2,g2⟩:=show_restF b3 (fun k hk=>⟨by simp,fun o ho=>by
  obtain ⟨o',h1,h2⟩:=calm1 k hk
  rw [h1] at ho;cases ho;exact h2⟩)
 have hA1:hd1 (cyI d e f) st s1=s1.show st (cyI d e f):=rfl
 have all0:(cyI d e f).all (fun k=>(st.get k).isSome)=true:=List.all_eq_true.2 fun k hk=>by
  obtain ⟨o,ho,_⟩:=calmI k hk;rw [ho];rfl
 have all1:(cyI d e f).all (fun k=>((s1.show st (cyI d e f)).get k).isSome)=true:=List.all_eq_true.2 fun k hk=>by
  obtain ⟨o,ho,_⟩:=calm1 k hk;rw [ho];rfl
 have R12:RestF st ((s2.show (s1.show st (cyI d e f)) (cyI d e f))) []:=R1.trans R2
 generalize hA1e:s1.show st (cyI d e f)=A1 at*
 generalize hA2e:s2.show A1 (cyI d e f)=A2 at*
 have lA2:A2.lock= []:=R12.lock.trans hl'
 have keep2:∀k∈cyI d e f,∀o,st.get k=some o→A2.get k=some o:=fun k hk o ho=>by
  obtain ⟨o',h1,h2⟩:=calmI k hk
  rw [h1] at ho;cases ho
  exact R12.keep _ _ (by simp) h1 h2
 have all2:(cyI d e f).all (fun k=>(A2.get k).isSome)=true:=List.all_eq_true.2 fun k hk=>by
  obtain ⟨o,ho,_⟩:=calmI k hk;rw [keep2 k hk o ho];rfl
 have P3:Rest (A2.hide (cyI d e f)) ((A2.hide (cyI d e f)).push (.row [str g.name,o1,o2] 110)) []:=Rest.push (hide_wf R12.wf _) _ _
 obtain ⟨R3,g3⟩:=show_rest P3 (by simp)
 generalize hs3:(A2.hide (cyI d e f)).push (.row [str g.name,o1,o2] 110)=s3 at*
 have gs3:s3.get A2.next=some (.row [str g.name,o1,o2] 110):=by rw [←hs3,St.get_push];exact if_pos rfl
 generalize hA3e:s3.show A2 (cyI d e f)=A3 at*
 have keep3:∀k∈cyI d e f,∀o,st.get k=some o→A3.get k=some o:=fun k hk o ho=>R3.keep _ _ (by simp) (keep2 k hk o ho)
 have all3:(cyI d e f).all (fun k=>(A3.get k).isSome)=true:=List.all_eq_true.2 fun k hk=>by
  obtain ⟨o,ho,_⟩:=calmI k hk;rw [keep3 k hk o ho];rfl
 have lA3:A3.lock= []:=R3.lock.trans lA2
 have own3:OwnF (A3.hide (cyI d e f)) G F':=by
  rcases own with h|⟨h,j,h1,h2⟩
  ·exact .inl h
  ·exact .inr ⟨h,j,h1,R3.keep _ _ (by simp) (R12.keep _ _ (by simp) h2 (calm_cells good _ _))⟩
 have hx:sliceCells (A3.hide (cyI d e f)) (.sl A2.next 3 0 1 true)=some (([⟨g.name,o1,o2,g.lb,g.ob⟩]:List RF).length,cells [⟨g.name,o1,o2,g.lb,g.ob⟩]):=by
  have:(A3.hide (cyI d e f)).get A2.next=some (.row [str g.name,o1,o2] 110):=by
   show A3.get A2.next=_
   rw [g3];exact gs3
  simp only [sliceCells,this]
  rfl
 have hlen:F'.length≤100000:=by
  have:=congrArg List.length keys
  simp at this;omega
 obtain ⟨w,s4,c1,c2,c3,c4⟩:=appF2 own3 (hide_wf R3.wf _) (fun j hj=>by
  rw [hlock lA3]
  intro hm
  have:=oldI j hm
  have:=ids j hj
  omega) hx (by simp;omega)
 obtain ⟨R4,g4⟩:=show_rest c3 (fun j hm hj=>by
  have:=oldI j hm
  have:=ids j hj
  omega)
 have own4:OwnF (s4.show A3 (cyI d e f)) w (F'++ [⟨g.name,o1,o2,g.lb,g.ob⟩]):=by
  rcases c2 with h|⟨h,j,h1,h2⟩
  ·exact .inl h
  ·exact .inr ⟨h,j,h1,by rw [g4];exact h2⟩
 have hwid:∀j∈fid w,s0.next≤j:=by
  rcases c4 with ⟨rfl,_⟩|⟨_,_,rfl⟩
  ·exact ids
  ·intro j hj
   simp only [fid,List.mem_singleton] at hj
   have h1:=R3.next
   have h2:=R12.next
   have h3:(A3.hide (cyI d e f)).next=A3.next:=rfl
   omega
 have rowe:(s4.show A3 (cyI d e f)).get e=some (.row [G,i64 s.q,i64 s.fu,bo s.off] 98):=R4.keep _ _ (fun hj=>by have:=ids e hj;omega) (keep3 e (by simp [cyI]) _ rd.row)
 have rest4:RestF s0 (s4.show A3 (cyI d e f)) [e]:=((rest.trans (R12.weak (by simp))).trans (R3.weak (by simp)).f).old R4.f (fun j hj=> .inr (ids j hj)) hw
 have l4:(s4.show A3 (cyI d e f)).lock= []:=rest4.lock.trans hl
 generalize hA4e:s4.show A3 (cyI d e f)=A4 at*
 have hst:=store113 rowe l4 own4.cell
 have he4:=rest4.wf _ _ rowe
 have own5:OwnF (A4.set e (.row [w,i64 s.q,i64 s.fu,bo s.off] 98)) w (F'++ [⟨g.name,o1,o2,g.lb,g.ob⟩]):=by
  rcases own4 with h|⟨h,j,h1,h2⟩
  ·exact .inl h
  ·exact .inr ⟨h,j,h1,by rw [St.get_set,if_neg (row_ne h2 rowe (by decide))];exact h2⟩
 refine ⟨(A4.set e (.row [w,i64 s.q,i64 s.fu,bo s.off] 98),w,F'++ [⟨g.name,o1,o2,g.lb,g.ob⟩]),⟨rest4.trans (Rest.set rest4.wf he4 _ (by simp)).f,⟨by rw [St.get_set,if_pos rfl],own5.fv⟩,own5,?_,?_,hwid⟩,?_⟩
 ·intro h hm
  rcases List.mem_append.1 hm with hm|hm
  ·exact good h hm
  ·obtain rfl:=List.mem_singleton.1 hm
   exact ⟨a2,b2⟩
 ·show (F'++ [_]).map key=_
  rw [List.map_append,keys,List.take_add_one,hF,List.map_append]
  rfl
 ·intro T hn h0 h3 h4
  have hT:=conz (P:=fun p=>T.get p.1=p.2) (p:=(0,.ptr d 0)) h0 (conz (p:=(3,.ptr e 0)) h3 (one (p:=(4,i64 i)) h4))
  refine (any_run (G:=GY) (cy_run (d:=d) (e:=e) (f:=f) (len:=s.F.length) (i:=i) (k:=i+1) (fl:=fl) (n:=g.name) (G:=G) (lv:=g.lv) (ov:=g.ov) (bs:= .sl A2.next 3 0 1 true) (w:=w) (st:=st) (s1:=s1) (s2:=s2) (s3:=s3) (s4:=s4) (s5:=A4.set e (.row [w,i64 s.q,i64 s.fu,bo s.off] 98)) a2 b2) ?_ hn hT).mono fun ex T' st2 ⟨he',hn',hF',hst'⟩=> ?_
  ·unfold cyO hd1
   rw [hA1e,hA2e,hA3e,hA4e]
   simp only [Ob.ok_cons,Ob.ok_nil,and_true]
   have cd:(cyI d e f).contains d=true:=by simp [cyI]
   have ce:(cyI d e f).contains e=true:=by simp [cyI]
   have cf:(cyI d e f).contains f=true:=by simp [cyI]
   refine ⟨⟨rdD.load,rfl⟩,lt_T (by omega),fun k hk=>by have:=oldI k hk;omega,⟨ce,rd.load⟩,⟨cd,rdD.load⟩,iA113 hi,⟨cf,load_row hgf (p9 hc.1)⟩,⟨cd,rdD.load⟩,iA113 hi,⟨cf,load_row hgf (p28' hc.2.1)⟩,⟨cd,rdD.load⟩,iA113 hi,⟨cf,load_row hgf (p28' hc.2.2)⟩,fun _=>all0,a1,fun _=>all1,b1,fun _=>all2,?_,fun _=>all3,c1,(fun h=>(by cases h)),hst,by rw [addN_eq _ _ (by omega)];rfl⟩
   rw [←hs3]
   exact bs113 _ _ _ _
  ·subst he';subst hst'
   simp only [GY,List.cons.injEq,and_true] at hF'
   exact ⟨rfl,hn',hF'.1,hF'.2.2.1,hF'.2.2.2,rfl⟩
end
section
set_option maxRecDepth 4000
theorem cy_loop{s0:St}{d e:Nat}{fv:AV}{s:RS}{c:Nat→St×AV×List RF}(hd:RD s0 d fv s)(hg:RGood s.F)(hw:s0.wf)(hde:d≠e){ve:List AV}(hve:s0.get e=some (.row ve 98))(hsz:s.F.length≤100000)(inv:∀i,i≤s.F.length→CyI s0 e s i (c i))(step:∀i,i<s.F.length→CyR d e i (c i) (c (i+1)))
  {T:Tm} (hn:T.n=65) (h0:T.get 0= .ptr d 0) (h3:T.get 3= .ptr e 0) (h4:T.get 4=i64 0):
  AW Tryz.prog (.loop (cyP 3)) (fun ex T' st'=>ex= .exit 0∧T'.n=65∧T'.get 3= .ptr e 0∧st'=(c s.F.length).1) T (c 0).1:=by
 refine .loop (fun m T st'=>∃i:Nat,i≤s.F.length∧m=s.F.length- i∧st'=(c i).1∧T.n=65∧T.get 0= .ptr d 0∧T.get 3= .ptr e 0∧T.get 4=i64 i) s.F.length ⟨0,by omega,rfl,rfl,hn,h0,h3,h4⟩ fun m T st' hI=> ?_
 obtain ⟨i,hi,rfl,rfl,hn,h0,h3,h4⟩:=hI
 by_cases hlt:i<s.F.length
 ·refine (step i hlt T hn h0 h3 h4).mono fun ex T' st2 ⟨he,hn',q0,q3,q4,hst⟩=> ?_
  subst he
  exact ⟨s.F.length- (i+1),by omega,i+1,by omega,rfl,hst,hn',q0,q3,q4⟩
 ·obtain rfl:i=s.F.length:=by omega
  have hT:=conz (P:=fun p=>T.get p.1=p.2) (p:=(0,.ptr d 0)) h0 (conz (p:=(3,.ptr e 0)) h3 (one (p:=(4,i64 s.F.length)) h4))
  have I:=inv s.F.length hi
  have hfe:∀j∈fid fv,j∉ [e]:=fun j hj hm=>by
   obtain rfl:=List.mem_singleton.1 hm
   rcases hd.fv with ⟨_,h⟩|⟨_,f,fl,h,hgf⟩
   ·rw [h] at hj;cases hj
   ·rw [h] at hj
    simp only [fid,List.mem_singleton] at hj
    exact row_ne hgf hve (by decide) hj.symm
  have rdD:=hd.restF hw hg I.rest (by simpa using hde) hfe
  have o1:obL (c s.F.length).1 96 (.ptr d 0) fv:=⟨rdD.load,rfl⟩
  rcases rdD.fv with ⟨h2,rfl⟩|⟨_,f,fl,rfl,_⟩
  ·refine (any_run (G:=GY) (cy_endN d e s.F.length (c s.F.length).1) (by simp only [Ob.ok_cons,Ob.ok_nil,and_true];exact ⟨o1,lt_F (by omega)⟩) hn hT).mono fun ex T' st2 ⟨he,hn',hF,hst⟩=> ?_
   subst he
   simp only [GY,List.cons.injEq,and_true] at hF
   exact ⟨rfl,hn',hF.2.2.1,hst⟩
  ·refine (any_run (G:=GY) (cy_end d e f s.F.length s.F.length fl (c s.F.length).1) (by simp only [Ob.ok_cons,Ob.ok_nil,and_true];exact ⟨o1,lt_F (by omega)⟩) hn hT).mono fun ex T' st2 ⟨he,hn',hF,hst⟩=> ?_
   subst he
   simp only [GY,List.cons.injEq,and_true] at hF
   exact ⟨rfl,hn',hF.2.2.1,hst⟩
theorem rcopy_ok{st:St}{d:Nat}{fv:AV}{s:RS}(hp:RD st d fv s)(hw:st.wf)(hl:st.lock= [])(hg:RGood s.F)(hsz:s.F.length≤100000)(hu:usedR s.F≤big):
  ∃st' fv' F',obC 69 [.ptr d 0] st (.ptr st.next 0) st'∧RD st' st.next fv' {s with F:=F'}∧F'.map key=s.F.map key∧RGood F'∧RestF st st' []∧∀i∈fid fv',st.next≤i:=by
 have hd:=hw _ _ hp.row
 have P1:Rest (st.hide [d,d,d]) ((st.hide [d,d,d]).push (.row [.nils,i64 s.q,i64 s.fu,bo s.off] 98)) []:=Rest.push (hide_wf hw _) _ _
 obtain ⟨R1,g1⟩:=show_rest P1 (by simp)
 have hbox:boxA (st.hide [d,d,d]) 98 (.agg [.nils,i64 s.q,i64 s.fu,bo s.off])=some (.ptr st.next 0,(st.hide [d,d,d]).push (.row [.nils,i64 s.q,i64 s.fu,bo s.off] 98)):=rfl
 have ge:((st.hide [d,d,d]).push (.row [.nils,i64 s.q,i64 s.fu,bo s.off] 98)).get st.next=some (.row [.nils,i64 s.q,i64 s.fu,bo s.off] 98):=by rw [St.get_push];exact if_pos rfl
 generalize (st.hide [d,d,d]).push (.row [.nils,i64 s.q,i64 s.fu,bo s.off] 98)=sb at*
 rw [←g1] at ge
 have run1:=cy_1 d st.next s.off s.q s.fu st sb
 generalize hs0:sb.show st [d,d,d]=s0 at*
 have hd0:=hp.rest R1 (by simp) (by simp)
 have l0:s0.lock= []:=R1.lock.trans hl
 have hde:d≠st.next:=by omega
 have init:CyI s0 st.next s 0 (s0,.nils,[]):=⟨(Rest.refl R1.wf _).f,⟨ge,.inl ⟨rfl,rfl⟩⟩,.inl ⟨rfl,rfl⟩,(fun f hf=>(by cases hf)),(by simp),(fun j hj=>(by cases hj))⟩
 obtain ⟨c,c0,inv,step⟩:=chain_seq (CyI s0 st.next s) (CyR d st.next) s.F.length (s0,.nils,[]) init (fun i p hi hI=>cy_step hd0 hg R1.wf l0 hde ge hsz hu i p hi hI)
 have hend:=inv s.F.length (Nat.le_refl _)
 refine ⟨(c s.F.length).1,(c s.F.length).2.1,(c s.F.length).2.2,?_,hend.rd,by rw [hend.keys,List.take_length],hend.good,R1.f.old hend.rest (fun i hi=> .inr (by simp at hi;omega)) hw,fun i hi=>Nat.le_trans R1.next (hend.ids i hi)⟩
 refine ACalls.body (E:=E0) hE Tryz.func69 body77 ?_
 refine .seq ((any_run (G:=GY) (cy_0 d st) Ob.ok_nil rfl (one rfl)).mono fun e T1 s1 ⟨he,n1,F1,hst⟩=> ?_)
 subst he;subst hst
 simp only [GY,List.cons.injEq] at F1
 simp only [thenA]
 refine .seq ((any_run (G:=GY) run1 ?_ n1 (one F1.1)).mono fun e T2 s2 ⟨he,n2,F2,hst⟩=> ?_)
 ·simp only [Ob.ok_cons,Ob.ok_nil,and_true]
  refine ⟨fun k hk=> ?_,⟨by simp,load_row hp.row (p3 rfl)⟩,⟨by simp,load_row hp.row (p3 rfl)⟩,⟨by simp,load_row hp.row (p4 rfl)⟩,fun _=>by simp [hp.row],hbox⟩
  simp only [List.mem_cons,List.not_mem_nil,or_false,or_self] at hk
  rw [hk];exact hd
 subst he;subst hst
 simp only [GY,List.cons.injEq] at F2
 simp only [thenA]
 refine .seq (.seq ((any_run (G:=GY) (cy_2 d _ s2) Ob.ok_nil n2 (conz F2.1 (one F2.2.2.1))).mono fun e T3 s3 ⟨he,n3,F3,hst⟩=> ?_))
 subst he;subst hst
 simp only [GY,List.cons.injEq,and_true] at F3
 simp only [thenA]
 have hs:s3=(c 0).1:=by rw [c0]
 rw [hs]
 refine .block ((cy_loop hd0 hg R1.wf hde ge hsz inv step n3 F3.1 F3.2.2.1 F3.2.2.2).mono fun e T4 s4 ⟨he,n4,h3,hst⟩=> ?_)
 subst he
 simp only [blockA,if_true,thenA]
 refine .seq ((any_run (G:=GY) (cy_4 _ s4) Ob.ok_nil n4 (one h3)).mono fun e T5 s5 ⟨he,n5,F5,hst'⟩=> ?_)
 subst he
 simp only [GY,List.cons.injEq] at F5
 simp only [thenA]
 exact .ret ⟨[T5.get 2],rfl,by simp only [oneOrTup];rw [F5.2.1],by rw [hst',hst]⟩
end
section
set_option maxRecDepth 100000
noncomputable def rkP(i:Nat):Code:=match Tryz.f23.body with
 |some (.seq r0 (.seq (.seq r1 (.block 0 (.loop b))) r12))=> [r0,r1,b,r12].getD i .skip
 |_=> .skip
theorem body46:Tryz.f23.body=some (.seq (rkP 0) (.seq (.seq (rkP 1) (.block 0 (.loop (rkP 2)))) (rkP 3))):=by kernel_rfl
noncomputable def rkEv(i:Nat)(l:List (Nat×AV))(st:St)(x:List Or):=(evS Tryz.prog E0 noOv noS 100000 [2012,14,2020,2022,2024,27,31,2034,2035,36,38,2039,41,8000,2052,2061,2065,6057,2067,2072,2074,5000,16] (rkP i) ⟨82,l,[]⟩ st x).map fun q=>(q.1,q.2.1.n,[q.2.1.get 0,q.2.1.get 1,q.2.1.get 4,q.2.1.get 5],q.2.2.1,q.2.2.2.2)
abbrev rkT(d:Nat)(x:AV)(k i:Nat):List (Nat×AV):= [(0,.ptr d 0),(1,x),(4,i64 k),(5,i64 i)]
section
variable (d f len i j k m:Nat) (fl g:Bool) (x lv ov o1 o2 c:AV) (cs ps:List AV) (v l1 w:Int) (st s1 s2 s3 s4:St)
theorem rk_0:rkEv 0 [(0,.ptr d 0),(1,x)] st []=some (.normal,82,[.ptr d 0,x,i64 0,.undef],st,[]):=by kernel_rfl
theorem rk_1:rkEv 1 [(0,.ptr d 0),(1,x),(4,i64 0)] st []=some (.normal,82,[.ptr d 0,x,i64 0,i64 0],st,[]):=by kernel_rfl
theorem rk_endN:rkEv 2 (rkT d x k i) st [.eff .nils id,FF]=some (.exit 0,82,[.ptr d 0,x,i64 k,i64 i],st,[obL st 96 (.ptr d 0) .nils,bo (ltN i 0)=FF]):=by kernel_rfl
theorem rk_end:rkEv 2 (rkT d x k i) st [.eff (.sl f 3 0 len fl) id,FF]=some (.exit 0,82,[.ptr d 0,x,i64 k,i64 i],st,[obL st 96 (.ptr d 0) (.sl f 3 0 len fl),bo (ltN i len)=FF]):=by kernel_rfl
theorem rk_3:rkEv 3 [(0,.ptr d 0)] st [.eff .undef (fun _=>s1),.eff .undef (fun _=>s2)]=some (.normal,82,[.ptr d 0,.undef,.undef,.undef],s2,[storeA E0 st 3 (.ptr d 2) (i64 0)=some s1,storeA E0 s1 4 (.ptr d 3) FF=some s2]):=by kernel_rfl
def rkH(d f len i:Nat)(fl:Bool)(ov:AV)(st:St):Ob:= [obL st 96 (.ptr d 0) (.sl f 3 0 len fl),bo (ltN i len)=TT,obL st 96 (.ptr d 0) (.sl f 3 0 len fl),0≤(i:Int)∧(i:Int)<len,obL st 22 (.ptr f (0+i*3+2)) ov]
theorem rk_skipN:rkEv 2 (rkT d x k i) st [.eff (.sl f 3 0 len fl) id,TT,.eff (.sl f 3 0 len fl) id,.eff .nils id,TT,i64 j]=some (.normal,82,[.ptr d 0,x,i64 k,i64 j],st,rkH d f len i fl .nils st++ [bo (eqN 0 0)=TT,i64 (addN i 1)=i64 j]):=by kernel_rfl
theorem rk_skipI:rkEv 2 (rkT d x k i) st [.eff (.sl f 3 0 len fl) id,TT,.eff (.sl f 3 0 len fl) id,.eff (.imm 1 m g cs) id,TT,i64 j]=some (.normal,82,[.ptr d 0,x,i64 k,i64 j],st,rkH d f len i fl (.imm 1 m g cs) st++ [bo (eqN m 0)=TT,i64 (addN i 1)=i64 j]):=by kernel_rfl
def rkI(d f:Nat):List Nat:= [d,d,f,d,f]
def rkO(d f len i j k1 i1:Nat)(fl:Bool)(lv ov o1 o2 c:AV)(k i0 w:Int)(st s1 s2 s3 s4:St):Ob:=
  [i64 (addN k 1)=i64 k1,∀k∈rkI d f,k<st.next,(rkI d f).contains d=true∧loadA E0 st 96 (.ptr d 0)=some (.sl f 3 0 len fl),(rkI d f).contains d=true∧loadA E0 st 96 (.ptr d 0)=some (.sl f 3 0 len fl),indexAddrA E0 96 (.sl f 3 0 len fl) (i64 i)=some (.ptr f j),(rkI d f).contains f=true∧loadA E0 st 22 (.ptr f (j+1))=some lv,
   (rkI d f).contains d=true∧loadA E0 st 96 (.ptr d 0)=some (.sl f 3 0 len fl),indexAddrA E0 96 (.sl f 3 0 len fl) (i64 i)=some (.ptr f j),(rkI d f).contains f=true∧loadA E0 st 22 (.ptr f (j+2))=some ov,sliceA E0 st 22 ov none (some (i64 w)) none=some c]++obOwn (rkI d f) st s1 s2 lv c o1 o2++
  [indexAddrA E0 96 (.sl f 3 0 len fl) (i64 i)=some (.ptr f j),(false=true→(rkI d f).all (fun k=>((shw (rkI d f) st s1 s2).get k).isSome)=true),storeA E0 (shw (rkI d f) st s1 s2) 22 (.ptr f (j+1)) o2=some s3,obL s3 96 (.ptr d 0) (.sl f 3 0 len fl),0≤(i:Int)∧(i:Int)<len,storeA E0 s3 22 (.ptr f (0+i*3+2)) .nils=some s4,i64 (addN i0 1)=i64 i1]
def rkX(F pf lv ov o1 o2 c:AV)(k1 i1:Nat)(s1 s2 s3 s4:St):List Or:= [i64 k1,.eff F id,.eff F id,.eff pf id,.eff lv id,.eff F id,.eff pf id,.eff ov id,.eff c id,.eff o1 (fun _=>s1),.eff o2 (fun _=>s2),.eff pf id,.eff .undef (fun _=>s3),.eff F id,.eff .undef (fun _=>s4),i64 i1]
variable (k1 i1 np:Nat) (gp:Bool)
theorem rk_noN:rkEv 2 (rkT d .nils k i) st (([.eff (.sl f 3 0 len fl) id,TT,.eff (.sl f 3 0 len fl) id,.eff (.imm 1 m g cs) id,FF,FF]:List Or)++rkX (.sl f 3 0 len fl) (.ptr f j) lv (.imm 1 m g cs) o1 o2 c k1 i1 s1 s2 s3 s4)=some (.normal,82,[.ptr d 0,.nils,i64 k1,i64 i1],s4,rkH d f len i fl (.imm 1 m g cs) st++ [bo (eqN m 0)=FF,bo (ltN k 0)=FF]++rkO d f len i j k1 i1 fl lv (.imm 1 m g cs) o1 o2 c k i 0 st s1 s2 s3 s4):=by kernel_rfl
theorem rk_noI:rkEv 2 (rkT d (.imm 1 np gp ps) k i) st (([.eff (.sl f 3 0 len fl) id,TT,.eff (.sl f 3 0 len fl) id,.eff (.imm 1 m g cs) id,FF,FF]:List Or)++rkX (.sl f 3 0 len fl) (.ptr f j) lv (.imm 1 m g cs) o1 o2 c k1 i1 s1 s2 s3 s4)=some (.normal,82,[.ptr d 0,.imm 1 np gp ps,i64 k1,i64 i1],s4,rkH d f len i fl (.imm 1 m g cs) st++ [bo (eqN m 0)=FF,bo (ltN k np)=FF]++rkO d f len i j k1 i1 fl lv (.imm 1 m g cs) o1 o2 c k i 0 st s1 s2 s3 s4):=by kernel_rfl
def remP(a b:Int)(v:AV)(st:St):Prop:=binA E0 .rem 3 (i64 a) (i64 b)=some v∧st=st
theorem rk_pick:rkEv 2 (rkT d (.imm 1 np gp ps) k i) st (([.eff (.sl f 3 0 len fl) id,TT,.eff (.sl f 3 0 len fl) id,.eff (.imm 1 m g cs) id,FF,TT,.eff (u16 v) id,i64 v,i64 l1,.eff (i64 w) id]:List Or)++rkX (.sl f 3 0 len fl) (.ptr f j) lv (.imm 1 m g cs) o1 o2 c k1 i1 s1 s2 s3 s4)=some (.normal,82,[.ptr d 0,.imm 1 np gp ps,i64 k1,i64 i1],s4,rkH d f len i fl (.imm 1 m g cs) st++ [bo (eqN m 0)=FF,bo (ltN k np)=TT,0≤(k:Int)∧(k:Int)<np,obL st 108 (.iptr (ps.drop (k*1))) (u16 v),i64 (IntKind.i64.wrap v)=i64 v,i64 (addN m 1)=i64 l1,remP v l1 (i64 w) st]++rkO d f len i j k1 i1 fl lv (.imm 1 m g cs) o1 o2 c k i w st s1 s2 s3 s4):=by kernel_rfl
end
end
section
set_option maxRecDepth 4000
theorem freeze_rd{st s8:St}{d j:Nat}{fv:AV}{s:RS}{S:List Nat}{vs:List AV}(hp:RD s8 d fv s)(hr:Rest st s8 S)(hw:st.wf)(hj:s8.get j=some (.row vs 5))(hjn:st.next≤j):
  RD (frzSt j vs s8) d fv {s with F:=s.F.map (frzF j vs)}∧RestF st (frzSt j vs s8) S:=by
 have hF:=frzSt_ok (id:=j) (vs:=vs) hr.wf
 have hjd:d≠j:=row_ne hp.row hj (by decide)
 refine ⟨⟨?_,?_⟩,⟨fun i o hi ho hs=> ?_,hr.next,hr.lock,hr.gl,frz_wf hr.wf⟩⟩
 ·rw [hF.get,if_neg hjd,hp.row]
  simp only [Option.map_some,frzO,frzL]
  rcases hp.fv with ⟨_,e⟩|⟨_,r,fl,e,hg⟩
  ·rw [e];rfl
  ·have hjr:r≠j:=row_ne hg hj (by decide)
   rw [e]
   simp only [frz,if_neg hjr]
   rfl
 ·rcases hp.fv with ⟨e1,e⟩|⟨h0,r,fl,e,hg⟩
  ·exact .inl ⟨by show s.F.map _= [];rw [e1];rfl,e⟩
  ·have hjr:r≠j:=row_ne hg hj (by decide)
   refine .inr ⟨by simpa using h0,r,fl,by simpa using e,?_⟩
   rw [hF.get,if_neg hjr,hg]
   simp only [Option.map_some,frzO,frz_cells]
 ·have:=hr.keep i o hi ho
  have hii:=hw _ _ ho
  rw [hF.get,if_neg (by omega),this,Option.map_some,hs j _ hjn]
theorem settle_aw{st s8:St}{d i n:Nat}{fv o2:AV}{s:RS}{g':RF}{bs:List Int}{S:List Nat}{code:Code}{tmIn:Tm→Prop}{Gf:Tm→List AV}{L:List AV}(hGf:∀j vs T,Gf (frzT j vs T)=frzL j vs (Gf T))(hL:∀j vs,frzL j vs L=L)
  (h:∀T,tmIn T→AW Tryz.prog code (fun e T' st'=>e= .normal∧T'.n=n∧Gf T'=L∧st'=s8) T st) (hp:RD s8 d fv {s with F:=s.F.set i g'}) (hg:RGood s.F) (hr:Rest st s8 S) (hw:st.wf) (hl:st.lock= [])
  (hlv:BV g'.lv g'.lb∨(g'.lv=o2∧g'.lb=bs)) (hov:BV g'.ov g'.ob∨(g'.ov=o2∧g'.ob=bs)) (ho:OwnB s8 o2 bs) (hn:∀i∈fid o2,st.next≤i):
  ∃st' g'',(∀T,tmIn T→AW Tryz.prog code (fun e T' st2=>e= .normal∧T'.n=n∧Gf T'=L∧st2=st') T st)∧g''.name=g'.name∧g''.lb=g'.lb∧g''.ob=g'.ob∧BV g''.lv g''.lb∧BV g''.ov g''.ob∧RD st' d fv {s with F:=s.F.set i g''}∧RestF st st' S:=by
 have main:∀j fl,o2= .sl j 1 0 bs.length fl→s8.get j=some (.row (bs.map u8) 5)→∃st' g'',(∀T,tmIn T→AW Tryz.prog code (fun e T' st2=>e= .normal∧T'.n=n∧Gf T'=L∧st2=st') T st)∧g''.name=g'.name∧g''.lb=g'.lb∧g''.ob=g'.ob∧BV g''.lv g''.lb∧BV g''.ov g''.ob∧RD st' d fv {s with F:=s.F.set i g''}∧RestF st st' S:=fun j fl e hj=>by
  obtain ⟨h2,h3⟩:=freeze_rd hp hr hw hj (hn j (by rw [e];simp [fid]))
  have hb:∀{v:AV} {b:List Int},BV v b∨(v=o2∧b=bs)→BV (frz j (bs.map u8) v) b:=fun {v b} hv=>by
   rcases hv with hv|⟨rfl,rfl⟩
   ·rw [frz_bv hv];exact hv
   ·refine .inr ⟨fl,?_⟩
    rw [e]
    simp only [frz,if_true]
    rw [if_pos (by simp),List.drop_zero,List.take_of_length_le (by simp)]
  refine ⟨frzSt j (bs.map u8) s8,frzF j (bs.map u8) g',fun T hT=> ?_,rfl,rfl,rfl,hb hlv,hb hov,?_,h3⟩
  ·refine AW.freeze (h T hT) fun e' T' s' ⟨q1,q2,q3,q4⟩ _ _=>⟨j,bs.map u8,5,by rw [q4];exact hj,by rw [q4];exact hr.lock.trans hl,q1,q2,by rw [hGf,q3,hL],by rw [q4]⟩
  ·simp only [List.map_set,frzF_good hg] at h2
   exact h2
 rcases ho with ⟨rfl,rfl⟩|⟨rfl,j,rfl,hj⟩|⟨_,j,rfl,hj⟩
 ·refine ⟨s8,g',h,rfl,rfl,rfl,?_,?_,hp,hr.f⟩
  ·rcases hlv with h|⟨h,h'⟩
   ·exact h
   ·exact .inl ⟨h',h⟩
  ·rcases hov with h|⟨h,h'⟩
   ·exact h
   ·exact .inl ⟨h',h⟩
 ·exact main j true rfl hj
 ·exact main j false rfl hj
theorem slice_bv{st:St}{v:AV}{bs:List Int}(h:BV v bs){w:Nat}(hw:w≤bs.length):∃c,sliceA E0 st 22 v none (some (i64 w)) none=some c∧BV c (bs.take w):=by
 have sz5:tySize E0 5=some 1:=by kernel_rfl
 rcases h with ⟨rfl,rfl⟩|⟨fl,rfl⟩
 ·have:w=0:=by simpa using hw
  subst this
  exact ⟨.nils,by kernel_rfl,.inl ⟨by simp,rfl⟩⟩
 ·simp only [sliceA,ty28,sz5,if_true,boundsA_hi _ _ hw]
  exact ⟨_,rfl,.inr ⟨fullOf none (0,w,bs.length) fl bs.length,by simp only [Nat.sub_zero,Nat.mul_one,List.drop_zero,List.length_take,Nat.min_eq_left hw,List.map_take]⟩⟩
theorem rk_take{st:St}{d:Nat}{fv:AV}{s:RS}{i k w:Nat}{g:RF}(hp:RD st d fv s)(hw:st.wf)(hl:st.lock= [])(hg:RGood s.F)(hsz:s.F.length≤100000)(hu:usedR s.F≤big)(hF:s.F[i]? =some g)(hk:k≤1000000)(hwl:w≤g.ob.length):
  ∃f fl c o1 o2 s1 s2 s3 s4,fv= .sl f 3 0 s.F.length fl∧(rkO d f s.F.length i (i*3) (k+1) (i+1) fl g.lv g.ov o1 o2 c k i w st s1 s2 s3 s4).ok∧(rkH d f s.F.length i fl g.ov st).ok∧RD s4 d fv {s with F:=s.F.set i ⟨g.name,o2,.nils,g.lb++g.ob.take w,[]⟩}∧Rest st s4 (d::fid fv)∧OwnB s4 o2 (g.lb++g.ob.take w)∧∀i∈fid o2,st.next≤i:=by
 have hlt:=(List.getElem?_eq_some_iff.1 hF).1
 obtain ⟨f,fl,rfl,hgf⟩:=hp.fv.of hF
 obtain ⟨v1,v2⟩:=get_in hg hF
 have hc:=cells_at _ _ _ hF
 have hd:=hw _ _ hp.row
 have hfn:=hw _ _ hgf
 obtain ⟨c,hcs,hcb⟩:=slice_bv (st:=st) v2 hwl
 have hul:=used_get hF
 obtain ⟨o1,o2,s1,s2,c1,c2,c3,c4⟩:=ownApp_ok (I:=rkI d f) hw hl (fun k hk=>by
  simp only [rkI,List.mem_cons,List.not_mem_nil,or_false] at hk
  rcases hk with rfl|rfl|rfl|rfl|rfl<;>simp [hp.row,hgf]) v1 hcb (by simp;omega)
 have p3:=hp.rest c3 (by simp) (by simp)
 have g3:=c3.keep _ _ (by simp) hgf
 have l3:(shw (rkI d f) st s1 s2).lock= []:=c3.lock.trans hl
 have w3:=c3.wf
 generalize hsh:shw (rkI d f) st s1 s2=s3' at*
 have t1:=storeL g3 l3 hF c2.cell
 have p4:RD (s3'.set f (.row (cells (s.F.set i {g with lv:=o2})) 110)) d (.sl f 3 0 s.F.length fl) {s with F:=s.F.set i {g with lv:=o2}}:=RD.setF p3 (by simp) (set_ne hlt)
 have g4:(s3'.set f (.row (cells (s.F.set i {g with lv:=o2})) 110)).get f=some (.row (cells (s.F.set i {g with lv:=o2})) 110):=by rw [St.get_set,if_pos rfl]
 have w4:=set_wf w3 (w3 _ _ g3) (.row (cells (s.F.set i {g with lv:=o2})) 110)
 have own4:=c2.set_row g3 (by decide) (.row (cells (s.F.set i {g with lv:=o2})) 110)
 have R4:Rest st (s3'.set f (.row (cells (s.F.set i {g with lv:=o2})) 110)) (d::fid (.sl f 3 0 s.F.length fl)):=(c3.weak (by simp)).trans (Rest.set w3 (w3 _ _ g3) _ (by simp [fid]))
 have l4:(s3'.set f (.row (cells (s.F.set i {g with lv:=o2})) 110)).lock= []:=l3
 generalize s3'.set f (.row (cells (s.F.set i {g with lv:=o2})) 110)=s4 at*
 have hF4:(s.F.set i {g with lv:=o2})[i]? =some {g with lv:=o2}:=by rw [List.getElem?_set_self hlt]
 have t2:=storeO (v:= .nils) g4 l4 hF4 rfl
 have ec:cells (s.F.set i {g with lv:=o2,ov:= .nils})=cells (s.F.set i ⟨g.name,o2,.nils,g.lb++g.ob.take w,[]⟩):=by rw [cells_put hlt,cells_put hlt]
 rw [List.set_set,ec] at t2
 refine ⟨f,fl,c,o1,o2,s1,s2,s4,s4.set f (.row (cells (s.F.set i ⟨g.name,o2,.nils,g.lb++g.ob.take w,[]⟩)) 110),rfl,?_,?_,?_,R4.trans (Rest.set w4 (w4 _ _ g4) _ (by simp [fid])),own4.set_row g4 (by decide) _,c4⟩
 ·unfold rkO
  rw [Ob.ok_append,Ob.ok_append]
  have cd:(rkI d f).contains d=true:=by simp [rkI]
  have cf:(rkI d f).contains f=true:=by simp [rkI]
  refine ⟨⟨?_,c1⟩,?_⟩
  ·simp only [Ob.ok_cons,Ob.ok_nil,and_true]
   refine ⟨by rw [addN_eq _ _ (by omega)];rfl,?_,⟨cd,hp.load⟩,⟨cd,hp.load⟩,iA113 hlt,⟨cf,load_row hgf (p28' hc.2.1)⟩,⟨cd,hp.load⟩,iA113 hlt,⟨cf,load_row hgf (p28' hc.2.2)⟩,hcs⟩
   simp only [rkI,List.mem_cons,List.not_mem_nil,or_false]
   rintro k (rfl|rfl|rfl|rfl|rfl)<;>assumption
  ·simp only [Ob.ok_cons,Ob.ok_nil,and_true]
   rw [hsh]
   exact ⟨iA113 hlt,(fun h=>(by cases h)),t1,⟨p4.load,rfl⟩,by omega,by rw [Nat.zero_add];exact t2,by rw [addN_eq _ _ (by omega)];rfl⟩
 ·unfold rkH
  simp only [Ob.ok_cons,Ob.ok_nil,and_true]
  exact ⟨⟨hp.load,rfl⟩,lt_T (by omega),⟨hp.load,rfl⟩,by omega,⟨load_row hgf (p28' (by rw [Nat.zero_add];exact hc.2.2)),rfl⟩⟩
 ·have hrd:f≠d:=p4.ne f (by simp [fid])
  exact ⟨by rw [St.get_set,if_neg hrd.symm];exact p4.row,.inr ⟨set_ne hlt,f,fl,by simp,by rw [St.get_set,if_pos rfl]⟩⟩
end
section
set_option maxRecDepth 4000
abbrev K:=ByteArray×List Int×List Int
def pk(ps:List Int)(k n:Nat):Nat:=match ps[k]? with
 |some v=>v.toNat%(n+1)
 |none=>0
def crK(ps:List Int)(k:Nat)(f:K):K×Nat:=if f.2.2= [] then (f,k) else ((f.1,f.2.1++f.2.2.take (pk ps k f.2.2.length),[]),k+1)
def crL(ps:List Int):Nat→List K→List K
 |_,[]=> []
 |k,f::r=>(crK ps k f).1::crL ps (crK ps k f).2 r
def crN(ps:List Int):Nat→List K→Nat
 |k,[]=>k
 |k,f::r=>crN ps (crK ps k f).2 r
theorem crL_snoc(ps:List Int)(f:K):∀(l:List K) (k:Nat),crL ps k (l++ [f])=crL ps k l++ [(crK ps (crN ps k l) f).1]∧crN ps k (l++ [f])=(crK ps (crN ps k l) f).2
 | [],k=>⟨rfl,rfl⟩
 |g::r,k=>by
  obtain ⟨h1,h2⟩:=crL_snoc ps f r (crK ps k g).2
  exact ⟨by simp only [List.cons_append,crL,crN,h1],by simp only [List.cons_append,crN,h2]⟩
theorem crL_length(ps:List Int):∀(l:List K) (k:Nat),(crL ps k l).length=l.length
 | [],_=>rfl
 |f::r,k=>by simp only [crL,List.length_cons,crL_length ps r]
theorem crN_le(ps:List Int):∀(l:List K) (k:Nat),crN ps k l≤k+l.length
 | [],_=>by simp [crN]
 |f::r,k=>by
  have:=crN_le ps r (crK ps k f).2
  have h:(crK ps k f).2≤k+1:=by unfold crK;split<;>simp
  simp only [crN,List.length_cons];omega
def BP(x:AV)(ps:List Int):Prop:=(ps= []∧x= .nils)∨∃fl,x= .imm 1 ps.length fl (ps.map u16)
def PicksOk(ps:List Int):Prop:=ps.length≤1000000000∧∀v∈ps,0≤v∧v≤65535
theorem remP_ok{v:Int}{m:Nat}(hv:0≤v)(st:St):remP v ((m+1:Nat):Int) (i64 ((v.toNat%(m+1):Nat):Int)) st:=by
 refine ⟨?_,rfl⟩
 show pureVal (binOp .rem 3 (.int .i64 v) (.int .i64 ((m+1:Nat):Int)))=_
 have e:binOp .rem 3 (.int .i64 v) (.int .i64 ((m+1:Nat):Int))= .pure (.int .i64 (((v.toNat%(m+1):Nat)):Int)):=by
  show Op.intDiv .rem .i64 v ((m+1:Nat):Int)=_
  unfold Op.intDiv
  rw [if_neg (by omega)]
  have h1:v.tmod ((m+1:Nat):Int)=((v.toNat%(m+1):Nat):Int):=by
   obtain ⟨n,rfl⟩:=Int.eq_ofNat_of_zero_le hv
   rfl
  rw [h1];rfl
 rw [e];rfl
theorem frz_bp{x:AV}{ps:List Int}(h:BP x ps)(id:Nat)(vs:List AV):frz id vs x=x:=by
 rcases h with ⟨_,rfl⟩|⟨fl,rfl⟩
 ·rfl
 ·simp only [frz]
  congr 1
  rw [frzL_eq,List.map_map]
  congr 1
theorem ty50:∃i,E0.ty 108=some i∧isAggD i.desc=false:=by
 have h:(E0.ty 108).map (fun i=>isAggD i.desc)=some false:=by kernel_rfl
 obtain ⟨i,h1,h2⟩:=Option.map_eq_some_iff.1 h
 exact ⟨i,h1,h2⟩
theorem load50{st:St}{ps:List Int}{k:Nat}{v:Int}(h:ps[k]? =some v):loadA E0 st 108 (.iptr ((ps.map u16).drop (k*1)))=some (u16 v):=by
 obtain ⟨i,h1,h2⟩:=ty50
 simp only [loadA]
 refine plainT h1 h2 ?_
 rw [List.getElem?_drop,Nat.mul_one,Nat.add_zero,List.getElem?_map,h]
 rfl
structure CrI (st0:St) (d:Nat) (fv:AV) (s:RS) (ps:List Int) (i:Nat) (p:St×List RF):Prop where
 rest:RestF st0 p.1 (d::fid fv)
 rd:RD p.1 d fv {s with F:=p.2}
 good:RGood p.2
 keys:p.2.map key=crL ps 0 ((s.F.take i).map key)++(s.F.drop i).map key
 used:usedR p.2≤usedR s.F
def GK(T:Tm):List AV:= [T.get 0,T.get 1,T.get 4,T.get 5]
def CrR(d:Nat)(x:AV)(s:RS)(ps:List Int)(i:Nat)(p p':St×List RF):Prop:=∀T:Tm,(T.n=82∧GK T= [.ptr d 0,x,i64 (crN ps 0 ((s.F.take i).map key)),i64 i])→
 AW Tryz.prog (rkP 2) (fun ex T' st'=>ex= .normal∧T'.n=82∧GK T'= [.ptr d 0,x,i64 (crN ps 0 ((s.F.take (i+1)).map key)),i64 ((i+1:Nat):Int)]∧st'=p'.1) T p.1
theorem used_set{F:List RF}{i:Nat}{g g':RF}(h:F[i]? =some g)(hle:g'.lb.length+g'.ob.length≤g.lb.length+g.ob.length):usedR (F.set i g')≤usedR F:=by
 have hlt:=(List.getElem?_eq_some_iff.1 h).1
 have e1:F=F.take i++g::F.drop (i+1):=by
  conv=>lhs;rw [←List.take_append_drop i F,drop_at h]
 have e2:F.set i g'=F.take i++g'::F.drop (i+1):=by rw [List.set_eq_take_append_cons_drop,if_pos hlt]
 rw [e2]
 conv=>rhs;rw [e1]
 unfold usedR
 simp only [List.map_append,List.map_cons,List.sum_append,List.sum_cons]
 omega
theorem rk_step{st0:St}{d:Nat}{fv x:AV}{s:RS}{ps:List Int}(hl:st0.lock= [])(hsz:s.F.length≤100000)(hu:usedR s.F≤big)(hx:BP x ps)(hps:PicksOk ps)(i:Nat)(p:St×List RF)(hi:i<s.F.length)(hI:CrI st0 d fv s ps i p):
  ∃p',CrI st0 d fv s ps (i+1) p'∧CrR d x s ps i p p':=by
 obtain ⟨st,F⟩:=p
 obtain ⟨rest,rd,good,keys,used⟩:=hI
 simp only at rest rd good keys used
 have hw':=rest.wf
 have hl':st.lock= []:=rest.lock.trans hl
 have hF0:=List.getElem?_eq_getElem hi
 generalize s.F[i]=g0 at hF0
 have hlen:F.length=s.F.length:=by
  have:=congrArg List.length keys
  simp only [List.length_map,List.length_append,crL_length,List.length_take,List.length_drop] at this
  omega
 have hpre:(crL ps 0 ((s.F.take i).map key)).length=i:=by rw [crL_length];simp;omega
 obtain ⟨g,hF⟩:∃g,F[i]? =some g:=⟨F[i]'(by omega),List.getElem?_eq_getElem (by omega)⟩
 have hkg:key g=key g0:=by
  have h1:(F.map key)[i]? =some (key g):=by rw [List.getElem?_map,hF];rfl
  rw [keys,List.getElem?_append_right (by omega),hpre,Nat.sub_self,List.getElem?_map,drop_at hF0] at h1
  simpa using h1.symm
 have htake:(s.F.take (i+1)).map key=(s.F.take i).map key++ [key g]:=by
  rw [List.take_add_one,hF0,List.map_append,hkg];rfl
 obtain ⟨c1,c2⟩:=crL_snoc ps (key g) ((s.F.take i).map key) 0
 have hkle:=crN_le ps ((s.F.take i).map key) 0
 have hk1:crN ps 0 ((s.F.take i).map key)≤100000:=by
  have:((s.F.take i).map key).length≤s.F.length:=by simp;omega
  omega
 rw [←htake] at c1 c2
 generalize hkk:crN ps 0 ((s.F.take i).map key)=k at*
 have hdrop:(s.F.drop i).map key=key g::(s.F.drop (i+1)).map key:=by rw [drop_at hF0,List.map_cons,hkg]
 obtain ⟨v1,v2⟩:=get_in good hF
 have tmT:∀T:Tm,(T.n=82∧GK T= [.ptr d 0,x,i64 k,i64 i])→∀p∈rkT d x k i,T.get p.1=p.2:=fun T ⟨_,hG⟩=>by
  simp only [GK,List.cons.injEq,and_true] at hG
  exact conz hG.1 (conz hG.2.1 (conz hG.2.2.1 (one hG.2.2.2)))
 by_cases he:g.ob= []
 · -- nothing loose
  have ec:crK ps k (key g)=(key g,k):=by unfold crK;rw [if_pos (show (key g).2.2= [] from he)]
  rw [ec] at c1 c2
  refine ⟨(st,F),⟨rest,rd,good,?_,used⟩,?_⟩
  ·rw [keys,c1,hdrop,List.append_assoc];rfl
  ·intro T hT
   rw [hkk] at hT
   have hlt:i<F.length:=by omega
   obtain ⟨f,fl,hfv,hgf⟩:=rd.fv.of hF
   have hH:(rkH d f F.length i fl g.ov st).ok:=by
    unfold rkH
    simp only [Ob.ok_cons,Ob.ok_nil,and_true]
    have hld:=rd.load
    rw [hfv] at hld
    exact ⟨⟨hld,rfl⟩,lt_T (by omega),⟨hld,rfl⟩,by omega,⟨load_row hgf (p28' (by rw [Nat.zero_add];exact (cells_at _ _ _ hF).2.2)),rfl⟩⟩
   have hadd:i64 (addN i 1)=i64 ((i+1:Nat):Int):=by rw [addN_eq _ _ (by omega)];rfl
   rw [c2]
   rcases v2 with ⟨h1,h2⟩|⟨g2,h2⟩
   ·rw [h2] at hH
    refine (any_run (G:=GK) (rk_skipN d f F.length i (i+1) k fl x st) ?_ hT.1 (tmT T hT)).mono fun e T' st' ⟨q1,q2,q3,q4⟩=>⟨q1,q2,q3,q4⟩
    rw [Ob.ok_append]
    refine ⟨hH,?_⟩
    simp only [Ob.ok_cons,Ob.ok_nil,and_true]
    exact ⟨ob_T rfl,hadd⟩
   ·rw [h2,he] at hH
    refine (any_run (G:=GK) (rk_skipI d f F.length i (i+1) k 0 fl g2 x [] st) ?_ hT.1 (tmT T hT)).mono fun e T' st' ⟨q1,q2,q3,q4⟩=>⟨q1,q2,q3,q4⟩
    rw [Ob.ok_append]
    refine ⟨hH,?_⟩
    simp only [Ob.ok_cons,Ob.ok_nil,and_true]
    exact ⟨ob_T rfl,hadd⟩
 ·have ec:crK ps k (key g)=((g.name,g.lb++g.ob.take (pk ps k g.ob.length),[]),k+1):=by unfold crK;rw [if_neg (show¬(key g).2.2= [] from he)];rfl
  rw [ec] at c1 c2
  have hpos:0<g.ob.length:=List.length_pos_iff.2 he
  obtain ⟨g2,hov⟩:∃g2,g.ov= .imm 1 g.ob.length g2 (g.ob.map u8):=by
   rcases v2 with ⟨h,_⟩|h
   ·exact absurd h he
   ·exact h
  have hwl:pk ps k g.ob.length≤g.ob.length:=by
   unfold pk
   split
   ·exact Nat.lt_succ_iff.1 (Nat.mod_lt _ (by omega))
   ·omega
  obtain ⟨f,fl,c,o1,o2,s1,s2,s3,s4,hfv,t1,t2,t3,t4,t5,t6⟩:=rk_take rd hw' hl' good (by show F.length≤_;omega) (Nat.le_trans used hu) hF (k:=k) (by omega) hwl
  simp only at t1 t2 t3
  have hul:=used_get hF
  have hne:bo (eqN g.ob.length 0)=FF:=ob_F (by rw [eqN_eq,beq_eq_false_iff_ne];omega)
  rw [hov] at t1 t2
  have run:∀T:Tm,(T.n=82∧GK T= [.ptr d 0,x,i64 k,i64 i])→AW Tryz.prog (rkP 2) (fun ex T' st'=>ex= .normal∧T'.n=82∧GK T'= [.ptr d 0,x,i64 ((k+1:Nat):Int),i64 ((i+1:Nat):Int)]∧st'=s4) T st:=fun T hT=>by
   cases hpk:ps[k]? with
   |none=>
    have hle:ps.length≤k:=List.getElem?_eq_none_iff.1 hpk
    have hw0:pk ps k g.ob.length=0:=by unfold pk;rw [hpk]
    rw [hw0] at t1
    rcases hx with ⟨h1,rfl⟩|⟨gp,rfl⟩
    ·refine (any_run (G:=GK) (rk_noN d f F.length i (i*3) k g.ob.length fl g2 g.lv o1 o2 c (g.ob.map u8) st s1 s2 s3 s4 (k+1) (i+1)) ?_ hT.1 (tmT T hT)).mono fun e T' st' ⟨q1,q2,q3,q4⟩=>⟨q1,q2,q3,q4⟩
     rw [Ob.ok_append,Ob.ok_append]
     refine ⟨⟨t2,?_⟩,t1⟩
     simp only [Ob.ok_cons,Ob.ok_nil,and_true]
     exact ⟨hne,lt_F (by omega)⟩
    ·refine (any_run (G:=GK) (rk_noI d f F.length i (i*3) k g.ob.length fl g2 g.lv o1 o2 c (g.ob.map u8) (ps.map u16) st s1 s2 s3 s4 (k+1) (i+1) ps.length gp) ?_ hT.1 (tmT T hT)).mono fun e T' st' ⟨q1,q2,q3,q4⟩=>⟨q1,q2,q3,q4⟩
     rw [Ob.ok_append,Ob.ok_append]
     refine ⟨⟨t2,?_⟩,t1⟩
     simp only [Ob.ok_cons,Ob.ok_nil,and_true]
     exact ⟨hne,lt_F (by omega)⟩
   |some v=>
    have hlt:=(List.getElem?_eq_some_iff.1 hpk).1
    obtain ⟨hv0,hv1⟩:=hps.2 v (List.mem_of_getElem? hpk)
    have hwv:pk ps k g.ob.length=v.toNat%(g.ob.length+1):=by unfold pk;rw [hpk]
    rw [hwv] at t1
    rcases hx with ⟨h1,rfl⟩|⟨gp,rfl⟩
    ·rw [h1] at hlt;simp at hlt
    ·refine (any_run (G:=GK) (rk_pick d f F.length i (i*3) k g.ob.length fl g2 g.lv o1 o2 c (g.ob.map u8) (ps.map u16) v ((g.ob.length+1:Nat):Int) ((v.toNat%(g.ob.length+1):Nat):Int) st s1 s2 s3 s4 (k+1) (i+1) ps.length gp) ?_ hT.1 (tmT T hT)).mono fun e T' st' ⟨q1,q2,q3,q4⟩=>⟨q1,q2,q3,q4⟩
     rw [Ob.ok_append,Ob.ok_append]
     refine ⟨⟨t2,?_⟩,t1⟩
     simp only [Ob.ok_cons,Ob.ok_nil,and_true]
     unfold big at hu
     exact ⟨hne,lt_T (by omega),by omega,⟨load50 hpk,rfl⟩,by rw [IntWalk.i64_in _ (by omega)],by rw [addN_eq _ _ (by omega)];rfl,remP_ok hv0 st⟩
  obtain ⟨st',g'',e1,e2,e3,e4,e5,e6,e7,e8⟩:=settle_aw (n:=82) (s:={s with F:=F}) (o2:=o2) (g':=⟨g.name,o2,.nils,g.lb++g.ob.take (pk ps k g.ob.length),[]⟩) (Gf:=GK) (tmIn:=fun T=>T.n=82∧GK T= [.ptr d 0,x,i64 k,i64 i]) (bs:=g.lb++g.ob.take (pk ps k g.ob.length)) (fun j vs T=>by simp only [GK,frzT_get,frzL]) (fun j vs=>by simp only [frzL,frz_bp hx];rfl) run t3 good t4 hw' hl' (.inr ⟨rfl,rfl⟩) (.inl (.inl ⟨rfl,rfl⟩)) t5 t6
  refine ⟨(st',F.set i g''),⟨rest.trans e8,e7,?_,?_,?_⟩,?_⟩
  ·intro h hm
   rcases List.mem_or_eq_of_mem_set hm with hm|rfl
   ·exact good h hm
   ·exact ⟨e5,e6⟩
  ·show (F.set i g'').map key=_
   rw [List.map_set,keys,c1,hdrop]
   have:(List.set (crL ps 0 ((s.F.take i).map key)++key g::(s.F.drop (i+1)).map key) i (key g''))=crL ps 0 ((s.F.take i).map key)++key g''::(s.F.drop (i+1)).map key:=by
    rw [List.set_append_right _ _ (by omega),hpre,Nat.sub_self];rfl
   rw [this,List.append_assoc]
   have hk2:key g''=(g.name,g.lb++g.ob.take (pk ps k g.ob.length),[]):=by simp only [key,e2,e3,e4]
   rw [hk2];rfl
  ·refine Nat.le_trans (used_set hF ?_) used
   rw [e3,e4]
   simp
   omega
  ·intro T hT
   rw [hkk] at hT
   rw [c2]
   exact e1 T hT
end
section
set_option maxRecDepth 4000
theorem rk_loop{st0:St}{d:Nat}{fv x:AV}{s:RS}{ps:List Int}{c:Nat→St×List RF}(hsz:s.F.length≤100000)(inv:∀i,i≤s.F.length→CrI st0 d fv s ps i (c i))(step:∀i,i<s.F.length→CrR d x s ps i (c i) (c (i+1)))
  {T:Tm} (hT:T.n=82∧GK T= [.ptr d 0,x,i64 0,i64 0]):
  AW Tryz.prog (.loop (rkP 2)) (fun ex T' st'=>ex= .exit 0∧T'.n=82∧T'.get 0= .ptr d 0∧st'=(c s.F.length).1) T (c 0).1:=by
 refine .loop (fun m T st'=>∃i:Nat,i≤s.F.length∧m=s.F.length- i∧st'=(c i).1∧T.n=82∧GK T= [.ptr d 0,x,i64 (crN ps 0 ((s.F.take i).map key)),i64 i]) s.F.length ⟨0,by omega,rfl,rfl,hT.1,by rw [hT.2];rfl⟩ fun m T st' hI=> ?_
 obtain ⟨i,hi,rfl,rfl,hn,hG⟩:=hI
 by_cases hlt:i<s.F.length
 ·refine (step i hlt T ⟨hn,hG⟩).mono fun ex T' st2 ⟨he,hn',hG',hst⟩=> ?_
  subst he
  exact ⟨s.F.length- (i+1),by omega,i+1,by omega,rfl,hst,hn',hG'⟩
 ·obtain rfl:i=s.F.length:=by omega
  have I:=inv s.F.length hi
  have hlen:(c s.F.length).2.length=s.F.length:=by
   have:=congrArg List.length I.keys
   simp only [List.length_map,List.length_append,crL_length,List.length_take,List.length_drop] at this
   omega
  have o1:obL (c s.F.length).1 96 (.ptr d 0) fv:=⟨I.rd.load,rfl⟩
  generalize crN ps 0 ((s.F.take s.F.length).map key)=k at hG
  have hG2:=hG
  simp only [GK,List.cons.injEq,and_true] at hG2
  have hT2:∀p∈rkT d x k s.F.length,T.get p.1=p.2:=conz hG2.1 (conz hG2.2.1 (conz hG2.2.2.1 (one hG2.2.2.2)))
  rcases I.rd.fv with ⟨h2,h3⟩|⟨_,f,fl,h3,_⟩
  ·have h2:(c s.F.length).2= []:=h2
   have h0:s.F.length=0:=by rw [←hlen,h2];rfl
   rw [h3] at o1
   refine (any_run (G:=GK) (rk_endN d s.F.length k x (c s.F.length).1) (by simp only [Ob.ok_cons,Ob.ok_nil,and_true];exact ⟨o1,lt_F (by omega)⟩) hn hT2).mono fun ex T' st2 ⟨he,hn',hF,hst⟩=> ?_
   subst he
   simp only [GK,List.cons.injEq,and_true] at hF
   exact ⟨rfl,hn',hF.1,hst⟩
  ·rw [h3] at o1
   have e:({s with F:=(c s.F.length).2}:RS).F.length=s.F.length:=hlen
   rw [e] at o1
   refine (any_run (G:=GK) (rk_end d f s.F.length s.F.length k fl x (c s.F.length).1) (by simp only [Ob.ok_cons,Ob.ok_nil,and_true];exact ⟨o1,lt_F (by omega)⟩) hn hT2).mono fun ex T' st2 ⟨he,hn',hF,hst⟩=> ?_
   subst he
   simp only [GK,List.cons.injEq,and_true] at hF
   exact ⟨rfl,hn',hF.1,hst⟩
theorem rcrash_ok{st:St}{d:Nat}{fv x:AV}{s:RS}{ps:List Int}(hp:RD st d fv s)(hw:st.wf)(hl:st.lock= [])(hg:RGood s.F)(hsz:s.F.length≤100000)(hu:usedR s.F≤big)(hx:BP x ps)(hps:PicksOk ps):
  ∃st' F',obC 23 [.ptr d 0,x] st (.tup []) st'∧RD st' d fv ⟨F',s.q,0,false⟩∧F'.map key=crL ps 0 (s.F.map key)∧RGood F'∧usedR F'≤usedR s.F∧RestF st st' (d::fid fv):=by
 have init:CrI st d fv s ps 0 (st,s.F):=⟨RestF.refl hw _,hp,hg,by simp [crL],Nat.le_refl _⟩
 obtain ⟨c,c0,inv,step⟩:=chain_seq (CrI st d fv s ps) (CrR d x s ps) s.F.length (st,s.F) init (fun i p hi hI=>rk_step hl hsz hu hx hps i p hi hI)
 have hend:=inv s.F.length (Nat.le_refl _)
 have l1:(c s.F.length).1.lock= []:=hend.rest.lock.trans hl
 have w1:=hend.rest.wf
 have hd1:=w1 _ _ hend.rd.row
 have hs1:=storeN hend.rd.row l1 0
 have p1:RD ((c s.F.length).1.set d (.row [fv,i64 s.q,i64 0,bo s.off] 98)) d fv ⟨(c s.F.length).2,s.q,0,s.off⟩:=hend.rd.set (s':=⟨(c s.F.length).2,s.q,0,s.off⟩) rfl
 have hs2:=storeB p1.row (by simpa using l1) false
 have p2:=p1.set (s':=⟨(c s.F.length).2,s.q,0,false⟩) rfl
 have R2:Rest (c s.F.length).1 (((c s.F.length).1.set d (.row [fv,i64 s.q,i64 0,bo s.off] 98)).set d (.row [fv,i64 s.q,i64 0,bo false] 98)) (d::fid fv):=(Rest.set w1 hd1 _ (by simp)).trans (Rest.set (set_wf w1 hd1 _) hd1 _ (by simp))
 refine ⟨_,(c s.F.length).2,?_,p2,by rw [hend.keys,List.take_length,List.drop_length];simp,hend.good,hend.used,hend.rest.trans R2.f⟩
 refine ACalls.body (E:=E0) hE Tryz.func23 body46 ?_
 refine .seq ((any_run (G:=GK) (rk_0 d x st) Ob.ok_nil rfl (conz rfl (one rfl))).mono fun e T1 s1 ⟨he,n1,F1,hst⟩=> ?_)
 subst he;subst hst
 simp only [GK,List.cons.injEq] at F1
 simp only [thenA]
 refine .seq (.seq ((any_run (G:=GK) (rk_1 d x s1) Ob.ok_nil n1 (conz F1.1 (conz F1.2.1 (one F1.2.2.1)))).mono fun e T2 s2 ⟨he,n2,F2,hst⟩=> ?_))
 subst he;subst hst
 simp only [thenA]
 have hs:s2=(c 0).1:=by rw [c0]
 rw [hs]
 refine .block ((rk_loop hsz inv step ⟨n2,F2⟩).mono fun e T4 s4 ⟨he,n4,h0,hst⟩=> ?_)
 subst he
 simp only [blockA,if_true,thenA]
 rw [hst]
 refine (any_run (G:=GK) (rk_3 d (c s.F.length).1 ((c s.F.length).1.set d (.row [fv,i64 s.q,i64 0,bo s.off] 98)) (((c s.F.length).1.set d (.row [fv,i64 s.q,i64 0,bo s.off] 98)).set d (.row [fv,i64 s.q,i64 0,bo false] 98))) (by simp only [Ob.ok_cons,Ob.ok_nil,and_true];exact ⟨hs1,hs2⟩) n4 (one h0)).mono fun e T5 s5 ⟨he,n5,F5,hst'⟩=> ?_
 subst he;subst hst'
 exact ⟨[],rfl,rfl,rfl⟩
end
section
set_option maxRecDepth 100000
noncomputable def pcP(i:Nat):Code:=match Tryz.f22.body with
 |some (.seq (.seq r0 c0) (.seq r1 (.seq (.seq r2 (.block 0 (.loop b))) r16)))=> [r0,c0,r1,r2,b,r16].getD i .skip
 |_=> .skip
theorem body30:Tryz.f22.body=some (.seq (.seq (pcP 0) (pcP 1)) (.seq (pcP 2) (.seq (.seq (pcP 3) (.block 0 (.loop (pcP 4)))) (pcP 5)))):=by kernel_rfl
noncomputable def pcEv(i:Nat)(l:List (Nat×AV))(st:St)(x:List Or):=(evS Tryz.prog E0 noOv noS 100000 [6056,16,2017,2018,2022,2024,5000,2026,2029,30,32,36,2039,2040,41,43,2044,46,2048,2050,52,2054,56,2057,2060,8000,69] (pcP i) ⟨76,l,[]⟩ st x).map fun q=>(q.1,q.2.1.n,[q.2.1.get 0,q.2.1.get 1,q.2.1.get 4,q.2.1.get 11,q.2.1.get 13,q.2.1.get 14,q.2.1.get 15],q.2.2.1,q.2.2.2.2)
abbrev pcT(d:Nat)(x:AV)(k:Nat)(nv:AV)(len i:Nat):List (Nat×AV):= [(0,.ptr d 0),(1,x),(4,i64 k),(13,nv),(14,i64 len),(15,i64 i)]
section
variable (d m r len i k k1 i1 np a w rl:Nat) (fl rf g2 gp:Bool) (x nv v l:AV) (cs c2 ps:List AV) (n:ByteArray) (last y e p l1 w0:Int) (st s1 s2 s3 s4:St)
theorem pc_0:pcEv 0 [(0,.ptr d 0),(1,x)] st []=some (.normal,76,[.ptr d 0,x,.undef,FF,.undef,.undef,.undef],st,[]):=by kernel_rfl
theorem pc_1:pcEv 1 [(0,.ptr d 0),(1,x),(11,FF)] st []=some (.normal,76,[.ptr d 0,x,.undef,FF,.undef,.undef,.undef],st,[]):=by kernel_rfl
theorem pc_2:pcEv 2 [(0,.ptr d 0),(1,x)] st []=some (.normal,76,[.ptr d 0,x,i64 0,.undef,.undef,.undef,.undef],st,[]):=by kernel_rfl
theorem pc_3N:pcEv 3 [(0,.ptr d 0),(1,x),(4,i64 0)] st [.eff .nils (fun _=>s1)]=some (.normal,76,[.ptr d 0,x,i64 0,.undef,.nils,i64 0,i64 0],s1,[obC 56 [.ptr d 0] st .nils s1]):=by kernel_rfl
theorem pc_3S:pcEv 3 [(0,.ptr d 0),(1,x),(4,i64 0)] st [.eff (.sl r 1 0 len rf) (fun _=>s1)]=some (.normal,76,[.ptr d 0,x,i64 0,.undef,.sl r 1 0 len rf,i64 len,i64 0],s1,[obC 56 [.ptr d 0] st (.sl r 1 0 len rf) s1]):=by kernel_rfl
theorem pc_5:pcEv 5 [(0,.ptr d 0)] st [.eff .undef (fun _=>s1),.eff .undef (fun _=>s2)]=some (.normal,76,[.ptr d 0,.undef,.undef,.undef,.undef,.undef,.undef],s2,[storeA E0 st 3 (.ptr d 2) (i64 0)=some s1,storeA E0 s1 4 (.ptr d 3) FF=some s2]):=by kernel_rfl
theorem pc_end:pcEv 4 (pcT d x k nv len i) st [FF]=some (.exit 0,76,[.ptr d 0,x,i64 k,.undef,nv,i64 len,i64 i],st,[bo (ltN i len)=FF]):=by kernel_rfl
def pcH(d m r len i:Nat)(n:ByteArray)(v dv:AV)(x last y:Int)(st s1:St):Ob:= [bo (ltN i len)=TT,0≤(i:Int)∧(i:Int)<len,obL st 9 (.ptr r (0+i*1)) (str n),obL st 105 (.ptr d 0) (.mp m),obK st m n false v,storeA E0 (zSt st) 104 (.ptr st.next 0) v=some s1,obL s1 22 (.ptr st.next 0) dv,obL s1 3 (.ptr st.next 1) (i64 last),i64 (subN x last)=i64 y]
def pcX(m:Nat)(n:ByteArray)(v dv:AV)(last y:Int)(s1:St):List Or:= [TT,.eff (str n) id,.eff (.mp m) id,.eff v id,.eff .undef (fun _=>s1),.eff dv id,.eff (i64 last) id,i64 y]
theorem pc_skipN:pcEv 4 (pcT d x k (.sl r 1 0 len rf) len i) st (pcX m n v .nils last y s1++ [.av TT,.av (i64 i1)])=some (.normal,76,[.ptr d 0,x,i64 k,.undef,.sl r 1 0 len rf,i64 len,i64 i1],s1,pcH d m r len i n v .nils 0 last y st s1++ [bo (eqN y 0)=TT,i64 (addN i 1)=i64 i1]):=by kernel_rfl
theorem pc_skipI:pcEv 4 (pcT d x k (.sl r 1 0 len rf) len i) st (pcX m n v (.imm 1 a fl cs) last y s1++ [.av TT,.av (i64 i1)])=some (.normal,76,[.ptr d 0,x,i64 k,.undef,.sl r 1 0 len rf,i64 len,i64 i1],s1,pcH d m r len i n v (.imm 1 a fl cs) a last y st s1++ [bo (eqN y 0)=TT,i64 (addN i 1)=i64 i1]):=by kernel_rfl
def pcO(d m k1 i1 a0:Nat)(n:ByteArray)(dv dv2 l:AV)(w:Nat)(k i last w0 e:Int)(s1 s2 s3 s4:St):Ob:= [i64 (addN k 1)=i64 k1,obL s1 22 (.ptr a0 0) dv,obL s1 3 (.ptr a0 1) (i64 last),i64 (addN last w0)=i64 e,obL s1 3 (.ptr a0 1) (i64 last),i64 (addN last w0)=i64 e,sliceA E0 s1 22 dv none (some (i64 e)) (some (i64 e))=some dv2∧s1=s1,storeA E0 s1 22 (.ptr a0 0) dv2=some s2,obL s2 22 (.ptr a0 0) dv2,storeA E0 s2 3 (.ptr a0 1) (i64 w)=some s3]++obU d a0 m s3 n l s4++ [i64 (addN i 1)=i64 i1]
def pcY(m k1 i1:Nat)(dv dv2 l:AV)(last e:Int)(s2 s3 s4:St):List Or:= [i64 k1,.eff dv id,.eff (i64 last) id,i64 e,.eff (i64 last) id,i64 e,.eff dv2 id,.eff .undef (fun _=>s2),.eff dv2 id,.eff .undef (fun _=>s3),.eff (.mp m) id,.eff l id,.eff .undef (fun _=>s4),i64 i1]
theorem pc_noN:pcEv 4 (pcT d .nils k (.sl r 1 0 len rf) len i) st (pcX m n v (.imm 1 a fl cs) last y s1++ [.av FF,.av FF]++pcY m k1 i1 (.imm 1 a fl cs) (.imm 1 w g2 c2) l last e s2 s3 s4)=some (.normal,76,[.ptr d 0,.nils,i64 k1,.undef,.sl r 1 0 len rf,i64 len,i64 i1],s4,pcH d m r len i n v (.imm 1 a fl cs) a last y st s1++ [bo (eqN y 0)=FF,bo (ltN k 0)=FF]++pcO d m k1 i1 st.next n (.imm 1 a fl cs) (.imm 1 w g2 c2) l w k i last 0 e s1 s2 s3 s4):=by kernel_rfl
theorem pc_noI:pcEv 4 (pcT d (.imm 1 np gp ps) k (.sl r 1 0 len rf) len i) st (pcX m n v (.imm 1 a fl cs) last y s1++ [.av FF,.av FF]++pcY m k1 i1 (.imm 1 a fl cs) (.imm 1 w g2 c2) l last e s2 s3 s4)=some (.normal,76,[.ptr d 0,.imm 1 np gp ps,i64 k1,.undef,.sl r 1 0 len rf,i64 len,i64 i1],s4,pcH d m r len i n v (.imm 1 a fl cs) a last y st s1++ [bo (eqN y 0)=FF,bo (ltN k np)=FF]++pcO d m k1 i1 st.next n (.imm 1 a fl cs) (.imm 1 w g2 c2) l w k i last 0 e s1 s2 s3 s4):=by kernel_rfl
theorem pc_noS:pcEv 4 (pcT d (.sl rl 1 0 np gp) k (.sl r 1 0 len rf) len i) st (pcX m n v (.imm 1 a fl cs) last y s1++ [.av FF,.av FF]++pcY m k1 i1 (.imm 1 a fl cs) (.imm 1 w g2 c2) l last e s2 s3 s4)=some (.normal,76,[.ptr d 0,.sl rl 1 0 np gp,i64 k1,.undef,.sl r 1 0 len rf,i64 len,i64 i1],s4,pcH d m r len i n v (.imm 1 a fl cs) a last y st s1++ [bo (eqN y 0)=FF,bo (ltN k np)=FF]++pcO d m k1 i1 st.next n (.imm 1 a fl cs) (.imm 1 w g2 c2) l w k i last 0 e s1 s2 s3 s4):=by kernel_rfl
theorem pc_pickI:pcEv 4 (pcT d (.imm 1 np gp ps) k (.sl r 1 0 len rf) len i) st (pcX m n v (.imm 1 a fl cs) last y s1++ [.av FF,.av TT,.eff (u16 p) id,.av (i64 p),.av (i64 l1),.eff (i64 w0) id]++pcY m k1 i1 (.imm 1 a fl cs) (.imm 1 w g2 c2) l last e s2 s3 s4)=some (.normal,76,[.ptr d 0,.imm 1 np gp ps,i64 k1,.undef,.sl r 1 0 len rf,i64 len,i64 i1],s4,pcH d m r len i n v (.imm 1 a fl cs) a last y st s1++ [bo (eqN y 0)=FF,bo (ltN k np)=TT,0≤(k:Int)∧(k:Int)<np,obL s1 108 (.iptr (ps.drop (k*1))) (u16 p),i64 (IntKind.i64.wrap p)=i64 p,i64 (addN y 1)=i64 l1,remP p l1 (i64 w0) s1]++pcO d m k1 i1 st.next n (.imm 1 a fl cs) (.imm 1 w g2 c2) l w k i last w0 e s1 s2 s3 s4):=by kernel_rfl
theorem pc_pickS:pcEv 4 (pcT d (.sl rl 1 0 np gp) k (.sl r 1 0 len rf) len i) st (pcX m n v (.imm 1 a fl cs) last y s1++ [.av FF,.av TT,.eff (u16 p) id,.av (i64 p),.av (i64 l1),.eff (i64 w0) id]++pcY m k1 i1 (.imm 1 a fl cs) (.imm 1 w g2 c2) l last e s2 s3 s4)=some (.normal,76,[.ptr d 0,.sl rl 1 0 np gp,i64 k1,.undef,.sl r 1 0 len rf,i64 len,i64 i1],s4,pcH d m r len i n v (.imm 1 a fl cs) a last y st s1++ [bo (eqN y 0)=FF,bo (ltN k np)=TT,0≤(k:Int)∧(k:Int)<np,obL s1 108 (.ptr rl (0+k*1)) (u16 p),i64 (IntKind.i64.wrap p)=i64 p,i64 (addN y 1)=i64 l1,remP p l1 (i64 w0) s1]++pcO d m k1 i1 st.next n (.imm 1 a fl cs) (.imm 1 w g2 c2) l w k i last w0 e s1 s2 s3 s4):=by kernel_rfl
end
end
section
set_option maxRecDepth 4000
open Go.Sort
def nb(n:ByteArray):List UInt8:=n.data.toList
theorem nb_inj{a b:ByteArray}(h:nb a=nb b):a=b:=by
 cases a with
 |mk x=>cases b with
  |mk y=>
   have:x.toList=y.toList:=h
   rw [Array.toList_inj.1 this]
theorem nb_ba(n:ByteArray):(⟨(nb n).toArray⟩:ByteArray)=n:=by
 cases n with
 |mk x=>show (⟨x.toList.toArray⟩:ByteArray)=_;rw [Array.toArray_toList]
theorem keysB_ent:∀L:List PF,keysB (L.map ent)=some (L.map fun f=>nb f.name)
 | []=>rfl
 |f::r=>by
  simp only [List.map_cons,ent,keysB,keysB_ent r,Option.map_some]
  rfl
theorem insB_sorted(a:List UInt8):∀l:List (List UInt8),l.Pairwise (fun a b=>Go.leB a b=true)→(insB a l).Pairwise (fun a b=>Go.leB a b=true)
 | [],_=>by simp [insB]
 |b::r,h=>by
  obtain ⟨h1,h2⟩:=List.pairwise_cons.1 h
  unfold insB
  split
  ·rename_i hab
   refine List.pairwise_cons.2 ⟨fun c hc=> ?_,h⟩
   rcases List.mem_cons.1 hc with rfl|hc
   ·exact hab
   ·have:=h1 c hc
    simp only [Go.leB,decide_eq_true_eq] at hab this⊢
    exact List.le_trans hab this
  ·rename_i hab
   refine List.pairwise_cons.2 ⟨fun c hc=> ?_,insB_sorted a r h2⟩
   rcases List.mem_cons.1 ((insB_perm a r).mem_iff.1 hc) with rfl|hc
   ·simp only [Go.leB,decide_eq_true_eq] at hab⊢
    exact (List.le_total _ _).resolve_left hab
   ·exact h1 c hc
theorem sortB_sorted:∀l:List (List UInt8),(sortB l).Pairwise (fun a b=>Go.leB a b=true)
 | []=> .nil
 |a::r=>insB_sorted a _ (sortB_sorted r)
theorem pairB_of:∀l:List (List UInt8),l.Pairwise (fun a b=>Go.leB a b=true)→pairB l=true
 | [],_=>rfl
 |a::r,h=>by
  obtain ⟨h1,h2⟩:=List.pairwise_cons.1 h
  simp only [pairB,Bool.and_eq_true,List.all_eq_true]
  exact ⟨h1,pairB_of r h2⟩
def Ord(R:List ByteArray):Prop:=R.Pairwise fun a b=>nb a<nb b
theorem Ord.le{R:List ByteArray}(h:Ord R):(R.map nb).Pairwise (fun a b=>Go.leB a b=true):=by
 refine List.Pairwise.map nb (fun a b hab=> ?_) h
 simp only [Go.leB,decide_eq_true_eq]
 exact List.le_of_lt hab
theorem Ord.nodup{R:List ByteArray}(h:Ord R):(R.map nb).Nodup:=
 List.Pairwise.map nb (fun a b hab e=>by rw [e] at hab;exact List.lt_irrefl _ hab) h
theorem sort_eq{L:List PF}{R:List ByteArray}(hp:(L.map PF.name).Perm R)(ho:Ord R):sortB (L.map fun f=>nb f.name)=R.map nb:=by
 have h1:(L.map fun f=>nb f.name).Perm (R.map nb):=by
  have:=hp.map nb
  rw [List.map_map] at this
  exact this
 refine List.Perm.eq_of_pairwise (le:=fun a b=>Go.leB a b=true) (fun a b _ _ h1 h2=> ?_) (sortB_sorted _) ho.le ((sortB_perm _).trans h1)
 simp only [Go.leB,decide_eq_true_eq] at h1 h2
 exact List.le_antisymm h1 h2
def namesV(st:St)(R:List ByteArray):AV:=match R with| []=> .nils|_=> .sl st.next 1 0 R.length false
def namesS(st:St)(R:List ByteArray):St:=match R with| []=>st|_=>st.push (.row (R.map str) 9)
theorem names_ok{st:St}{d m:Nat}{s:PS}(hp:PDs st d m s){R:List ByteArray}(hperm:(s.L.map PF.name).Perm R)(ho:Ord R)(hlen:R.length≤1000000)(hmay:∀n∈R,mayS n):obC 56 [.ptr d 0] st (namesV st R) (namesS st R):=by
 obtain ⟨bs,c,hm⟩:=hp.map
 have hs:=sort_eq hperm ho
 have hL:s.L.length=R.length:=by have:=hperm.length_eq;simpa using this
 have hnd:(s.L.map fun f=>nb f.name).Nodup:=by
  have h1:(s.L.map fun f=>nb f.name).Perm (R.map nb):=by
   have:=hperm.map nb
   rw [List.map_map] at this
   exact this
  exact h1.nodup_iff.2 ho.nodup
 have hall:((s.L.map fun f=>nb f.name).all fun l=>decide (l.length≤1000000))=true:=by
  simp only [List.all_eq_true,List.mem_map,decide_eq_true_eq]
  rintro l ⟨f,hf,rfl⟩
  have:=(hmay f.name (hperm.mem_iff.1 (List.mem_map.2 ⟨f,hf,rfl⟩))).2.1
  show f.name.data.toList.length≤_
  rw [Array.length_toList]
  have:f.name.data.size=f.name.size:=rfl
  omega
 have hov:namesOv [.ptr d 0] st=some (namesV st R,namesS st R):=by
  have hrow:=hp.row
  simp only [namesOv,hrow,hm,keysB_ent,hs]
  rw [if_pos ⟨pairB_of _ ho.le,hnd,hall,by simp;omega⟩]
  ·cases R with
   |nil=>rfl
   |cons a r=>
    simp only [List.map_cons,namesV,namesS,List.length_map]
    rw [hL]
    have e:List.map (fun l=>(AV.val (.string ⟨l.toArray⟩))) (List.map nb r)=r.map str:=by
     rw [List.map_map]
     exact List.map_congr_left fun x _=>by simp only [Function.comp,nb_ba]
    rw [e,nb_ba]
 refine (namesOv_ok namesC hov).mono fun a st' h=> ?_
 simp only [Prod.mk.injEq] at h
 exact ⟨h.1,h.2⟩
end
section
set_option maxRecDepth 4000
def keyP(f:PF):K:=(f.name,f.bytes.take f.last,f.bytes.drop f.last)
def ArgP(st:St)(x:AV)(ps:List Int):Prop:=(ps= []∧x= .nils)∨(∃fl,x= .imm 1 ps.length fl (ps.map u16))∨∃i fl,x= .sl i 1 0 ps.length fl∧st.get i=some (.row (ps.map u16) 108)
theorem map_ne_row{st:St}{m r:Nat}{es:List (AV×AV)}{bs:List Nat}{c:Nat}{vs:List AV}{ty:Nat}(h1:st.get m=some (.map es bs c))(h2:st.get r=some (.row vs ty)):r≠m:=fun e=>by rw [e,h1] at h2;cases h2
theorem PD.other{st st':St}{d m:Nat}{L:List PF}{q fu:Int}{off:Bool}(hp:PD st d L q fu off m)(hr:Rest st st' [d,m]){r:Nat}{vs:List AV}{ty:Nat}(hg:st.get r=some (.row vs ty))(ht:ty≠107):st'.get r=some (.row vs ty):=by
 obtain ⟨bs,c,hm⟩:=hp.map
 refine hr.keep r _ (fun hi=> ?_) hg
 simp only [List.mem_cons,List.not_mem_nil,or_false] at hi
 rcases hi with rfl|rfl
 ·exact row_ne hg hp.row ht rfl
 ·exact map_ne_row hm hg rfl
theorem perm_set{α:Type}{l A B:List α}{j:Nat}{x y:α}(h:l.Perm (A++x::B))(hj:l[j]? =some x):(l.set j y).Perm (A++y::B):=by
 obtain ⟨hlt,hx⟩:=List.getElem?_eq_some_iff.1 hj
 have e1:l=l.take j++x::l.drop (j+1):=by
  conv=>lhs;rw [←List.take_append_drop j l,List.drop_eq_getElem_cons hlt,hx]
 have e2:l.set j y=l.take j++y::l.drop (j+1):=by rw [List.set_eq_take_append_cons_drop,if_pos hlt]
 have h1:(x::(l.take j++l.drop (j+1))).Perm (x::(A++B)):=by
  refine (List.perm_middle.symm.trans ?_).trans List.perm_middle
  rw [←e1];exact h
 have h2:=h1.cons_inv
 rw [e2]
 exact (List.perm_middle.trans (h2.cons y)).trans List.perm_middle.symm
theorem boundsA_3(len i:Nat)(h:i≤len):boundsA len len none (some (i64 i)) (some (i64 i))=some (0,i,i):=by
 delta boundsA
 simp only [natLe_ok h,natLe_ok (Nat.le_refl i)]
theorem slice3{st:St}{bs:List Int}{fl:Bool}{w:Nat}(hw:w≤bs.length):∃g,sliceA E0 st 22 (.imm 1 bs.length fl (bs.map u8)) none (some (i64 w)) (some (i64 w))=some (.imm 1 w g ((bs.take w).map u8)):=by
 have sz5:tySize E0 5=some 1:=by kernel_rfl
 simp only [sliceA,ty28,sz5,if_true,boundsA_3 _ _ hw]
 exact ⟨fullOf (some (i64 w)) (0,w,w) fl bs.length,by simp only [Nat.sub_zero,Nat.mul_one,List.drop_zero,List.map_take]⟩
theorem find_nodup:∀{L:List PF} {j:Nat} {f:PF},(L.map PF.name).Nodup→L[j]? =some f→find f.name L=some j
 | [],j,f,_,h=>by cases h
 |g::r,0,f,_,h=>by
  obtain rfl:g=f:=by simpa using h
  unfold find
  rw [if_pos (ba_refl _)]
 |g::r,j+1,f,hn,h=>by
  have hj:r[j]? =some f:=by simpa using h
  obtain ⟨h1,h2⟩:=List.nodup_cons.1 hn
  unfold find
  rw [if_neg (fun e=>h1 (by rw [←ba_eq e];exact List.mem_map.2 ⟨f,List.mem_of_getElem? hj,rfl⟩)),find_nodup h2 hj]
  rfl
structure PcI (st0:St) (d m:Nat) (s:PS) (M:List K) (ps:List Int) (i:Nat) (p:St×List PF):Prop where
 rest:Rest st0 p.1 [d,m]
 pd:PDs p.1 d m {s with L:=p.2}
 names:p.2.map PF.name=s.L.map PF.name
 good:∀f∈p.2,DV f∧f.last≤f.bytes.length∧f.bytes.length≤big
 perm:(p.2.map keyP).Perm (crL ps 0 (M.take i)++M.drop i)
 used:usedL p.2≤usedL s.L
def GP(T:Tm):List AV:= [T.get 0,T.get 1,T.get 4,T.get 11,T.get 13,T.get 14,T.get 15]
def pcIn(d:Nat)(x nv:AV)(M:List K)(ps:List Int)(i:Nat)(T:Tm):Prop:=T.n=76∧∃t,GP T= [.ptr d 0,x,i64 (crN ps 0 (M.take i)),t,nv,i64 M.length,i64 i]
def PcR(d:Nat)(x nv:AV)(M:List K)(ps:List Int)(i:Nat)(p p':St×List PF):Prop:=∀T:Tm,pcIn d x nv M ps i T→
 AW Tryz.prog (pcP 4) (fun ex T' st'=>ex= .normal∧pcIn d x nv M ps (i+1) T'∧st'=p'.1) T p.1
theorem usedL_set{L:List PF}{j:Nat}{f f':PF}(h:L[j]? =some f)(hle:f'.bytes.length≤f.bytes.length):usedL (L.set j f')≤usedL L:=by
 obtain ⟨hlt,hx⟩:=List.getElem?_eq_some_iff.1 h
 have e1:L=L.take j++f::L.drop (j+1):=by
  conv=>lhs;rw [←List.take_append_drop j L,List.drop_eq_getElem_cons hlt,hx]
 have e2:L.set j f'=L.take j++f'::L.drop (j+1):=by rw [List.set_eq_take_append_cons_drop,if_pos hlt]
 rw [e2]
 conv=>rhs;rw [e1]
 unfold usedL
 simp only [List.map_append,List.map_cons,List.sum_append,List.sum_cons]
 omega
theorem pc_step{st0:St}{d m r:Nat}{rf:Bool}{s:PS}{M:List K}{x:AV}{ps:List Int}(hl:st0.lock= [])(hp0:PDs st0 d m s)(hnd:(s.L.map PF.name).Nodup)(hr:st0.get r=some (.row (M.map fun k=>str k.1) 9))(hx:ArgP st0 x ps)(hps:PicksOk ps)(hM:M.length≤100000)(i:Nat)(p:St×List PF)(hi:i<M.length)(hI:PcI st0 d m s M ps i p):
  ∃p',PcI st0 d m s M ps (i+1) p'∧PcR d x (.sl r 1 0 M.length rf) M ps i p p':=by
 obtain ⟨st,L⟩:=p
 obtain ⟨rest,pd,names,good,perm,used⟩:=hI
 simp only at rest pd names good perm used
 have hw':=rest.wf
 have hl':st.lock= []:=rest.lock.trans hl
 have hMi:=List.getElem?_eq_getElem hi
 generalize M[i]=kk at hMi
 have hdropM:M.drop i=kk::M.drop (i+1):=by
  obtain ⟨h1,h2⟩:=List.getElem?_eq_some_iff.1 hMi
  rw [←h2];exact List.drop_eq_getElem_cons h1
 have htakeM:M.take (i+1)=M.take i++ [kk]:=by rw [List.take_add_one,hMi];rfl
 rw [hdropM] at perm
 obtain ⟨f,hfm,hfk⟩:=List.mem_map.1 (perm.mem_iff.2 (List.mem_append_right _ (List.mem_cons_self ..)))
 obtain ⟨j,hj⟩:=List.getElem?_of_mem hfm
 have hndL:(L.map PF.name).Nodup:=by rw [names];exact hnd
 have hfind:=find_nodup hndL hj
 have hjk:(L.map keyP)[j]? =some kk:=by rw [List.getElem?_map,hj];simp only [Option.map_some,hfk]
 have hname:kk.1=f.name:=by rw [←hfk];rfl
 obtain ⟨g1,g2,g3⟩:=good f hfm
 obtain ⟨c1,c2⟩:=crL_snoc ps kk (M.take i) 0
 have hkle:=crN_le ps (M.take i) 0
 rw [←htakeM] at c1 c2
 have hk1:crN ps 0 (M.take i)≤100000:=by
  have:(M.take i).length≤M.length:=by simp;omega
  omega
 have hin:∀{T:Tm},pcIn d x (.sl r 1 0 M.length rf) M ps i T→∀p∈pcT d x (crN ps 0 (M.take i)) (.sl r 1 0 M.length rf) M.length i,T.get p.1=p.2:=fun {T} ⟨_,t,hG⟩=>by
  simp only [GP,List.cons.injEq,and_true] at hG
  exact conz hG.1 (conz hG.2.1 (conz hG.2.2.1 (conz hG.2.2.2.2.1 (conz hG.2.2.2.2.2.1 (one hG.2.2.2.2.2.2)))))
 have hout:∀{T':Tm} {k':Nat},T'.n=76→GP T'= [.ptr d 0,x,i64 k',.undef,.sl r 1 0 M.length rf,i64 M.length,i64 ((i+1:Nat):Int)]→k'=crN ps 0 (M.take (i+1))→pcIn d x (.sl r 1 0 M.length rf) M ps (i+1) T':=fun {T' k'} h1 h2 h3=>⟨h1,.undef,by rw [h2,h3]⟩
 generalize hkk:crN ps 0 (M.take i)=k at*
 have hr':st.get r=some (.row (M.map fun k=>str k.1) 9):=PD.other hp0 rest hr (by decide)
 obtain ⟨bs,c,hm⟩:=pd.map
 have onm:obL st 9 (.ptr r (0+i*1)) (str f.name):=⟨load_row hr' (p9 (by rw [Nat.zero_add,Nat.mul_one,List.getElem?_map,hMi,←hname];rfl)),rfl⟩
 have omp:obL st 105 (.ptr d 0) (.mp m):=⟨load_row pd.row (p101 rfl),rfl⟩
 have olk:obK st m f.name false (.agg [f.dv,i64 f.last]):=⟨lookup_hit hm hfind hj false,rfl⟩
 obtain ⟨s1,a1,a2,a3,a4⟩:=local_ok hw' hl' f.dv (i64 f.last)
 have odv:obL s1 22 (.ptr st.next 0) f.dv:=⟨load_row a2 (p28 rfl),rfl⟩
 have ola:obL s1 3 (.ptr st.next 1) (i64 f.last):=⟨load_row a2 (p3 rfl),rfl⟩
 have hsub:i64 (subN (f.bytes.length:Int) f.last)=i64 ((f.bytes.length:Int)- f.last):=by
  unfold big at g3
  rw [subN_eq _ _ (by omega)]
 have hH:(pcH d m r M.length i f.name (.agg [f.dv,i64 f.last]) f.dv f.bytes.length f.last ((f.bytes.length:Int)- f.last) st s1).ok:=by
  unfold pcH
  simp only [Ob.ok_cons,Ob.ok_nil,and_true]
  exact ⟨lt_T (by omega),by omega,onm,omp,olk,a1,odv,ola,hsub⟩
 have hadd:i64 (addN i 1)=i64 ((i+1:Nat):Int):=by rw [addN_eq _ _ (by omega)];rfl
 have l1:s1.lock= []:=a3.lock.trans hl'
 have pd1:PDs s1 d m {s with L:=L}:=PD.rest pd a3
 by_cases he:f.bytes.drop f.last= []
 ·have hlen:f.bytes.length=f.last:=by
   have:(f.bytes.drop f.last).length=0:=by rw [he];rfl
   rw [List.length_drop] at this;omega
  have ec:crK ps k kk=(kk,k):=by unfold crK;rw [if_pos (by rw [←hfk];exact he)]
  rw [ec] at c1 c2
  have hy:bo (eqN ((f.bytes.length:Int)- f.last) 0)=TT:=ob_T (by rw [eqN_eq,beq_iff_eq];omega)
  refine ⟨(s1,L),⟨rest.trans (a3.weak (by simp)),pd1,names,good,?_,used⟩,fun T hT=> ?_⟩
  ·show (L.map keyP).Perm _
   rw [c1,List.append_assoc];exact perm
  ·rcases g1 with ⟨h1,h2⟩|⟨fl,h2⟩
   ·have e0:(f.bytes.length:Int)=0:=by rw [h1];rfl
    rw [h2,e0] at hH
    rw [e0] at hy
    refine (any_run (G:=GP) (pc_skipN d m r M.length i k (i+1) rf x (.agg [.nils,i64 f.last]) f.name f.last (0- (f.last:Int)) st s1) ?_ hT.1 (hin hT)).mono fun e T' st' ⟨q1,q2,q3,q4⟩=>⟨q1,hout q2 q3 c2.symm,q4⟩
    rw [Ob.ok_append]
    refine ⟨hH,?_⟩
    simp only [Ob.ok_cons,Ob.ok_nil,and_true]
    exact ⟨hy,hadd⟩
   ·rw [h2] at hH
    refine (any_run (G:=GP) (pc_skipI d m r M.length i k (i+1) f.bytes.length fl rf x (.agg [.imm 1 f.bytes.length fl (f.bytes.map u8),i64 f.last]) (f.bytes.map u8) f.name f.last ((f.bytes.length:Int)- f.last) st s1) ?_ hT.1 (hin hT)).mono fun e T' st' ⟨q1,q2,q3,q4⟩=>⟨q1,hout q2 q3 c2.symm,q4⟩
    rw [Ob.ok_append]
    refine ⟨hH,?_⟩
    simp only [Ob.ok_cons,Ob.ok_nil,and_true]
    exact ⟨hy,hadd⟩
 ·have hpos:f.last<f.bytes.length:=by
   have:0<(f.bytes.drop f.last).length:=List.length_pos_iff.2 he
   rw [List.length_drop] at this;omega
  obtain ⟨fl,hdv⟩:∃fl,f.dv= .imm 1 f.bytes.length fl (f.bytes.map u8):=by
   rcases g1 with ⟨h,_⟩|h
   ·rw [h] at hpos;simp at hpos
   ·exact h
  have hlen:(f.bytes.drop f.last).length=f.bytes.length- f.last:=List.length_drop ..
  have ec:crK ps k kk=((f.name,f.bytes.take f.last++(f.bytes.drop f.last).take (pk ps k (f.bytes.drop f.last).length),[]),k+1):=by
   unfold crK
   rw [←hfk,if_neg (show¬(keyP f).2.2= [] from he)];rfl
  rw [ec] at c1 c2
  have hwl:pk ps k (f.bytes.drop f.last).length≤(f.bytes.drop f.last).length:=by
   unfold pk
   split
   ·exact Nat.lt_succ_iff.1 (Nat.mod_lt _ (by omega))
   ·omega
  generalize hwe:pk ps k (f.bytes.drop f.last).length=w at*
  have hwb:f.last+w≤f.bytes.length:=by omega
  obtain ⟨g2',hsl⟩:=slice3 (st:=s1) (fl:=fl) hwb
  have hdv2c:avCells (.imm 1 (f.last+w) g2' ((f.bytes.take (f.last+w)).map u8))=some [.imm 1 (f.last+w) g2' ((f.bytes.take (f.last+w)).map u8)]:=rfl
  have t1:=store28 a2 l1 hdv2c
  have gA:(s1.set st.next (.row [.imm 1 (f.last+w) g2' ((f.bytes.take (f.last+w)).map u8),i64 f.last] 104)).get st.next=some (.row [.imm 1 (f.last+w) g2' ((f.bytes.take (f.last+w)).map u8),i64 f.last] 104):=by rw [St.get_set,if_pos rfl]
  have R2:Rest st (s1.set st.next (.row [.imm 1 (f.last+w) g2' ((f.bytes.take (f.last+w)).map u8),i64 f.last] 104)) []:=a3.old (Rest.set a3.wf (a3.wf _ _ a2) _ (S:= [st.next]) (by simp)) (by simp) hw'
  have lA:(s1.set st.next (.row [.imm 1 (f.last+w) g2' ((f.bytes.take (f.last+w)).map u8),i64 f.last] 104)).lock= []:=l1
  generalize s1.set st.next (.row [.imm 1 (f.last+w) g2' ((f.bytes.take (f.last+w)).map u8),i64 f.last] 104)=s2 at*
  have t2:=st105 gA lA ((f.last+w:Nat):Int)
  have gB:(s2.set st.next (.row [.imm 1 (f.last+w) g2' ((f.bytes.take (f.last+w)).map u8),i64 ((f.last+w:Nat):Int)] 104)).get st.next=some (.row [.imm 1 (f.last+w) g2' ((f.bytes.take (f.last+w)).map u8),i64 ((f.last+w:Nat):Int)] 104):=by rw [St.get_set,if_pos rfl]
  have R3:Rest st (s2.set st.next (.row [.imm 1 (f.last+w) g2' ((f.bytes.take (f.last+w)).map u8),i64 ((f.last+w:Nat):Int)] 104)) []:=R2.old (Rest.set R2.wf (R2.wf _ _ gA) _ (S:= [st.next]) (by simp)) (by simp) hw'
  have lB:(s2.set st.next (.row [.imm 1 (f.last+w) g2' ((f.bytes.take (f.last+w)).map u8),i64 ((f.last+w:Nat):Int)] 104)).lock= []:=lA
  generalize s2.set st.next (.row [.imm 1 (f.last+w) g2' ((f.bytes.take (f.last+w)).map u8),i64 ((f.last+w:Nat):Int)] 104)=s3 at*
  obtain ⟨s4,u1,u2,u3⟩:=upd_ok (PD.rest pd R3) R3.wf lB ⟨f.name,.imm 1 (f.last+w) g2' ((f.bytes.take (f.last+w)).map u8),f.bytes.take (f.last+w),f.last+w⟩ (a:=st.next) gB
  have hput:putL L ⟨f.name,.imm 1 (f.last+w) g2' ((f.bytes.take (f.last+w)).map u8),f.bytes.take (f.last+w),f.last+w⟩=L.set j ⟨f.name,.imm 1 (f.last+w) g2' ((f.bytes.take (f.last+w)).map u8),f.bytes.take (f.last+w),f.last+w⟩:=putL_hit hfind
  simp only at u2
  rw [hput] at u2
  have hO:(pcO d m (k+1) (i+1) st.next f.name f.dv (.imm 1 (f.last+w) g2' ((f.bytes.take (f.last+w)).map u8)) (.agg [.imm 1 (f.last+w) g2' ((f.bytes.take (f.last+w)).map u8),i64 ((f.last+w:Nat):Int)]) (f.last+w) k i f.last w ((f.last+w:Nat):Int) s1 s2 s3 s4).ok:=by
   unfold big at g3
   unfold pcO
   rw [Ob.ok_append,Ob.ok_append]
   refine ⟨⟨?_,u1⟩,?_⟩
   ·simp only [Ob.ok_cons,Ob.ok_nil,and_true]
    have hsum:i64 (addN f.last w)=i64 ((f.last+w:Nat):Int):=by rw [addN_eq _ _ (by omega)];norm_cast
    exact ⟨by rw [addN_eq _ _ (by omega)];rfl,odv,ola,hsum,ola,hsum,by rw [hdv];exact hsl,t1,⟨load_row gA (p28 rfl),rfl⟩,t2⟩
   ·simp only [Ob.ok_cons,Ob.ok_nil,and_true]
    exact hadd
  have hy:bo (eqN ((f.bytes.length:Int)- f.last) 0)=FF:=ob_F (by rw [eqN_eq,beq_eq_false_iff_ne];omega)
  refine ⟨(s4,L.set j ⟨f.name,.imm 1 (f.last+w) g2' ((f.bytes.take (f.last+w)).map u8),f.bytes.take (f.last+w),f.last+w⟩),⟨(rest.trans (R3.weak (by simp))).trans u3,u2,?_,?_,?_,?_⟩,fun T hT=> ?_⟩
  ·rw [List.map_set,names,←names]
   refine List.ext_getElem? fun n=> ?_
   rw [List.getElem?_set]
   split
   ·rename_i e
    subst e
    split
    ·rw [List.getElem?_map,hj];rfl
    ·rename_i h
     rw [List.getElem?_eq_none (by omega)]
   ·rfl
  ·intro h hm
   rcases List.mem_or_eq_of_mem_set hm with hm|rfl
   ·exact good h hm
   ·have hl2:(f.bytes.take (f.last+w)).length=f.last+w:=by rw [List.length_take,Nat.min_eq_left hwb]
    exact ⟨.inr ⟨g2',by simp only [hl2]⟩,by simp only [hl2];omega,by simp only [hl2];omega⟩
  ·show ((L.set j _).map keyP).Perm _
   rw [List.map_set,c1,List.append_assoc]
   have hkp:keyP ⟨f.name,.imm 1 (f.last+w) g2' ((f.bytes.take (f.last+w)).map u8),f.bytes.take (f.last+w),f.last+w⟩=(f.name,f.bytes.take f.last++(f.bytes.drop f.last).take w,[]):=by
    simp only [keyP,List.take_take,Nat.min_self,List.drop_take,Nat.sub_self,List.take_zero]
    rw [List.take_add]
   rw [hkp]
   exact perm_set perm hjk
  ·exact Nat.le_trans (usedL_set hj (by simp;omega)) used
  ·rw [hdv] at hH hO
   have hxs:ArgP st x ps:=by
    rcases hx with h|h|⟨rl,gp,h,hg⟩
    ·exact .inl h
    ·exact .inr (.inl h)
    ·exact .inr (.inr ⟨rl,gp,h,PD.other hp0 rest hg (by decide)⟩)
   have fin:∀{T':Tm} {st':St} {e:Exit},(e= .normal∧T'.n=76∧GP T'= [.ptr d 0,x,i64 ((k+1:Nat):Int),.undef,.sl r 1 0 M.length rf,i64 M.length,i64 ((i+1:Nat):Int)]∧st'=s4)→e= .normal∧pcIn d x (.sl r 1 0 M.length rf) M ps (i+1) T'∧st'=s4:=fun ⟨q1,q2,q3,q4⟩=>⟨q1,hout q2 q3 c2.symm,q4⟩
   cases hpk:ps[k]? with
   |none=>
    have hle:ps.length≤k:=List.getElem?_eq_none_iff.1 hpk
    have hw0:w=0:=by rw [←hwe];unfold pk;rw [hpk]
    have hwI:((w:Nat):Int)=0:=by rw [hw0];rfl
    rw [hwI] at hO
    rcases hxs with ⟨h1,rfl⟩|⟨gp,rfl⟩|⟨rl,gp,rfl,hg⟩
    ·refine (any_run (G:=GP) (pc_noN d m r M.length i k (k+1) (i+1) f.bytes.length (f.last+w) fl rf g2' (.agg [.imm 1 f.bytes.length fl (f.bytes.map u8),i64 f.last]) (.agg [.imm 1 (f.last+w) g2' ((f.bytes.take (f.last+w)).map u8),i64 ((f.last+w:Nat):Int)]) (f.bytes.map u8) ((f.bytes.take (f.last+w)).map u8) f.name f.last ((f.bytes.length:Int)- f.last) ((f.last+w:Nat):Int) st s1 s2 s3 s4) ?_ hT.1 (hin hT)).mono fun e T' st' h=>fin h
     rw [Ob.ok_append,Ob.ok_append]
     refine ⟨⟨hH,?_⟩,hO⟩
     simp only [Ob.ok_cons,Ob.ok_nil,and_true]
     exact ⟨hy,lt_F (by omega)⟩
    ·refine (any_run (G:=GP) (pc_noI d m r M.length i k (k+1) (i+1) ps.length f.bytes.length (f.last+w) fl rf g2' gp (.agg [.imm 1 f.bytes.length fl (f.bytes.map u8),i64 f.last]) (.agg [.imm 1 (f.last+w) g2' ((f.bytes.take (f.last+w)).map u8),i64 ((f.last+w:Nat):Int)]) (f.bytes.map u8) ((f.bytes.take (f.last+w)).map u8) (ps.map u16) f.name f.last ((f.bytes.length:Int)- f.last) ((f.last+w:Nat):Int) st s1 s2 s3 s4) ?_ hT.1 (hin hT)).mono fun e T' st' h=>fin h
     rw [Ob.ok_append,Ob.ok_append]
     refine ⟨⟨hH,?_⟩,hO⟩
     simp only [Ob.ok_cons,Ob.ok_nil,and_true]
     exact ⟨hy,lt_F (by omega)⟩
    ·refine (any_run (G:=GP) (pc_noS d m r M.length i k (k+1) (i+1) ps.length f.bytes.length (f.last+w) rl fl rf g2' gp (.agg [.imm 1 f.bytes.length fl (f.bytes.map u8),i64 f.last]) (.agg [.imm 1 (f.last+w) g2' ((f.bytes.take (f.last+w)).map u8),i64 ((f.last+w:Nat):Int)]) (f.bytes.map u8) ((f.bytes.take (f.last+w)).map u8) f.name f.last ((f.bytes.length:Int)- f.last) ((f.last+w:Nat):Int) st s1 s2 s3 s4) ?_ hT.1 (hin hT)).mono fun e T' st' h=>fin h
     rw [Ob.ok_append,Ob.ok_append]
     refine ⟨⟨hH,?_⟩,hO⟩
     simp only [Ob.ok_cons,Ob.ok_nil,and_true]
     exact ⟨hy,lt_F (by omega)⟩
   |some v=>
    have hlt:=(List.getElem?_eq_some_iff.1 hpk).1
    obtain ⟨hv0,hv1⟩:=hps.2 v (List.mem_of_getElem? hpk)
    have hwv:w=v.toNat%((f.bytes.drop f.last).length+1):=by rw [←hwe];unfold pk;rw [hpk]
    have hrem:remP v (((f.bytes.drop f.last).length+1:Nat):Int) (i64 (w:Int)) s1:=by rw [hwv];exact remP_ok hv0 s1
    have hl1:i64 (addN ((f.bytes.length:Int)- f.last) 1)=i64 (((f.bytes.drop f.last).length+1:Nat):Int):=by
     unfold big at g3
     rw [addN_eq _ _ (by omega),hlen]
     congr 2
     omega
    have hcv:i64 (IntKind.i64.wrap v)=i64 v:=by rw [IntWalk.i64_in _ (by omega)]
    rcases hxs with ⟨h1,rfl⟩|⟨gp,rfl⟩|⟨rl,gp,rfl,hg⟩
    ·rw [h1] at hlt;simp at hlt
    ·refine (any_run (G:=GP) (pc_pickI d m r M.length i k (k+1) (i+1) ps.length f.bytes.length (f.last+w) fl rf g2' gp (.agg [.imm 1 f.bytes.length fl (f.bytes.map u8),i64 f.last]) (.agg [.imm 1 (f.last+w) g2' ((f.bytes.take (f.last+w)).map u8),i64 ((f.last+w:Nat):Int)]) (f.bytes.map u8) ((f.bytes.take (f.last+w)).map u8) (ps.map u16) f.name f.last ((f.bytes.length:Int)- f.last) ((f.last+w:Nat):Int) v (((f.bytes.drop f.last).length+1:Nat):Int) w st s1 s2 s3 s4) ?_ hT.1 (hin hT)).mono fun e T' st' h=>fin h
     rw [Ob.ok_append,Ob.ok_append]
     refine ⟨⟨hH,?_⟩,hO⟩
     simp only [Ob.ok_cons,Ob.ok_nil,and_true]
     exact ⟨hy,lt_T (by omega),by omega,⟨load50 hpk,rfl⟩,hcv,hl1,hrem⟩
    ·have hg1:=a3.keep _ _ (by simp) hg
     obtain ⟨t50,h50,h51⟩:=ty50
     refine (any_run (G:=GP) (pc_pickS d m r M.length i k (k+1) (i+1) ps.length f.bytes.length (f.last+w) rl fl rf g2' gp (.agg [.imm 1 f.bytes.length fl (f.bytes.map u8),i64 f.last]) (.agg [.imm 1 (f.last+w) g2' ((f.bytes.take (f.last+w)).map u8),i64 ((f.last+w:Nat):Int)]) (f.bytes.map u8) ((f.bytes.take (f.last+w)).map u8) f.name f.last ((f.bytes.length:Int)- f.last) ((f.last+w:Nat):Int) v (((f.bytes.drop f.last).length+1:Nat):Int) w st s1 s2 s3 s4) ?_ hT.1 (hin hT)).mono fun e T' st' h=>fin h
     rw [Ob.ok_append,Ob.ok_append]
     refine ⟨⟨hH,?_⟩,hO⟩
     simp only [Ob.ok_cons,Ob.ok_nil,and_true]
     exact ⟨hy,lt_T (by omega),by omega,⟨load_row hg1 (plainT h50 h51 (by rw [Nat.zero_add,Nat.mul_one,List.getElem?_map,hpk];rfl)),rfl⟩,hcv,hl1,hrem⟩
end
section
set_option maxRecDepth 4000
theorem pc_loop{st0:St}{d m:Nat}{s:PS}{M:List K}{x nv:AV}{ps:List Int}{c:Nat→St×List PF}(step:∀i,i<M.length→PcR d x nv M ps i (c i) (c (i+1)))
  {T:Tm} (hT:pcIn d x nv M ps 0 T):
  AW Tryz.prog (.loop (pcP 4)) (fun ex T' st'=>ex= .exit 0∧T'.n=76∧T'.get 0= .ptr d 0∧st'=(c M.length).1) T (c 0).1:=by
 refine .loop (fun m T st'=>∃i:Nat,i≤M.length∧m=M.length- i∧st'=(c i).1∧pcIn d x nv M ps i T) M.length ⟨0,by omega,rfl,rfl,hT⟩ fun m T st' hI=> ?_
 obtain ⟨i,hi,rfl,rfl,hn,t,hG⟩:=hI
 by_cases hlt:i<M.length
 ·refine (step i hlt T ⟨hn,t,hG⟩).mono fun ex T' st2 ⟨he,hin',hst⟩=> ?_
  subst he
  exact ⟨M.length- (i+1),by omega,i+1,by omega,rfl,hst,hin'⟩
 ·obtain rfl:i=M.length:=by omega
  generalize crN ps 0 (M.take M.length)=k at hG
  have hG2:=hG
  simp only [GP,List.cons.injEq,and_true] at hG2
  have hT2:∀p∈pcT d x k nv M.length M.length,T.get p.1=p.2:=conz hG2.1 (conz hG2.2.1 (conz hG2.2.2.1 (conz hG2.2.2.2.2.1 (conz hG2.2.2.2.2.2.1 (one hG2.2.2.2.2.2.2)))))
  refine (any_run (G:=GP) (pc_end d M.length M.length k x nv (c M.length).1) (by simp only [Ob.ok_cons,Ob.ok_nil,and_true];exact lt_F (by omega)) hn hT2).mono fun ex T' st2 ⟨he,hn',hF,hst⟩=> ?_
  subst he
  simp only [GP,List.cons.injEq,and_true] at hF
  exact ⟨rfl,hn',hF.1,hst⟩
theorem pc_end_ok{st:St}{d m:Nat}{s:PS}(hp:PDs st d m s)(hw:st.wf)(hl:st.lock= []):∃s1 s2,storeA E0 st 3 (.ptr d 2) (i64 0)=some s1∧storeA E0 s1 4 (.ptr d 3) FF=some s2∧PDs s2 d m ⟨s.L,s.q,0,false⟩∧Rest st s2 [d,m]:=by
 have hd:=hw _ _ hp.row
 have hs1:=storeN hp.row hl 0
 have g1:(st.set d (.row [.mp m,i64 s.q,i64 0,bo s.off] 107)).get d=some (.row [.mp m,i64 s.q,i64 0,bo s.off] 107):=by rw [St.get_set,if_pos rfl]
 have hs2:=storeB g1 (by simpa using hl) false
 obtain ⟨bs,c,hm⟩:=hp.map
 have hne:=hp.ne
 have R1:Rest st (st.set d (.row [.mp m,i64 s.q,i64 0,bo s.off] 107)) [d,m]:=Rest.set hw hd _ (by simp)
 refine ⟨_,_,hs1,hs2,⟨by rw [St.get_set,if_pos rfl],bs,c,?_⟩,R1.trans (Rest.set R1.wf (R1.wf _ _ g1) _ (by simp))⟩
 rw [St.get_set,if_neg (fun e=>hne e.symm),St.get_set,if_neg (fun e=>hne e.symm)];exact hm
theorem crash_ok{st:St}{d m:Nat}{s:PS}(hp:PDs st d m s)(hw:st.wf)(hl:st.lock= [])(hgd:∀f∈s.L,DV f∧f.last≤f.bytes.length∧f.bytes.length≤big){M:List K}(hperm:(s.L.map keyP).Perm M)(ho:Ord (M.map (·.1)))(hM:M.length≤100000)(hmay:∀k∈M,mayS k.1){x:AV}{ps:List Int}(hx:ArgP st x ps)(hps:PicksOk ps):
  ∃st' L',obC 22 [.ptr d 0,x] st (.tup []) st'∧PDs st' d m ⟨L',s.q,0,false⟩∧L'.map PF.name=s.L.map PF.name∧(∀f∈L',DV f∧f.last≤f.bytes.length∧f.bytes.length≤big)∧(L'.map keyP).Perm (crL ps 0 M)∧usedL L'≤usedL s.L∧Rest st st' [d,m]:=by
 have hpn:(s.L.map PF.name).Perm (M.map (·.1)):=by
  have:=hperm.map (·.1)
  rw [List.map_map] at this
  exact this
 have hnames:=names_ok hp hpn ho (by simpa using by omega) (fun n hn=>by obtain ⟨k,hk,rfl⟩:=List.mem_map.1 hn;exact hmay k hk)
 have hnd:(s.L.map PF.name).Nodup:=by
  have h1:(s.L.map fun f=>nb f.name).Perm ((M.map (·.1)).map nb):=by
   have:=hpn.map nb
   rw [List.map_map] at this
   exact this
  have h2:((s.L.map PF.name).map nb).Nodup:=by rw [List.map_map];exact h1.nodup_iff.2 ho.nodup
  exact (List.pairwise_map.1 h2).imp fun h e=>h (by rw [e])
 have key:∀nv st0,obC 56 [.ptr d 0] st nv st0→Rest st st0 []→((nv= .nils∧M.length=0)∨∃r rf,nv= .sl r 1 0 M.length rf∧st0.get r=some (.row (M.map fun k=>str k.1) 9))→
   ∃st' L',obC 22 [.ptr d 0,x] st (.tup []) st'∧PDs st' d m ⟨L',s.q,0,false⟩∧L'.map PF.name=s.L.map PF.name∧(∀f∈L',DV f∧f.last≤f.bytes.length∧f.bytes.length≤big)∧(L'.map keyP).Perm (crL ps 0 M)∧usedL L'≤usedL s.L∧Rest st st' [d,m]:=by
  intro nv st0 hc hR hnv
  have hp0:PDs st0 d m s:=PD.rest hp hR
  have hl0:st0.lock= []:=hR.lock.trans hl
  have hx0:ArgP st0 x ps:=by
   rcases hx with h|h|⟨i,fl,h,hg⟩
   ·exact .inl h
   ·exact .inr (.inl h)
   ·exact .inr (.inr ⟨i,fl,h,hR.keep _ _ (by simp) hg⟩)
  have init:PcI st0 d m s M ps 0 (st0,s.L):=⟨Rest.refl hR.wf _,hp0,rfl,hgd,by simpa [crL] using hperm,Nat.le_refl _⟩
  have turn:∀i p,i<M.length→PcI st0 d m s M ps i p→∃p',PcI st0 d m s M ps (i+1) p'∧PcR d x nv M ps i p p':=fun i p hi hI=>by
   rcases hnv with ⟨_,h0⟩|⟨r,rf,rfl,hr⟩
   ·omega
   ·exact pc_step hl0 hp0 hnd hr hx0 hps hM i p hi hI
  obtain ⟨c,c0,inv,step⟩:=chain_seq (PcI st0 d m s M ps) (PcR d x nv M ps) M.length (st0,s.L) init turn
  have hend:=inv M.length (Nat.le_refl _)
  have l1:(c M.length).1.lock= []:=hend.rest.lock.trans hl0
  obtain ⟨s1,s2,e1,e2,e3,e4⟩:=pc_end_ok hend.pd hend.rest.wf l1
  refine ⟨s2,(c M.length).2,?_,e3,hend.names,hend.good,?_,hend.used,((hR.weak (by simp)).trans hend.rest).trans e4⟩
  ·refine ACalls.body (E:=E0) hE Tryz.func22 body30 ?_
   refine .seq (.seq ((any_run (G:=GP) (pc_0 d x st) Ob.ok_nil rfl (conz rfl (one rfl))).mono fun e T1 t1 ⟨he,n1,F1,hst⟩=> ?_))
   subst he;subst hst
   simp only [GP,List.cons.injEq,and_true] at F1
   simp only [thenA]
   refine (any_run (G:=GP) (pc_1 d x t1) Ob.ok_nil n1 (conz F1.1 (conz F1.2.1 (one F1.2.2.2.1)))).mono fun e T2 t2 ⟨he,n2,F2,hst⟩=> ?_
   subst he;subst hst
   simp only [GP,List.cons.injEq,and_true] at F2
   simp only [thenA]
   refine .seq ((any_run (G:=GP) (pc_2 d x t2) Ob.ok_nil n2 (conz F2.1 (one F2.2.1))).mono fun e T3 t3 ⟨he,n3,F3,hst⟩=> ?_)
   subst he;subst hst
   simp only [GP,List.cons.injEq,and_true] at F3
   simp only [thenA]
   have h3:AW Tryz.prog (pcP 3) (fun ex T' st'=>ex= .normal∧T'.n=76∧GP T'= [.ptr d 0,x,i64 0,.undef,nv,i64 M.length,i64 0]∧st'=st0) T3 t3:=by
    rcases hnv with ⟨rfl,h0⟩|⟨r,rf,rfl,_⟩
    ·rw [h0]
     exact any_run (G:=GP) (pc_3N d x t3 st0) (by simp only [Ob.ok_cons,Ob.ok_nil,and_true];exact hc) n3 (conz F3.1 (conz F3.2.1 (one F3.2.2.1)))
    ·exact any_run (G:=GP) (pc_3S d r M.length rf x t3 st0) (by simp only [Ob.ok_cons,Ob.ok_nil,and_true];exact hc) n3 (conz F3.1 (conz F3.2.1 (one F3.2.2.1)))
   refine .seq (.seq (h3.mono fun e T4 t4 ⟨he,n4,F4,hst⟩=> ?_))
   subst he;subst hst
   simp only [thenA]
   have hs:t4=(c 0).1:=by rw [c0]
   rw [hs]
   refine .block ((pc_loop (st0:=t4) (m:=m) (s:=s) step ⟨n4,_,F4⟩).mono fun e T5 t5 ⟨he,n5,h0,hst⟩=> ?_)
   subst he
   simp only [blockA,if_true,thenA]
   rw [hst]
   refine (any_run (G:=GP) (pc_5 d (c M.length).1 s1 s2) (by simp only [Ob.ok_cons,Ob.ok_nil,and_true];exact ⟨e1,e2⟩) n5 (one h0)).mono fun e T6 t6 ⟨he,n6,F6,hst'⟩=> ?_
   subst he;subst hst'
   exact ⟨[],rfl,rfl,rfl⟩
  ·have:=hend.perm
   rwa [List.take_length,List.drop_length,List.append_nil] at this
 refine key _ _ hnames ?_ ?_
 ·cases M with
  |nil=>exact Rest.refl hw _
  |cons a r=>exact Rest.push hw _ _
 ·cases M with
  |nil=>exact .inl ⟨rfl,rfl⟩
  |cons a r=>exact .inr ⟨st.next,false,by simp [namesV],by simp only [List.map_cons,namesS];rw [St.get_push,if_pos rfl,List.map_map];rfl⟩
end
section
set_option maxRecDepth 4000
theorem small_val{f:Nat}{args:List AV}{r:AV}{N:Nat}(h:ACalls Tryz.prog f args (fun a s=>a=r∧s=⟨N,.nil,[],[]⟩) st00)(ha:∀ρ,renL ρ args=args)(hr:∀ρ,ren ρ r=r){st:St}(hw:st.wf):∃st',obC f args st r st'∧Rest st st' []:=by
 have hE:Emb st00 st (fun i=>st.next+i):=
  ⟨fun i hi=>by show st.next+i=st.next+(i- 0);rfl,fun i hi=>absurd hi (Nat.not_lt_zero i),fun i j o o' h=>by simp [st00,St.get,Tr.get] at h,fun id o h=>by simp [st00,St.get,Tr.get] at h,fun id o h=>by simp [st00,St.get,Tr.get] at h,fun id o h=>by simp [st00,St.get,Tr.get] at h,fun p hp=>by cases hp⟩
 have hfr:=h.frame hE
 rw [ha] at hfr
 have hnone:∀k,(⟨N,.nil,[],[]⟩:St).get k=none:=fun k=>by simp [St.get,Tr.get]
 refine ⟨mergeSt ⟨N,.nil,[],[]⟩ st st00 (fun i=>st.next+i),hfr.mono fun a s hq=> ?_,⟨fun i o _ ho=> ?_,Nat.le_add_right _ _,rfl,rfl,fun i o hi=> ?_⟩⟩
 ·obtain ⟨r0,st0',⟨h1,h2⟩,h3,h4,_,_⟩:=hq
  subst h1;subst h2
  exact ⟨by rw [h3,hr],h4⟩
 ·have hlt:=hw _ _ ho
  rw [merge_out hE (k:=i) fun j _ _ e=>by have e:st.next+j=i:=e;omega]
  exact ho
 ·show i<st.next+(N- 0)
  rcases merge_cases hE hi with ⟨j,o0,_,_,h3,_⟩|⟨h1,_⟩
  ·rw [hnone] at h3;cases h3
  ·have:=hw _ _ h1;omega
noncomputable def cloEv(f:Nat)(args:List AV):Option (AV×List Nat×List (Nat×List AV)):=(evCall E0 ovF 100000 f args st00).map fun q=>(q.1,q.2.lock,q.2.gl)
theorem closed_val{f:Nat}{args:List AV}{r:AV}(h:cloEv f args=some (r,[],[]))(ha:∀ρ,renL ρ args=args)(hr:∀ρ,ren ρ r=r){st:St}(hw:st.wf):∃st',obC f args st r st'∧Rest st st' []:=by
 obtain ⟨⟨a,s⟩,h1,h2⟩:=Option.map_eq_some_iff.1 h
 simp only [Prod.mk.injEq] at h2
 obtain ⟨rfl,hk,hg⟩:=h2
 refine small_val (N:=s.next) ((((ev_ok (envOf_ok (P:=Tryz.prog) rfl) ovF_ok 100000).call f args st00 _ h1)).forget fun a' s' e _=> ?_) ha hr hw
 cases e
 exact ⟨⟨s.next,.nil,[],[]⟩,⟨rfl,rfl⟩,fun i o hi=>by simp [St.get,Tr.get] at hi,rfl,hk.symm,hg.symm⟩
def nmB(k:Nat):List UInt8:= [119,97,108,45,48,48,48,48,48,48,48,UInt8.ofNat (48+k)]
def nm(k:Nat):ByteArray:=⟨(nmB k).toArray⟩
end
end Go.Proofs.YtalchcdenhfmiaaGreatDoor.E

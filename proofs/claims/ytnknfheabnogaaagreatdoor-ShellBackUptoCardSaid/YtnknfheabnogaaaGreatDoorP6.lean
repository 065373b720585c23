/- Part 6 of the proof, over the abstract machine: contracts of the functions that the statement reaches, joined out of several texts. Condition: none beyond those that the lemmas name. -/
import Derived.Test.YtnknfheabnogaaaGreatDoorP5
namespace Go.Proofs.YtnknfheabnogaaaGreatDoor.E
open Go Go.Proofs
section
set_option maxRecDepth 8000
/-! ### Text, Rows, Parse, ParseRows -/
theorem BS.rg{a b:St}{v:AV}{l:List UInt8}(h:BS a v l)(k:RG a b):BS b v l:=by
  rcases h with h|h|⟨i,o,f,vs,h,hg,h8,h9⟩
  · exact .inl h
  · exact .inr (.inl h)
  · exact .inr (.inr ⟨i,o,f,vs,h,k.keep _ _ hg,h8,h9⟩)
theorem NS.rg{a b:St}{v:AV}{l:List Nat}(h:NS a v l)(k:RG a b):NS b v l:=by
  rcases h with h|h|⟨i,o,f,vs,h,hg,h8,h9⟩
  · exact .inl h
  · exact .inr (.inl h)
  · exact .inr (.inr ⟨i,o,f,vs,h,k.keep _ _ hg,h8,h9⟩)
theorem BS.k5{a b:St}{v:AV}{l:List UInt8}(h:BS a v l)(k:Keep5 a b):BS b v l:=by
  rcases h with h|h|⟨i,o,f,vs,h,hg,h8,h9⟩
  · exact .inl h
  · exact .inr (.inl h)
  · exact .inr (.inr ⟨i,o,f,vs,h,k _ _ _ (.inl rfl) hg,h8,h9⟩)
theorem NS.k5{a b:St}{v:AV}{l:List Nat}(h:NS a v l)(k:Keep5 a b):NS b v l:=by
  rcases h with h|h|⟨i,o,f,vs,h,hg,h8,h9⟩
  · exact .inl h
  · exact .inr (.inl h)
  · exact .inr (.inr ⟨i,o,f,vs,h,k _ _ _ (.inr rfl) hg,h8,h9⟩)
theorem EvV.k5{a b:St}{cs:List AV}{e:EvR}(h:EvV a cs e)(k:Keep5 a b):EvV b cs e:=by
  obtain ⟨d,p,h1,h2,h3⟩:=h
  exact ⟨d,p,h1,h2.k5 k,h3.k5 k⟩
theorem RwV.k5{a b:St}{cs:List AV}{e:RwR}(h:RwV a cs e)(k:Keep5 a b):RwV b cs e:=by
  obtain ⟨d,h1,h2⟩:=h
  exact ⟨d,h1,h2.k5 k⟩
theorem if_len{c:Prop} [Decidable c]{a:List UInt8}{n:Nat}(h:a.length≤n):(if c then a else []).length≤n:=by
  split
  · exact h
  · simp
theorem ev_len{e:EvR}(hg:EvGood e):wrL (evLineR e)≤60*(e.d.length+e.ps.length+1):=by
  cases h:evLineR e with
  |none=>simp [wrL]
  |some s=>
    obtain ⟨_,rfl⟩:=ev_parts h
    have h1:=nmF_len e.k
    have h2:(if isConn e.k then 32::Lib.itoa e.c else []).length≤22:=if_len (by have:=itoa_len hg.1;simp only [List.length_cons];omega)
    have h3:(if isNum e.k then 32::Lib.itoa e.n else []).length≤22:=if_len (by have:=itoa_len hg.2.1;simp only [List.length_cons];omega)
    have h4:(if e.k=2 then 32::quoteF e.d else []).length≤4*e.d.length+3:=if_len (by
      have:=esc_flat e.d
      simp only [quoteF,List.length_append,List.length_cons,List.length_nil];omega)
    have h5:=pick_len hg.2.2
    simp only [wrL,List.length_append]
    omega
theorem rw_len{e:RwR}(hg:RwGood e):wrL (rowFR e)≤60*(e.d.length+1):=by
  cases h:rowFR e with
  |none=>simp [wrL]
  |some s=>
    unfold rowFR rowF at h
    have h1:=nmF_len e.k
    have h2:=itoa_len hg.1
    have h3:=itoa_len hg.2.1
    have h4:=itoa_len hg.2.2
    have h5:=esc_flat e.d
    have h6:(endB e.en).length≤5:=by cases e.en<;>simp [endB]
    have h7:okB.length=2:=rfl
    have h8:errB.length=5:=rfl
    have h9:(rowTail e.k e.c e.n e.d e.en).length≤30+4*e.d.length:=by
      unfold rowTail
      split
      · simp only [List.length_cons];omega
      · split
        · simp only [List.length_cons];omega
        · split
          · simp only [quoteF,List.length_append,List.length_cons,List.length_nil];omega
          · simp
    simp only [wrL]
    split at h
    · cases h
    · split at h<;>(simp only [Option.some.injEq] at h;rw [←h];simp only [List.length_append,List.length_cons];omega)
theorem sum_le{α:Type}(f g:α→Nat)(l:List α)(h:∀a∈l,f a≤60*g a):(l.map f).sum≤60*(l.map g).sum:=by
  induction l with
  |nil=>simp
  |cons a r ih=>
    have h1:=h a (by simp)
    have h2:=ih (fun b hb=>h b (List.mem_cons_of_mem _ hb))
    simp only [List.map_cons,List.sum_cons];omega
theorem one_sum{α:Type}(g:α→Nat):∀(l:List α) {a:α},a∈l→g a≤(l.map g).sum
  |b::r,a,h=>by
    simp only [List.map_cons,List.sum_cons]
    rcases List.mem_cons.1 h with rfl|h
    · omega
    · have:=one_sum g r h;omega
theorem len_sum{α:Type}(g:α→Nat)(h1:∀a,1≤g a):∀l:List α,l.length≤(l.map g).sum
  | []=>by simp
  |b::r=>by
    have:=len_sum g h1 r
    have:=h1 b
    simp only [List.map_cons,List.sum_cons,List.length_cons];omega
def evSz(e:EvR):Nat:=e.d.length+e.ps.length+1
def rwSz(e:RwR):Nat:=e.d.length+1
def errN(o:Option (List UInt8)):Int:=match o with
  |none=>1
  |some t=>if 65536<t.length then 3 else 0
def outT(o:Option (List UInt8)):List UInt8:=match o with
  |none=> []
  |some t=>if 65536<t.length then [] else t
theorem wrA_eq(o:Option (List UInt8)):wrA o= .tup [sb (outT o),i64 (errN o)]:=by
  unfold wrA outT errN
  cases o with
  |none=>rfl
  |some t=>simp only;split<;>rfl
theorem text_ok{st:St}{x:AV}{css:List (List AV)}{es:List EvR}(hw:st.wf)(hl:st.lock= [])(hgl:Tabs st)(hx:IL st 54 5 x css)(hv:AllV EvV st css es)(hg:∀e∈es,EvGood e)(hs:(es.map evSz).sum≤10000000):
    ∃z,obC 7 [x] st (.tup [sb (outT (wrF (es.map evLineR))),i64 (errN (wrF (es.map evLineR)))]) z∧Rest st z []:=by
  have hlen:es.length≤10000000:=Nat.le_trans (len_sum evSz (fun e=>by unfold evSz;omega) es) hs
  obtain ⟨z,h1,h2⟩:=written18_ok (x:=x) hw hl css (es.map evLineR) (by rw [List.length_map,hv.1]) hx (by rw [hv.1];omega) (fun i c o h1 h2=>by
    rw [List.getElem?_map] at h2
    obtain ⟨e,he,rfl⟩:=Option.map_eq_some_iff.1 h2
    obtain ⟨d,p,rfl,hd,hp⟩:=hv.2 i c e h1 he
    have hem:=List.mem_of_getElem? he
    have g:=hg e hem
    have h3:=one_sum evSz es hem
    unfold evSz at h3
    exact fun σ hσ=>eventLine_ok hσ.wf (hσ.lock.trans hl) (fun q hq=>hσ.gl q (hgl q hq)) (hd.rg hσ) (hp.rg hσ) g.1 g.2.1 (by unfold evSz at hs;omega) g.2.2 (by unfold evSz at hs;omega)) (by
    rw [List.map_map]
    have:=sum_le (fun e=>wrL (evLineR e)) evSz es (fun e he=>ev_len (hg e he))
    exact Nat.le_trans this (by omega))
  rw [wrA_eq] at h1
  exact ⟨z,f7 h1,h2⟩
theorem textR_ok{st:St}{x:AV}{css:List (List AV)}{es:List RwR}(hw:st.wf)(hl:st.lock= [])(hgl:Tabs st)(hx:IL st 70 6 x css)(hv:AllV RwV st css es)(hg:∀e∈es,RwGood e)(hs:(es.map rwSz).sum≤10000000):
    ∃z,obC 14 [x] st (.tup [sb (outT (wrF (es.map rowFR))),i64 (errN (wrF (es.map rowFR)))]) z∧Rest st z []:=by
  have hlen:es.length≤10000000:=Nat.le_trans (len_sum rwSz (fun e=>by unfold rwSz;omega) es) hs
  obtain ⟨z,h1,h2⟩:=written20_ok (x:=x) hw hl css (es.map rowFR) (by rw [List.length_map,hv.1]) hx (by rw [hv.1];omega) (fun i c o h1 h2=>by
    rw [List.getElem?_map] at h2
    obtain ⟨e,he,rfl⟩:=Option.map_eq_some_iff.1 h2
    obtain ⟨d,rfl,hd⟩:=hv.2 i c e h1 he
    have hem:=List.mem_of_getElem? he
    have g:=hg e hem
    have h3:=one_sum rwSz es hem
    unfold rwSz at h3
    exact fun σ hσ=>rowLine_ok hσ.wf (hσ.lock.trans hl) (fun q hq=>hσ.gl q (hgl q hq)) (hd.rg hσ) g.1 g.2.1 g.2.2 (by unfold rwSz at hs;omega)) (by
    rw [List.map_map]
    have:=sum_le (fun e=>wrL (rowFR e)) rwSz es (fun e he=>rw_len (hg e he))
    exact Nat.le_trans this (by omega))
  rw [wrA_eq] at h1
  exact ⟨z,f14 h1,h2⟩
theorem lineOf_le(s:List UInt8):(lineOf s).1.length≤s.length∧(lineOf s).2.2.length≤s.length:=by
  unfold lineOf
  by_cases h:(10:UInt8)∈s
  · rw [if_pos h]
    have:=congrArg List.length (split_ten h)
    simp only [List.length_append,List.length_cons] at this
    exact ⟨by show (s.takeWhile (· ≠10)).length≤_;omega,by show ((s.dropWhile (· ≠10)).drop 1).length≤_;omega⟩
  · rw [if_neg h]
    exact ⟨Nat.le_refl _,Nat.zero_le _⟩
theorem lines_len:∀(n:Nat) (s:List UInt8) {b:List UInt8},b∈linesL n s→b.length≤s.length
  |0,s,b,h=>by simp [linesL] at h
  |n+1,[],b,h=>by simp [linesL] at h
  |n+1,c::r,b,h=>by
    simp only [linesL] at h
    have:=lineOf_le (c::r)
    rcases List.mem_cons.1 h with rfl|h
    · exact this.1
    · exact Nat.le_trans (lines_len n _ h) this.2
/-- what a text comes to -/
def parseR(ev:List UInt8→Bool)(s:List UInt8):List (List UInt8)⊕Nat×Int:=
  if 65536<s.length then .inr (0,3) else match parseT ev s with
    | .inl bs=> .inl bs
    | .inr k=> .inr (k,5)
def EvVG(b:List UInt8)(cs:List AV)(s:St):Prop:=EvV s cs (evRead b)∧EvGood (evRead b)
theorem parse_ok{st:St}{s:List UInt8}(hw:st.wf)(hl:st.lock= [])(hgl:Tabs st)(herr:ErrV st)(hs:s.length≤1000000000):
    ∃L n f z,obC 10 [sb s] st (.tup [L,i64 n,i64 f]) z∧Rest st z []∧match parseR evOK s with
      | .inl bs=>n=0∧f=0∧(∃css,Ls z 54 5 L css.length css.flatten∧AllV EvV z css (bs.map evRead))∧(∀e∈bs.map evRead,EvGood e)∧parseT evOK s= .inl bs∧s.length≤65536
      | .inr (k,e)=>L= .nils∧n=(k:Int)∧f=e:=by
  unfold parseR
  by_cases hlong:65536<s.length
  · obtain ⟨z,h1,h2⟩:=parsed_long hw hl hlong (by omega)
    rw [if_pos hlong]
    exact ⟨.nils,0,3,z,f10 h1,h2,rfl,rfl,rfl⟩
  · rw [if_neg hlong]
    obtain ⟨r,z,h1,h2,h3⟩:=parsed_ok (s:=s) (V:=EvVG) (ev:=evOK) hw hl (by omega) (fun b hb σ hσ=>by
      have hbl:b.length≤s.length:=lines_len _ _ hb
      obtain ⟨d,p,s',c1,c2,c3,c4,c5,c6,c7⟩:=event_ok hσ.wf (hσ.lock.trans hl) (hgl.rest hσ) (herr.rest hσ) (s:=b) (Nat.le_trans hbl (by omega))
      exact ⟨_,_,_,_,_,s',c1,c2,fun _=>⟨⟨d,p,rfl,c3.bs,c4.ns⟩,c5,c6,c7⟩⟩)
    unfold parseT
    cases hp:parseF evOK (s.length+1) s [] with
    |inl bs=>
      rw [hp] at h3
      obtain ⟨L,css,rfl,hL,⟨hV1,hV2⟩,hfr⟩:=h3
      have hq:∀(i:Nat) b,bs[i]? =some b→∃c,css[i]? =some c∧EvV z c (evRead b)∧EvGood (evRead b):=fun i b hb=>by
        have hi:i<css.length:=by rw [hV1];exact (List.getElem?_eq_some_iff.1 hb).1
        have hc:css[i]? =some (css[i]'hi):=List.getElem?_eq_getElem hi
        obtain ⟨_,s',hv,hk⟩:=hV2 i b _ hb hc
        exact ⟨_,hc,hv.1.k5 hk,hv.2⟩
      refine ⟨L,0,0,z,f10 h1,h2,rfl,rfl,⟨css,by rw [hV1];exact hL,by rw [List.length_map,hV1],fun i c e hc he=> ?_⟩,fun e he=> ?_,rfl,by omega⟩
      · rw [List.getElem?_map] at he
        obtain ⟨b,hb,rfl⟩:=Option.map_eq_some_iff.1 he
        obtain ⟨c',hc',hv,_⟩:=hq i b hb
        rw [hc] at hc'
        cases hc'
        exact hv
      · obtain ⟨b,hb,rfl⟩:=List.mem_map.1 he
        obtain ⟨i,hi⟩:=List.mem_iff_getElem?.1 hb
        obtain ⟨_,_,_,hgd⟩:=hq i b hi
        exact hgd
    |inr k=>
      rw [hp] at h3
      subst h3
      exact ⟨.nils,(k:Int),5,z,f10 h1,h2,rfl,rfl,rfl⟩
def RwVG(b:List UInt8)(cs:List AV)(s:St):Prop:=RwV s cs (rowRead b)∧RwGood (rowRead b)
theorem parserows_ok{st:St}{s:List UInt8}(hw:st.wf)(hl:st.lock= [])(hgl:Tabs st)(herr:ErrV st)(hs:s.length≤1000000000):
    ∃L n f z,obC 17 [sb s] st (.tup [L,i64 n,i64 f]) z∧Rest st z []∧match parseR rowOK s with
      | .inl bs=>n=0∧f=0∧(∃css,Ls z 70 6 L css.length css.flatten∧AllV RwV z css (bs.map rowRead))∧(∀e∈bs.map rowRead,RwGood e)∧parseT rowOK s= .inl bs∧s.length≤65536
      | .inr (k,e)=>L= .nils∧n=(k:Int)∧f=e:=by
  unfold parseR
  by_cases hlong:65536<s.length
  · obtain ⟨z,h1,h2⟩:=parsed_longr hw hl hlong (by omega)
    rw [if_pos hlong]
    exact ⟨.nils,0,3,z,f17 h1,h2,rfl,rfl,rfl⟩
  · rw [if_neg hlong]
    obtain ⟨r,z,h1,h2,h3⟩:=parsed_okr (s:=s) (V:=RwVG) (ev:=rowOK) hw hl (by omega) (fun b hb σ hσ=>by
      have hbl:b.length≤s.length:=lines_len _ _ hb
      obtain ⟨d,s',c1,c2,c3,c4,c5,c6⟩:=row_ok hσ.wf (hσ.lock.trans hl) (hgl.rest hσ) (herr.rest hσ) (s:=b) (Nat.le_trans hbl (by omega))
      exact ⟨_,_,_,_,_,_,s',c1,c2,fun _=>⟨⟨d,rfl,c3.bs⟩,c4,c5,c6⟩⟩)
    unfold parseT
    cases hp:parseF rowOK (s.length+1) s [] with
    |inl bs=>
      rw [hp] at h3
      obtain ⟨L,css,rfl,hL,⟨hV1,hV2⟩,hfr⟩:=h3
      have hq:∀(i:Nat) b,bs[i]? =some b→∃c,css[i]? =some c∧RwV z c (rowRead b)∧RwGood (rowRead b):=fun i b hb=>by
        have hi:i<css.length:=by rw [hV1];exact (List.getElem?_eq_some_iff.1 hb).1
        have hc:css[i]? =some (css[i]'hi):=List.getElem?_eq_getElem hi
        obtain ⟨_,s',hv,hk⟩:=hV2 i b _ hb hc
        exact ⟨_,hc,hv.1.k5 hk,hv.2⟩
      refine ⟨L,0,0,z,f17 h1,h2,rfl,rfl,⟨css,by rw [hV1];exact hL,by rw [List.length_map,hV1],fun i c e hc he=> ?_⟩,fun e he=> ?_,rfl,by omega⟩
      · rw [List.getElem?_map] at he
        obtain ⟨b,hb,rfl⟩:=Option.map_eq_some_iff.1 he
        obtain ⟨c',hc',hv,_⟩:=hq i b hb
        rw [hc] at hc'
        cases hc'
        exact hv
      · obtain ⟨b,hb,rfl⟩:=List.mem_map.1 he
        obtain ⟨i,hi⟩:=List.mem_iff_getElem?.1 hb
        obtain ⟨_,_,_,hgd⟩:=hq i b hi
        exact hgd
    |inr k=>
      rw [hp] at h3
      subst h3
      exact ⟨.nils,(k:Int),5,z,f17 h1,h2,rfl,rfl,rfl⟩
end
section
set_option maxRecDepth 100000
noncomputable def f5P(i:Nat):Code:=match Tryz.f5.body with
  |some (.seq x0 (.seq x1 (.seq (.seq x2 (.cond _ (.seq x3 (.seq x4 x5)) x6)) (.seq x7 (.seq (.seq x8 (.cond _ (.seq x9 (.seq x10 x11)) x12)) (.seq x13 (.seq (.seq x14 (.cond _ (.seq x15 x16) x17)) (.seq x18 (.seq (.seq x19 (.cond _ (.seq x20 x21) x22)) x23)))))))))=> [x0,x1,x2,x3,x4,x5,x6,x7,x8,x9,x10,x11,x12,x13,x14,x15,x16,x17,x18,x19,x20,x21,x22,x23].getD i .skip
  |_=> .skip
theorem f5body:Tryz.f5.body=some (.seq (f5P 0) (.seq (f5P 1) (.seq (.seq (f5P 2) (.cond (.tmp 30) (.seq (f5P 3) (.seq (f5P 4) (f5P 5))) (f5P 6))) (.seq (f5P 7) (.seq (.seq (f5P 8) (.cond (.tmp 72) (.seq (f5P 9) (.seq (f5P 10) (f5P 11))) (f5P 12))) (.seq (f5P 13) (.seq (.seq (f5P 14) (.cond (.tmp 115) (.seq (f5P 15) (f5P 16)) (f5P 17))) (.seq (f5P 18) (.seq (.seq (f5P 19) (.cond (.tmp 142) (.seq (f5P 20) (f5P 21)) (f5P 22))) (f5P 23)))))))))):=by kernel_rfl
def f5L0(T:Tm)(a0 a1 a2:AV):Prop:=T.n=168∧T.get 0=a0∧T.get 1=a1∧T.get 2=a2
theorem f5_0_e(l r:AV)(s:ByteArray)(st:St):((evS Tryz.prog E0 noOv noS 100000 [] (f5P 0) ⟨168,[(0,l),(1,r),(2,(str s))],[]⟩ st []).map fun q=>(q.1,q.2.1.n,([q.2.1.get 0,q.2.1.get 1,q.2.1.get 2]:List AV),q.2.2.1,q.2.2.2.2))=some (.normal,168,[l,r,(str s)],st,[]):=by kernel_rfl
theorem f5_0{l r:AV}{s:ByteArray}{st:St}{T:Tm}(hT:f5L0 T l r (str s)):AW Tryz.prog (f5P 0) (fun ex T' st'=>ex= .normal∧f5L0 T' l r (str s)∧st'=st) T st:=by
  obtain ⟨hn,g0,g1,g2⟩:=hT
  exact (gen_run (G:=fun T=>([T.get 0,T.get 1,T.get 2]:List AV)) hE (f5_0_e l r s st) Ob.ok_nil hn (conz g0 (conz g1 (one g2)))).mono fun ex T' st' ⟨q1,q2,q3,q4⟩=>by simp only [List.cons.injEq,and_true] at q3;exact ⟨q1,⟨q2,q3⟩,q4⟩
def f5L1(T:Tm)(a0 a1 a2 a7 a8:AV):Prop:=T.n=168∧T.get 0=a0∧T.get 1=a1∧T.get 2=a2∧T.get 7=a7∧T.get 8=a8
theorem f5_1_e(l r:AV)(s w26a:ByteArray)(st s1:St)(n26b:Int):((evS Tryz.prog E0 noOv noS 100000 [6007] (f5P 1) ⟨168,[(0,l),(1,r),(2,(str s))],[]⟩ st [.eff (.tup [(str w26a),(i64 n26b)]) (fun _=>s1)]).map fun q=>(q.1,q.2.1.n,([q.2.1.get 0,q.2.1.get 1,q.2.1.get 2,q.2.1.get 7,q.2.1.get 8]:List AV),q.2.2.1,q.2.2.2.2))=some (.normal,168,[l,r,(str s),(str w26a),(i64 n26b)],s1,[obC 7 [l] st (.tup [(str w26a),(i64 n26b)]) s1]):=by kernel_rfl
theorem f5_1{l r:AV}{s w26a:ByteArray}{st s1:St}{n26b:Int}(h1:obC 7 [l] st (.tup [(str w26a),(i64 n26b)]) s1){T:Tm}(hT:f5L0 T l r (str s)):AW Tryz.prog (f5P 1) (fun ex T' st'=>ex= .normal∧f5L1 T' l r (str s) (str w26a) (i64 n26b)∧st'=s1) T st:=by
  obtain ⟨hn,g0,g1,g2⟩:=hT
  exact (gen_run (G:=fun T=>([T.get 0,T.get 1,T.get 2,T.get 7,T.get 8]:List AV)) hE (f5_1_e l r s w26a st s1 n26b) (Ob.ok_cons.2 ⟨h1,Ob.ok_nil⟩) hn (conz g0 (conz g1 (one g2)))).mono fun ex T' st' ⟨q1,q2,q3,q4⟩=>by simp only [List.cons.injEq,and_true] at q3;exact ⟨q1,⟨q2,q3⟩,q4⟩
def f5L2(T:Tm)(a0 a1 a2 a7 a8 a30:AV):Prop:=T.n=168∧T.get 0=a0∧T.get 1=a1∧T.get 2=a2∧T.get 7=a7∧T.get 8=a8∧T.get 30=a30
theorem f5_2_T_e(l r:AV)(s a:ByteArray)(e:Int)(st:St):((evS Tryz.prog E0 noOv noS 100000 [7030] (f5P 2) ⟨168,[(0,l),(1,r),(2,(str s)),(7,(str a)),(8,(i64 e))],[]⟩ st [.av TT]).map fun q=>(q.1,q.2.1.n,([q.2.1.get 0,q.2.1.get 1,q.2.1.get 2,q.2.1.get 7,q.2.1.get 8,q.2.1.get 30]:List AV),q.2.2.1,q.2.2.2.2))=some (.normal,168,[l,r,(str s),(str a),(i64 e),TT],st,[binA E0 .eql 23 (i64 e) (i64 0)=some TT]):=by kernel_rfl
theorem f5_2_T{l r:AV}{s a:ByteArray}{e:Int}{st:St}(h1:binA E0 .eql 23 (i64 e) (i64 0)=some TT){T:Tm}(hT:f5L1 T l r (str s) (str a) (i64 e)):AW Tryz.prog (f5P 2) (fun ex T' st'=>ex= .normal∧f5L2 T' l r (str s) (str a) (i64 e) TT∧st'=st) T st:=by
  obtain ⟨hn,g0,g1,g2,g7,g8⟩:=hT
  exact (gen_run (G:=fun T=>([T.get 0,T.get 1,T.get 2,T.get 7,T.get 8,T.get 30]:List AV)) hE (f5_2_T_e l r s a e st) (Ob.ok_cons.2 ⟨h1,Ob.ok_nil⟩) hn (conz g0 (conz g1 (conz g2 (conz g7 (one g8)))))).mono fun ex T' st' ⟨q1,q2,q3,q4⟩=>by simp only [List.cons.injEq,and_true] at q3;exact ⟨q1,⟨q2,q3⟩,q4⟩
theorem f5_2_F_e(l r:AV)(s a:ByteArray)(e:Int)(st:St):((evS Tryz.prog E0 noOv noS 100000 [7030] (f5P 2) ⟨168,[(0,l),(1,r),(2,(str s)),(7,(str a)),(8,(i64 e))],[]⟩ st [.av FF]).map fun q=>(q.1,q.2.1.n,([q.2.1.get 0,q.2.1.get 1,q.2.1.get 2,q.2.1.get 7,q.2.1.get 8,q.2.1.get 30]:List AV),q.2.2.1,q.2.2.2.2))=some (.normal,168,[l,r,(str s),(str a),(i64 e),FF],st,[binA E0 .eql 23 (i64 e) (i64 0)=some FF]):=by kernel_rfl
theorem f5_2_F{l r:AV}{s a:ByteArray}{e:Int}{st:St}(h1:binA E0 .eql 23 (i64 e) (i64 0)=some FF){T:Tm}(hT:f5L1 T l r (str s) (str a) (i64 e)):AW Tryz.prog (f5P 2) (fun ex T' st'=>ex= .normal∧f5L2 T' l r (str s) (str a) (i64 e) FF∧st'=st) T st:=by
  obtain ⟨hn,g0,g1,g2,g7,g8⟩:=hT
  exact (gen_run (G:=fun T=>([T.get 0,T.get 1,T.get 2,T.get 7,T.get 8,T.get 30]:List AV)) hE (f5_2_F_e l r s a e st) (Ob.ok_cons.2 ⟨h1,Ob.ok_nil⟩) hn (conz g0 (conz g1 (conz g2 (conz g7 (one g8)))))).mono fun ex T' st' ⟨q1,q2,q3,q4⟩=>by simp only [List.cons.injEq,and_true] at q3;exact ⟨q1,⟨q2,q3⟩,q4⟩
def f5L3(T:Tm)(a0 a1 a2 a7:AV):Prop:=T.n=168∧T.get 0=a0∧T.get 1=a1∧T.get 2=a2∧T.get 7=a7
def f5L4(T:Tm)(a0 a1 a2 a7 a9 a10 a11:AV):Prop:=T.n=168∧T.get 0=a0∧T.get 1=a1∧T.get 2=a2∧T.get 7=a7∧T.get 9=a9∧T.get 10=a10∧T.get 11=a11
theorem f5_3_e(l r v33a:AV)(s a:ByteArray)(st s1:St)(n33b n33c:Int):((evS Tryz.prog E0 noOv noS 100000 [6010] (f5P 3) ⟨168,[(0,l),(1,r),(2,(str s)),(7,(str a))],[]⟩ st [.eff (.tup [v33a,(i64 n33b),(i64 n33c)]) (fun _=>s1)]).map fun q=>(q.1,q.2.1.n,([q.2.1.get 0,q.2.1.get 1,q.2.1.get 2,q.2.1.get 7,q.2.1.get 9,q.2.1.get 10,q.2.1.get 11]:List AV),q.2.2.1,q.2.2.2.2))=some (.normal,168,[l,r,(str s),(str a),v33a,(i64 n33b),(i64 n33c)],s1,[obC 10 [(str a)] st (.tup [v33a,(i64 n33b),(i64 n33c)]) s1]):=by kernel_rfl
theorem f5_3{l r v33a:AV}{s a:ByteArray}{st s1:St}{n33b n33c:Int}(h1:obC 10 [(str a)] st (.tup [v33a,(i64 n33b),(i64 n33c)]) s1){T:Tm}(hT:f5L3 T l r (str s) (str a)):AW Tryz.prog (f5P 3) (fun ex T' st'=>ex= .normal∧f5L4 T' l r (str s) (str a) v33a (i64 n33b) (i64 n33c)∧st'=s1) T st:=by
  obtain ⟨hn,g0,g1,g2,g7⟩:=hT
  exact (gen_run (G:=fun T=>([T.get 0,T.get 1,T.get 2,T.get 7,T.get 9,T.get 10,T.get 11]:List AV)) hE (f5_3_e l r v33a s a st s1 n33b n33c) (Ob.ok_cons.2 ⟨h1,Ob.ok_nil⟩) hn (conz g0 (conz g1 (conz g2 (one g7))))).mono fun ex T' st' ⟨q1,q2,q3,q4⟩=>by simp only [List.cons.injEq,and_true] at q3;exact ⟨q1,⟨q2,q3⟩,q4⟩
def f5L5(T:Tm)(a1 a2 a55:AV):Prop:=T.n=168∧T.get 1=a1∧T.get 2=a2∧T.get 55=a55
theorem f5_4_FFTF_e(l r x v45 v47:AV)(s a:ByteArray)(n f n53:Int)(st s1 s2 s3:St):((evS Tryz.prog E0 noOv noS 100000 [6009,6012,7038,7041,7053,7054] (f5P 4) ⟨168,[(0,l),(1,r),(2,(str s)),(7,(str a)),(9,x),(10,(i64 n)),(11,(i64 f))],[]⟩ st [.av FF,.av FF,.eff v45 (fun _=>s1),.eff v47 (fun _=>s2),.eff TT (fun _=>s3),.av (i64 n53),.av FF]).map fun q=>(q.1,q.2.1.n,([q.2.1.get 1,q.2.1.get 2,q.2.1.get 55]:List AV),q.2.2.1,q.2.2.2.2))=some (.normal,168,[r,(str s),FF],s3,[binA E0 .neq 23 (i64 f) (i64 0)=some FF,binA E0 .neq 3 (i64 n) (i64 0)=some FF,obC 9 [x] st v45 s1,obC 9 [l] s1 v47 s2,obC 12 [v45,v47] s2 TT s3,lenA E0 9 (str a)=some (i64 n53),binA E0 .gtr 3 (i64 n53) (i64 65536)=some FF]):=by kernel_rfl
theorem f5_4_FFTF{l r x v45 v47:AV}{s a:ByteArray}{n f n53:Int}{st s1 s2 s3:St}(h1:binA E0 .neq 23 (i64 f) (i64 0)=some FF)(h2:binA E0 .neq 3 (i64 n) (i64 0)=some FF)(h3:obC 9 [x] st v45 s1)(h4:obC 9 [l] s1 v47 s2)(h5:obC 12 [v45,v47] s2 TT s3)(h6:lenA E0 9 (str a)=some (i64 n53))(h7:binA E0 .gtr 3 (i64 n53) (i64 65536)=some FF){T:Tm}(hT:f5L4 T l r (str s) (str a) x (i64 n) (i64 f)):AW Tryz.prog (f5P 4) (fun ex T' st'=>ex= .normal∧f5L5 T' r (str s) FF∧st'=s3) T st:=by
  obtain ⟨hn,g0,g1,g2,g7,g9,g10,g11⟩:=hT
  exact (gen_run (G:=fun T=>([T.get 1,T.get 2,T.get 55]:List AV)) hE (f5_4_FFTF_e l r x v45 v47 s a n f n53 st s1 s2 s3) (Ob.ok_cons.2 ⟨h1,(Ob.ok_cons.2 ⟨h2,(Ob.ok_cons.2 ⟨h3,(Ob.ok_cons.2 ⟨h4,(Ob.ok_cons.2 ⟨h5,(Ob.ok_cons.2 ⟨h6,(Ob.ok_cons.2 ⟨h7,Ob.ok_nil⟩)⟩)⟩)⟩)⟩)⟩)⟩) hn (conz g0 (conz g1 (conz g2 (conz g7 (conz g9 (conz g10 (one g11)))))))).mono fun ex T' st' ⟨q1,q2,q3,q4⟩=>by simp only [List.cons.injEq,and_true] at q3;exact ⟨q1,⟨q2,q3⟩,q4⟩
def f5L6(T:Tm)(a6:AV):Prop:=T.n=168∧T.get 6=a6
def f5L7(T:Tm)(a1 a2:AV):Prop:=T.n=168∧T.get 1=a1∧T.get 2=a2
theorem f5_5_F_e(r:AV)(s:ByteArray)(st:St):((evS Tryz.prog E0 noOv noS 100000 [] (f5P 5) ⟨168,[(1,r),(2,(str s)),(55,FF)],[]⟩ st []).map fun q=>(q.1,q.2.1.n,([q.2.1.get 1,q.2.1.get 2]:List AV),q.2.2.1,q.2.2.2.2))=some (.normal,168,[r,(str s)],st,[]):=by kernel_rfl
theorem f5_5_F{r:AV}{s:ByteArray}{st:St}{T:Tm}(hT:f5L5 T r (str s) FF):AW Tryz.prog (f5P 5) (fun ex T' st'=>ex= .normal∧f5L7 T' r (str s)∧st'=st) T st:=by
  obtain ⟨hn,g1,g2,g55⟩:=hT
  exact (gen_run (G:=fun T=>([T.get 1,T.get 2]:List AV)) hE (f5_5_F_e r s st) Ob.ok_nil hn (conz g1 (conz g2 (one g55)))).mono fun ex T' st' ⟨q1,q2,q3,q4⟩=>by simp only [List.cons.injEq,and_true] at q3;exact ⟨q1,⟨q2,q3⟩,q4⟩
def f5L8(T:Tm)(a1 a2 a7 a8:AV):Prop:=T.n=168∧T.get 1=a1∧T.get 2=a2∧T.get 7=a7∧T.get 8=a8
theorem f5_6_FTF_e(r:AV)(s a:ByteArray)(e:Int)(st:St):((evS Tryz.prog E0 noOv noS 100000 [7057,7060,7063] (f5P 6) ⟨168,[(1,r),(2,(str s)),(7,(str a)),(8,(i64 e))],[]⟩ st [.av FF,.av TT,.av FF]).map fun q=>(q.1,q.2.1.n,([q.2.1.get 1,q.2.1.get 2]:List AV),q.2.2.1,q.2.2.2.2))=some (.normal,168,[r,(str s)],st,[binA E0 .neq 9 (str a) (str ⟨#[]⟩)=some FF,binA E0 .neq 23 (i64 e) (i64 1)=some TT,binA E0 .neq 23 (i64 e) (i64 3)=some FF]):=by kernel_rfl
theorem f5_6_FTF{r:AV}{s a:ByteArray}{e:Int}{st:St}(h1:binA E0 .neq 9 (str a) (str ⟨#[]⟩)=some FF)(h2:binA E0 .neq 23 (i64 e) (i64 1)=some TT)(h3:binA E0 .neq 23 (i64 e) (i64 3)=some FF){T:Tm}(hT:f5L8 T r (str s) (str a) (i64 e)):AW Tryz.prog (f5P 6) (fun ex T' st'=>ex= .normal∧f5L7 T' r (str s)∧st'=st) T st:=by
  obtain ⟨hn,g1,g2,g7,g8⟩:=hT
  exact (gen_run (G:=fun T=>([T.get 1,T.get 2]:List AV)) hE (f5_6_FTF_e r s a e st) (Ob.ok_cons.2 ⟨h1,(Ob.ok_cons.2 ⟨h2,(Ob.ok_cons.2 ⟨h3,Ob.ok_nil⟩)⟩)⟩) hn (conz g1 (conz g2 (conz g7 (one g8))))).mono fun ex T' st' ⟨q1,q2,q3,q4⟩=>by simp only [List.cons.injEq,and_true] at q3;exact ⟨q1,⟨q2,q3⟩,q4⟩
theorem f5_6_FF_e(r:AV)(s a:ByteArray)(e:Int)(st:St):((evS Tryz.prog E0 noOv noS 100000 [7057,7060,7063] (f5P 6) ⟨168,[(1,r),(2,(str s)),(7,(str a)),(8,(i64 e))],[]⟩ st [.av FF,.av FF]).map fun q=>(q.1,q.2.1.n,([q.2.1.get 1,q.2.1.get 2]:List AV),q.2.2.1,q.2.2.2.2))=some (.normal,168,[r,(str s)],st,[binA E0 .neq 9 (str a) (str ⟨#[]⟩)=some FF,binA E0 .neq 23 (i64 e) (i64 1)=some FF]):=by kernel_rfl
theorem f5_6_FF{r:AV}{s a:ByteArray}{e:Int}{st:St}(h1:binA E0 .neq 9 (str a) (str ⟨#[]⟩)=some FF)(h2:binA E0 .neq 23 (i64 e) (i64 1)=some FF){T:Tm}(hT:f5L8 T r (str s) (str a) (i64 e)):AW Tryz.prog (f5P 6) (fun ex T' st'=>ex= .normal∧f5L7 T' r (str s)∧st'=st) T st:=by
  obtain ⟨hn,g1,g2,g7,g8⟩:=hT
  exact (gen_run (G:=fun T=>([T.get 1,T.get 2]:List AV)) hE (f5_6_FF_e r s a e st) (Ob.ok_cons.2 ⟨h1,(Ob.ok_cons.2 ⟨h2,Ob.ok_nil⟩)⟩) hn (conz g1 (conz g2 (conz g7 (one g8))))).mono fun ex T' st' ⟨q1,q2,q3,q4⟩=>by simp only [List.cons.injEq,and_true] at q3;exact ⟨q1,⟨q2,q3⟩,q4⟩
def f5L9(T:Tm)(a1 a2 a8 a12:AV):Prop:=T.n=168∧T.get 1=a1∧T.get 2=a2∧T.get 8=a8∧T.get 12=a12
theorem f5_7_e(r:AV)(s w68a:ByteArray)(st s1:St)(n68b:Int):((evS Tryz.prog E0 noOv noS 100000 [6014] (f5P 7) ⟨168,[(1,r),(2,(str s))],[]⟩ st [.eff (.tup [(str w68a),(i64 n68b)]) (fun _=>s1)]).map fun q=>(q.1,q.2.1.n,([q.2.1.get 1,q.2.1.get 2,q.2.1.get 8,q.2.1.get 12]:List AV),q.2.2.1,q.2.2.2.2))=some (.normal,168,[r,(str s),(i64 n68b),(str w68a)],s1,[obC 14 [r] st (.tup [(str w68a),(i64 n68b)]) s1]):=by kernel_rfl
theorem f5_7{r:AV}{s w68a:ByteArray}{st s1:St}{n68b:Int}(h1:obC 14 [r] st (.tup [(str w68a),(i64 n68b)]) s1){T:Tm}(hT:f5L7 T r (str s)):AW Tryz.prog (f5P 7) (fun ex T' st'=>ex= .normal∧f5L9 T' r (str s) (i64 n68b) (str w68a)∧st'=s1) T st:=by
  obtain ⟨hn,g1,g2⟩:=hT
  exact (gen_run (G:=fun T=>([T.get 1,T.get 2,T.get 8,T.get 12]:List AV)) hE (f5_7_e r s w68a st s1 n68b) (Ob.ok_cons.2 ⟨h1,Ob.ok_nil⟩) hn (conz g1 (one g2))).mono fun ex T' st' ⟨q1,q2,q3,q4⟩=>by simp only [List.cons.injEq,and_true] at q3;exact ⟨q1,⟨q2,q3⟩,q4⟩
def f5L10(T:Tm)(a1 a2 a8 a12 a72:AV):Prop:=T.n=168∧T.get 1=a1∧T.get 2=a2∧T.get 8=a8∧T.get 12=a12∧T.get 72=a72
theorem f5_8_T_e(r:AV)(s b:ByteArray)(e:Int)(st:St):((evS Tryz.prog E0 noOv noS 100000 [7072] (f5P 8) ⟨168,[(1,r),(2,(str s)),(8,(i64 e)),(12,(str b))],[]⟩ st [.av TT]).map fun q=>(q.1,q.2.1.n,([q.2.1.get 1,q.2.1.get 2,q.2.1.get 8,q.2.1.get 12,q.2.1.get 72]:List AV),q.2.2.1,q.2.2.2.2))=some (.normal,168,[r,(str s),(i64 e),(str b),TT],st,[binA E0 .eql 23 (i64 e) (i64 0)=some TT]):=by kernel_rfl
theorem f5_8_T{r:AV}{s b:ByteArray}{e:Int}{st:St}(h1:binA E0 .eql 23 (i64 e) (i64 0)=some TT){T:Tm}(hT:f5L9 T r (str s) (i64 e) (str b)):AW Tryz.prog (f5P 8) (fun ex T' st'=>ex= .normal∧f5L10 T' r (str s) (i64 e) (str b) TT∧st'=st) T st:=by
  obtain ⟨hn,g1,g2,g8,g12⟩:=hT
  exact (gen_run (G:=fun T=>([T.get 1,T.get 2,T.get 8,T.get 12,T.get 72]:List AV)) hE (f5_8_T_e r s b e st) (Ob.ok_cons.2 ⟨h1,Ob.ok_nil⟩) hn (conz g1 (conz g2 (conz g8 (one g12))))).mono fun ex T' st' ⟨q1,q2,q3,q4⟩=>by simp only [List.cons.injEq,and_true] at q3;exact ⟨q1,⟨q2,q3⟩,q4⟩
theorem f5_8_F_e(r:AV)(s b:ByteArray)(e:Int)(st:St):((evS Tryz.prog E0 noOv noS 100000 [7072] (f5P 8) ⟨168,[(1,r),(2,(str s)),(8,(i64 e)),(12,(str b))],[]⟩ st [.av FF]).map fun q=>(q.1,q.2.1.n,([q.2.1.get 1,q.2.1.get 2,q.2.1.get 8,q.2.1.get 12,q.2.1.get 72]:List AV),q.2.2.1,q.2.2.2.2))=some (.normal,168,[r,(str s),(i64 e),(str b),FF],st,[binA E0 .eql 23 (i64 e) (i64 0)=some FF]):=by kernel_rfl
theorem f5_8_F{r:AV}{s b:ByteArray}{e:Int}{st:St}(h1:binA E0 .eql 23 (i64 e) (i64 0)=some FF){T:Tm}(hT:f5L9 T r (str s) (i64 e) (str b)):AW Tryz.prog (f5P 8) (fun ex T' st'=>ex= .normal∧f5L10 T' r (str s) (i64 e) (str b) FF∧st'=st) T st:=by
  obtain ⟨hn,g1,g2,g8,g12⟩:=hT
  exact (gen_run (G:=fun T=>([T.get 1,T.get 2,T.get 8,T.get 12,T.get 72]:List AV)) hE (f5_8_F_e r s b e st) (Ob.ok_cons.2 ⟨h1,Ob.ok_nil⟩) hn (conz g1 (conz g2 (conz g8 (one g12))))).mono fun ex T' st' ⟨q1,q2,q3,q4⟩=>by simp only [List.cons.injEq,and_true] at q3;exact ⟨q1,⟨q2,q3⟩,q4⟩
def f5L11(T:Tm)(a1 a2 a12:AV):Prop:=T.n=168∧T.get 1=a1∧T.get 2=a2∧T.get 12=a12
def f5L12(T:Tm)(a1 a2 a12 a13 a14 a15:AV):Prop:=T.n=168∧T.get 1=a1∧T.get 2=a2∧T.get 12=a12∧T.get 13=a13∧T.get 14=a14∧T.get 15=a15
theorem f5_9_e(r v75a:AV)(s b:ByteArray)(st s1:St)(n75b n75c:Int):((evS Tryz.prog E0 noOv noS 100000 [6017] (f5P 9) ⟨168,[(1,r),(2,(str s)),(12,(str b))],[]⟩ st [.eff (.tup [v75a,(i64 n75b),(i64 n75c)]) (fun _=>s1)]).map fun q=>(q.1,q.2.1.n,([q.2.1.get 1,q.2.1.get 2,q.2.1.get 12,q.2.1.get 13,q.2.1.get 14,q.2.1.get 15]:List AV),q.2.2.1,q.2.2.2.2))=some (.normal,168,[r,(str s),(str b),v75a,(i64 n75b),(i64 n75c)],s1,[obC 17 [(str b)] st (.tup [v75a,(i64 n75b),(i64 n75c)]) s1]):=by kernel_rfl
theorem f5_9{r v75a:AV}{s b:ByteArray}{st s1:St}{n75b n75c:Int}(h1:obC 17 [(str b)] st (.tup [v75a,(i64 n75b),(i64 n75c)]) s1){T:Tm}(hT:f5L11 T r (str s) (str b)):AW Tryz.prog (f5P 9) (fun ex T' st'=>ex= .normal∧f5L12 T' r (str s) (str b) v75a (i64 n75b) (i64 n75c)∧st'=s1) T st:=by
  obtain ⟨hn,g1,g2,g12⟩:=hT
  exact (gen_run (G:=fun T=>([T.get 1,T.get 2,T.get 12,T.get 13,T.get 14,T.get 15]:List AV)) hE (f5_9_e r v75a s b st s1 n75b n75c) (Ob.ok_cons.2 ⟨h1,Ob.ok_nil⟩) hn (conz g1 (conz g2 (one g12)))).mono fun ex T' st' ⟨q1,q2,q3,q4⟩=>by simp only [List.cons.injEq,and_true] at q3;exact ⟨q1,⟨q2,q3⟩,q4⟩
def f5L13(T:Tm)(a2 a97:AV):Prop:=T.n=168∧T.get 2=a2∧T.get 97=a97
theorem f5_10_FFTF_e(r y v87 v89:AV)(s b:ByteArray)(m h n95:Int)(st s1 s2 s3:St):((evS Tryz.prog E0 noOv noS 100000 [6016,6019,7080,7083,7095,7096] (f5P 10) ⟨168,[(1,r),(2,(str s)),(12,(str b)),(13,y),(14,(i64 m)),(15,(i64 h))],[]⟩ st [.av FF,.av FF,.eff v87 (fun _=>s1),.eff v89 (fun _=>s2),.eff TT (fun _=>s3),.av (i64 n95),.av FF]).map fun q=>(q.1,q.2.1.n,([q.2.1.get 2,q.2.1.get 97]:List AV),q.2.2.1,q.2.2.2.2))=some (.normal,168,[(str s),FF],s3,[binA E0 .neq 23 (i64 h) (i64 0)=some FF,binA E0 .neq 3 (i64 m) (i64 0)=some FF,obC 16 [y] st v87 s1,obC 16 [r] s1 v89 s2,obC 19 [v87,v89] s2 TT s3,lenA E0 9 (str b)=some (i64 n95),binA E0 .gtr 3 (i64 n95) (i64 65536)=some FF]):=by kernel_rfl
theorem f5_10_FFTF{r y v87 v89:AV}{s b:ByteArray}{m h n95:Int}{st s1 s2 s3:St}(h1:binA E0 .neq 23 (i64 h) (i64 0)=some FF)(h2:binA E0 .neq 3 (i64 m) (i64 0)=some FF)(h3:obC 16 [y] st v87 s1)(h4:obC 16 [r] s1 v89 s2)(h5:obC 19 [v87,v89] s2 TT s3)(h6:lenA E0 9 (str b)=some (i64 n95))(h7:binA E0 .gtr 3 (i64 n95) (i64 65536)=some FF){T:Tm}(hT:f5L12 T r (str s) (str b) y (i64 m) (i64 h)):AW Tryz.prog (f5P 10) (fun ex T' st'=>ex= .normal∧f5L13 T' (str s) FF∧st'=s3) T st:=by
  obtain ⟨hn,g1,g2,g12,g13,g14,g15⟩:=hT
  exact (gen_run (G:=fun T=>([T.get 2,T.get 97]:List AV)) hE (f5_10_FFTF_e r y v87 v89 s b m h n95 st s1 s2 s3) (Ob.ok_cons.2 ⟨h1,(Ob.ok_cons.2 ⟨h2,(Ob.ok_cons.2 ⟨h3,(Ob.ok_cons.2 ⟨h4,(Ob.ok_cons.2 ⟨h5,(Ob.ok_cons.2 ⟨h6,(Ob.ok_cons.2 ⟨h7,Ob.ok_nil⟩)⟩)⟩)⟩)⟩)⟩)⟩) hn (conz g1 (conz g2 (conz g12 (conz g13 (conz g14 (one g15))))))).mono fun ex T' st' ⟨q1,q2,q3,q4⟩=>by simp only [List.cons.injEq,and_true] at q3;exact ⟨q1,⟨q2,q3⟩,q4⟩
def f5L14(T:Tm)(a2:AV):Prop:=T.n=168∧T.get 2=a2
theorem f5_11_F_e(s:ByteArray)(st:St):((evS Tryz.prog E0 noOv noS 100000 [] (f5P 11) ⟨168,[(2,(str s)),(97,FF)],[]⟩ st []).map fun q=>(q.1,q.2.1.n,([q.2.1.get 2]:List AV),q.2.2.1,q.2.2.2.2))=some (.normal,168,[(str s)],st,[]):=by kernel_rfl
theorem f5_11_F{s:ByteArray}{st:St}{T:Tm}(hT:f5L13 T (str s) FF):AW Tryz.prog (f5P 11) (fun ex T' st'=>ex= .normal∧f5L14 T' (str s)∧st'=st) T st:=by
  obtain ⟨hn,g2,g97⟩:=hT
  exact (gen_run (G:=fun T=>([T.get 2]:List AV)) hE (f5_11_F_e s st) Ob.ok_nil hn (conz g2 (one g97))).mono fun ex T' st' ⟨q1,q2,q3,q4⟩=>by simp only [List.cons.injEq,and_true] at q3;exact ⟨q1,⟨q2,q3⟩,q4⟩
def f5L15(T:Tm)(a2 a8 a12:AV):Prop:=T.n=168∧T.get 2=a2∧T.get 8=a8∧T.get 12=a12
theorem f5_12_FTF_e(s b:ByteArray)(e:Int)(st:St):((evS Tryz.prog E0 noOv noS 100000 [7099,7102,7105] (f5P 12) ⟨168,[(2,(str s)),(8,(i64 e)),(12,(str b))],[]⟩ st [.av FF,.av TT,.av FF]).map fun q=>(q.1,q.2.1.n,([q.2.1.get 2]:List AV),q.2.2.1,q.2.2.2.2))=some (.normal,168,[(str s)],st,[binA E0 .neq 9 (str b) (str ⟨#[]⟩)=some FF,binA E0 .neq 23 (i64 e) (i64 1)=some TT,binA E0 .neq 23 (i64 e) (i64 3)=some FF]):=by kernel_rfl
theorem f5_12_FTF{s b:ByteArray}{e:Int}{st:St}(h1:binA E0 .neq 9 (str b) (str ⟨#[]⟩)=some FF)(h2:binA E0 .neq 23 (i64 e) (i64 1)=some TT)(h3:binA E0 .neq 23 (i64 e) (i64 3)=some FF){T:Tm}(hT:f5L15 T (str s) (i64 e) (str b)):AW Tryz.prog (f5P 12) (fun ex T' st'=>ex= .normal∧f5L14 T' (str s)∧st'=st) T st:=by
  obtain ⟨hn,g2,g8,g12⟩:=hT
  exact (gen_run (G:=fun T=>([T.get 2]:List AV)) hE (f5_12_FTF_e s b e st) (Ob.ok_cons.2 ⟨h1,(Ob.ok_cons.2 ⟨h2,(Ob.ok_cons.2 ⟨h3,Ob.ok_nil⟩)⟩)⟩) hn (conz g2 (conz g8 (one g12)))).mono fun ex T' st' ⟨q1,q2,q3,q4⟩=>by simp only [List.cons.injEq,and_true] at q3;exact ⟨q1,⟨q2,q3⟩,q4⟩
theorem f5_12_FF_e(s b:ByteArray)(e:Int)(st:St):((evS Tryz.prog E0 noOv noS 100000 [7099,7102,7105] (f5P 12) ⟨168,[(2,(str s)),(8,(i64 e)),(12,(str b))],[]⟩ st [.av FF,.av FF]).map fun q=>(q.1,q.2.1.n,([q.2.1.get 2]:List AV),q.2.2.1,q.2.2.2.2))=some (.normal,168,[(str s)],st,[binA E0 .neq 9 (str b) (str ⟨#[]⟩)=some FF,binA E0 .neq 23 (i64 e) (i64 1)=some FF]):=by kernel_rfl
theorem f5_12_FF{s b:ByteArray}{e:Int}{st:St}(h1:binA E0 .neq 9 (str b) (str ⟨#[]⟩)=some FF)(h2:binA E0 .neq 23 (i64 e) (i64 1)=some FF){T:Tm}(hT:f5L15 T (str s) (i64 e) (str b)):AW Tryz.prog (f5P 12) (fun ex T' st'=>ex= .normal∧f5L14 T' (str s)∧st'=st) T st:=by
  obtain ⟨hn,g2,g8,g12⟩:=hT
  exact (gen_run (G:=fun T=>([T.get 2]:List AV)) hE (f5_12_FF_e s b e st) (Ob.ok_cons.2 ⟨h1,(Ob.ok_cons.2 ⟨h2,Ob.ok_nil⟩)⟩) hn (conz g2 (conz g8 (one g12)))).mono fun ex T' st' ⟨q1,q2,q3,q4⟩=>by simp only [List.cons.injEq,and_true] at q3;exact ⟨q1,⟨q2,q3⟩,q4⟩
def f5L16(T:Tm)(a2 a16 a17 a18:AV):Prop:=T.n=168∧T.get 2=a2∧T.get 16=a16∧T.get 17=a17∧T.get 18=a18
theorem f5_13_e(s:ByteArray)(st s1:St)(v110a:AV)(n110b n110c:Int):((evS Tryz.prog E0 noOv noS 100000 [6010] (f5P 13) ⟨168,[(2,(str s))],[]⟩ st [.eff (.tup [v110a,(i64 n110b),(i64 n110c)]) (fun _=>s1)]).map fun q=>(q.1,q.2.1.n,([q.2.1.get 2,q.2.1.get 16,q.2.1.get 17,q.2.1.get 18]:List AV),q.2.2.1,q.2.2.2.2))=some (.normal,168,[(str s),v110a,(i64 n110b),(i64 n110c)],s1,[obC 10 [(str s)] st (.tup [v110a,(i64 n110b),(i64 n110c)]) s1]):=by kernel_rfl
theorem f5_13{s:ByteArray}{st s1:St}{v110a:AV}{n110b n110c:Int}(h1:obC 10 [(str s)] st (.tup [v110a,(i64 n110b),(i64 n110c)]) s1){T:Tm}(hT:f5L14 T (str s)):AW Tryz.prog (f5P 13) (fun ex T' st'=>ex= .normal∧f5L16 T' (str s) v110a (i64 n110b) (i64 n110c)∧st'=s1) T st:=by
  obtain ⟨hn,g2⟩:=hT
  exact (gen_run (G:=fun T=>([T.get 2,T.get 16,T.get 17,T.get 18]:List AV)) hE (f5_13_e s st s1 v110a n110b n110c) (Ob.ok_cons.2 ⟨h1,Ob.ok_nil⟩) hn (one g2)).mono fun ex T' st' ⟨q1,q2,q3,q4⟩=>by simp only [List.cons.injEq,and_true] at q3;exact ⟨q1,⟨q2,q3⟩,q4⟩
def f5L17(T:Tm)(a2 a16 a17 a115:AV):Prop:=T.n=168∧T.get 2=a2∧T.get 16=a16∧T.get 17=a17∧T.get 115=a115
theorem f5_14_T_e(s:ByteArray)(u:AV)(o i:Int)(st:St):((evS Tryz.prog E0 noOv noS 100000 [7115] (f5P 14) ⟨168,[(2,(str s)),(16,u),(17,(i64 o)),(18,(i64 i))],[]⟩ st [.av TT]).map fun q=>(q.1,q.2.1.n,([q.2.1.get 2,q.2.1.get 16,q.2.1.get 17,q.2.1.get 115]:List AV),q.2.2.1,q.2.2.2.2))=some (.normal,168,[(str s),u,(i64 o),TT],st,[binA E0 .eql 23 (i64 i) (i64 0)=some TT]):=by kernel_rfl
theorem f5_14_T{s:ByteArray}{u:AV}{o i:Int}{st:St}(h1:binA E0 .eql 23 (i64 i) (i64 0)=some TT){T:Tm}(hT:f5L16 T (str s) u (i64 o) (i64 i)):AW Tryz.prog (f5P 14) (fun ex T' st'=>ex= .normal∧f5L17 T' (str s) u (i64 o) TT∧st'=st) T st:=by
  obtain ⟨hn,g2,g16,g17,g18⟩:=hT
  exact (gen_run (G:=fun T=>([T.get 2,T.get 16,T.get 17,T.get 115]:List AV)) hE (f5_14_T_e s u o i st) (Ob.ok_cons.2 ⟨h1,Ob.ok_nil⟩) hn (conz g2 (conz g16 (conz g17 (one g18))))).mono fun ex T' st' ⟨q1,q2,q3,q4⟩=>by simp only [List.cons.injEq,and_true] at q3;exact ⟨q1,⟨q2,q3⟩,q4⟩
theorem f5_14_F_e(s:ByteArray)(u:AV)(o i:Int)(st:St):((evS Tryz.prog E0 noOv noS 100000 [7115] (f5P 14) ⟨168,[(2,(str s)),(16,u),(17,(i64 o)),(18,(i64 i))],[]⟩ st [.av FF]).map fun q=>(q.1,q.2.1.n,([q.2.1.get 2,q.2.1.get 16,q.2.1.get 17,q.2.1.get 115]:List AV),q.2.2.1,q.2.2.2.2))=some (.normal,168,[(str s),u,(i64 o),FF],st,[binA E0 .eql 23 (i64 i) (i64 0)=some FF]):=by kernel_rfl
theorem f5_14_F{s:ByteArray}{u:AV}{o i:Int}{st:St}(h1:binA E0 .eql 23 (i64 i) (i64 0)=some FF){T:Tm}(hT:f5L16 T (str s) u (i64 o) (i64 i)):AW Tryz.prog (f5P 14) (fun ex T' st'=>ex= .normal∧f5L17 T' (str s) u (i64 o) FF∧st'=st) T st:=by
  obtain ⟨hn,g2,g16,g17,g18⟩:=hT
  exact (gen_run (G:=fun T=>([T.get 2,T.get 16,T.get 17,T.get 115]:List AV)) hE (f5_14_F_e s u o i st) (Ob.ok_cons.2 ⟨h1,Ob.ok_nil⟩) hn (conz g2 (conz g16 (conz g17 (one g18))))).mono fun ex T' st' ⟨q1,q2,q3,q4⟩=>by simp only [List.cons.injEq,and_true] at q3;exact ⟨q1,⟨q2,q3⟩,q4⟩
def f5L18(T:Tm)(a2 a16 a17:AV):Prop:=T.n=168∧T.get 2=a2∧T.get 16=a16∧T.get 17=a17
def f5L19(T:Tm)(a2 a17 a19 a20:AV):Prop:=T.n=168∧T.get 2=a2∧T.get 17=a17∧T.get 19=a19∧T.get 20=a20
theorem f5_15_e(s w118a:ByteArray)(u:AV)(o n118b:Int)(st s1:St):((evS Tryz.prog E0 noOv noS 100000 [6007] (f5P 15) ⟨168,[(2,(str s)),(16,u),(17,(i64 o))],[]⟩ st [.eff (.tup [(str w118a),(i64 n118b)]) (fun _=>s1)]).map fun q=>(q.1,q.2.1.n,([q.2.1.get 2,q.2.1.get 17,q.2.1.get 19,q.2.1.get 20]:List AV),q.2.2.1,q.2.2.2.2))=some (.normal,168,[(str s),(i64 o),(str w118a),(i64 n118b)],s1,[obC 7 [u] st (.tup [(str w118a),(i64 n118b)]) s1]):=by kernel_rfl
theorem f5_15{s w118a:ByteArray}{u:AV}{o n118b:Int}{st s1:St}(h1:obC 7 [u] st (.tup [(str w118a),(i64 n118b)]) s1){T:Tm}(hT:f5L18 T (str s) u (i64 o)):AW Tryz.prog (f5P 15) (fun ex T' st'=>ex= .normal∧f5L19 T' (str s) (i64 o) (str w118a) (i64 n118b)∧st'=s1) T st:=by
  obtain ⟨hn,g2,g16,g17⟩:=hT
  exact (gen_run (G:=fun T=>([T.get 2,T.get 17,T.get 19,T.get 20]:List AV)) hE (f5_15_e s w118a u o n118b st s1) (Ob.ok_cons.2 ⟨h1,Ob.ok_nil⟩) hn (conz g2 (conz g16 (one g17)))).mono fun ex T' st' ⟨q1,q2,q3,q4⟩=>by simp only [List.cons.injEq,and_true] at q3;exact ⟨q1,⟨q2,q3⟩,q4⟩
theorem f5_16_FFF_e(s c:ByteArray)(o j:Int)(st:St):((evS Tryz.prog E0 noOv noS 100000 [7122,7125,7130] (f5P 16) ⟨168,[(2,(str s)),(17,(i64 o)),(19,(str c)),(20,(i64 j))],[]⟩ st [.av FF,.av FF,.av FF]).map fun q=>(q.1,q.2.1.n,([q.2.1.get 2]:List AV),q.2.2.1,q.2.2.2.2))=some (.normal,168,[(str s)],st,[binA E0 .neq 3 (i64 o) (i64 0)=some FF,binA E0 .neq 23 (i64 j) (i64 0)=some FF,binA E0 .neq 9 (str c) (str s)=some FF]):=by kernel_rfl
theorem f5_16_FFF{s c:ByteArray}{o j:Int}{st:St}(h1:binA E0 .neq 3 (i64 o) (i64 0)=some FF)(h2:binA E0 .neq 23 (i64 j) (i64 0)=some FF)(h3:binA E0 .neq 9 (str c) (str s)=some FF){T:Tm}(hT:f5L19 T (str s) (i64 o) (str c) (i64 j)):AW Tryz.prog (f5P 16) (fun ex T' st'=>ex= .normal∧f5L14 T' (str s)∧st'=st) T st:=by
  obtain ⟨hn,g2,g17,g19,g20⟩:=hT
  exact (gen_run (G:=fun T=>([T.get 2]:List AV)) hE (f5_16_FFF_e s c o j st) (Ob.ok_cons.2 ⟨h1,(Ob.ok_cons.2 ⟨h2,(Ob.ok_cons.2 ⟨h3,Ob.ok_nil⟩)⟩)⟩) hn (conz g2 (conz g17 (conz g19 (one g20))))).mono fun ex T' st' ⟨q1,q2,q3,q4⟩=>by simp only [List.cons.injEq,and_true] at q3;exact ⟨q1,⟨q2,q3⟩,q4⟩
def f5L20(T:Tm)(a2 a16:AV):Prop:=T.n=168∧T.get 2=a2∧T.get 16=a16
theorem f5_17_F_e(s:ByteArray)(u:AV)(st:St)(n133:Int):((evS Tryz.prog E0 noOv noS 100000 [7133,7134] (f5P 17) ⟨168,[(2,(str s)),(16,u)],[]⟩ st [.av (i64 n133),.av FF]).map fun q=>(q.1,q.2.1.n,([q.2.1.get 2]:List AV),q.2.2.1,q.2.2.2.2))=some (.normal,168,[(str s)],st,[lenA E0 22 u=some (i64 n133),binA E0 .gtr 3 (i64 n133) (i64 0)=some FF]):=by kernel_rfl
theorem f5_17_F{s:ByteArray}{u:AV}{st:St}{n133:Int}(h1:lenA E0 22 u=some (i64 n133))(h2:binA E0 .gtr 3 (i64 n133) (i64 0)=some FF){T:Tm}(hT:f5L20 T (str s) u):AW Tryz.prog (f5P 17) (fun ex T' st'=>ex= .normal∧f5L14 T' (str s)∧st'=st) T st:=by
  obtain ⟨hn,g2,g16⟩:=hT
  exact (gen_run (G:=fun T=>([T.get 2]:List AV)) hE (f5_17_F_e s u st n133) (Ob.ok_cons.2 ⟨h1,(Ob.ok_cons.2 ⟨h2,Ob.ok_nil⟩)⟩) hn (conz g2 (one g16))).mono fun ex T' st' ⟨q1,q2,q3,q4⟩=>by simp only [List.cons.injEq,and_true] at q3;exact ⟨q1,⟨q2,q3⟩,q4⟩
def f5L21(T:Tm)(a2 a17 a18 a21:AV):Prop:=T.n=168∧T.get 2=a2∧T.get 17=a17∧T.get 18=a18∧T.get 21=a21
theorem f5_18_e(s:ByteArray)(st s1:St)(v137a:AV)(n137b n137c:Int):((evS Tryz.prog E0 noOv noS 100000 [6017] (f5P 18) ⟨168,[(2,(str s))],[]⟩ st [.eff (.tup [v137a,(i64 n137b),(i64 n137c)]) (fun _=>s1)]).map fun q=>(q.1,q.2.1.n,([q.2.1.get 2,q.2.1.get 17,q.2.1.get 18,q.2.1.get 21]:List AV),q.2.2.1,q.2.2.2.2))=some (.normal,168,[(str s),(i64 n137b),(i64 n137c),v137a],s1,[obC 17 [(str s)] st (.tup [v137a,(i64 n137b),(i64 n137c)]) s1]):=by kernel_rfl
theorem f5_18{s:ByteArray}{st s1:St}{v137a:AV}{n137b n137c:Int}(h1:obC 17 [(str s)] st (.tup [v137a,(i64 n137b),(i64 n137c)]) s1){T:Tm}(hT:f5L14 T (str s)):AW Tryz.prog (f5P 18) (fun ex T' st'=>ex= .normal∧f5L21 T' (str s) (i64 n137b) (i64 n137c) v137a∧st'=s1) T st:=by
  obtain ⟨hn,g2⟩:=hT
  exact (gen_run (G:=fun T=>([T.get 2,T.get 17,T.get 18,T.get 21]:List AV)) hE (f5_18_e s st s1 v137a n137b n137c) (Ob.ok_cons.2 ⟨h1,Ob.ok_nil⟩) hn (one g2)).mono fun ex T' st' ⟨q1,q2,q3,q4⟩=>by simp only [List.cons.injEq,and_true] at q3;exact ⟨q1,⟨q2,q3⟩,q4⟩
def f5L22(T:Tm)(a2 a17 a21 a142:AV):Prop:=T.n=168∧T.get 2=a2∧T.get 17=a17∧T.get 21=a21∧T.get 142=a142
theorem f5_19_T_e(s:ByteArray)(o i:Int)(v:AV)(st:St):((evS Tryz.prog E0 noOv noS 100000 [7142] (f5P 19) ⟨168,[(2,(str s)),(17,(i64 o)),(18,(i64 i)),(21,v)],[]⟩ st [.av TT]).map fun q=>(q.1,q.2.1.n,([q.2.1.get 2,q.2.1.get 17,q.2.1.get 21,q.2.1.get 142]:List AV),q.2.2.1,q.2.2.2.2))=some (.normal,168,[(str s),(i64 o),v,TT],st,[binA E0 .eql 23 (i64 i) (i64 0)=some TT]):=by kernel_rfl
theorem f5_19_T{s:ByteArray}{o i:Int}{v:AV}{st:St}(h1:binA E0 .eql 23 (i64 i) (i64 0)=some TT){T:Tm}(hT:f5L21 T (str s) (i64 o) (i64 i) v):AW Tryz.prog (f5P 19) (fun ex T' st'=>ex= .normal∧f5L22 T' (str s) (i64 o) v TT∧st'=st) T st:=by
  obtain ⟨hn,g2,g17,g18,g21⟩:=hT
  exact (gen_run (G:=fun T=>([T.get 2,T.get 17,T.get 21,T.get 142]:List AV)) hE (f5_19_T_e s o i v st) (Ob.ok_cons.2 ⟨h1,Ob.ok_nil⟩) hn (conz g2 (conz g17 (conz g18 (one g21))))).mono fun ex T' st' ⟨q1,q2,q3,q4⟩=>by simp only [List.cons.injEq,and_true] at q3;exact ⟨q1,⟨q2,q3⟩,q4⟩
theorem f5_19_F_e(s:ByteArray)(o i:Int)(v:AV)(st:St):((evS Tryz.prog E0 noOv noS 100000 [7142] (f5P 19) ⟨168,[(2,(str s)),(17,(i64 o)),(18,(i64 i)),(21,v)],[]⟩ st [.av FF]).map fun q=>(q.1,q.2.1.n,([q.2.1.get 2,q.2.1.get 17,q.2.1.get 21,q.2.1.get 142]:List AV),q.2.2.1,q.2.2.2.2))=some (.normal,168,[(str s),(i64 o),v,FF],st,[binA E0 .eql 23 (i64 i) (i64 0)=some FF]):=by kernel_rfl
theorem f5_19_F{s:ByteArray}{o i:Int}{v:AV}{st:St}(h1:binA E0 .eql 23 (i64 i) (i64 0)=some FF){T:Tm}(hT:f5L21 T (str s) (i64 o) (i64 i) v):AW Tryz.prog (f5P 19) (fun ex T' st'=>ex= .normal∧f5L22 T' (str s) (i64 o) v FF∧st'=st) T st:=by
  obtain ⟨hn,g2,g17,g18,g21⟩:=hT
  exact (gen_run (G:=fun T=>([T.get 2,T.get 17,T.get 21,T.get 142]:List AV)) hE (f5_19_F_e s o i v st) (Ob.ok_cons.2 ⟨h1,Ob.ok_nil⟩) hn (conz g2 (conz g17 (conz g18 (one g21))))).mono fun ex T' st' ⟨q1,q2,q3,q4⟩=>by simp only [List.cons.injEq,and_true] at q3;exact ⟨q1,⟨q2,q3⟩,q4⟩
def f5L23(T:Tm)(a2 a17 a21:AV):Prop:=T.n=168∧T.get 2=a2∧T.get 17=a17∧T.get 21=a21
def f5L24(T:Tm)(a2 a17 a22 a23:AV):Prop:=T.n=168∧T.get 2=a2∧T.get 17=a17∧T.get 22=a22∧T.get 23=a23
theorem f5_20_e(s w145a:ByteArray)(o n145b:Int)(v:AV)(st s1:St):((evS Tryz.prog E0 noOv noS 100000 [6014] (f5P 20) ⟨168,[(2,(str s)),(17,(i64 o)),(21,v)],[]⟩ st [.eff (.tup [(str w145a),(i64 n145b)]) (fun _=>s1)]).map fun q=>(q.1,q.2.1.n,([q.2.1.get 2,q.2.1.get 17,q.2.1.get 22,q.2.1.get 23]:List AV),q.2.2.1,q.2.2.2.2))=some (.normal,168,[(str s),(i64 o),(str w145a),(i64 n145b)],s1,[obC 14 [v] st (.tup [(str w145a),(i64 n145b)]) s1]):=by kernel_rfl
theorem f5_20{s w145a:ByteArray}{o n145b:Int}{v:AV}{st s1:St}(h1:obC 14 [v] st (.tup [(str w145a),(i64 n145b)]) s1){T:Tm}(hT:f5L23 T (str s) (i64 o) v):AW Tryz.prog (f5P 20) (fun ex T' st'=>ex= .normal∧f5L24 T' (str s) (i64 o) (str w145a) (i64 n145b)∧st'=s1) T st:=by
  obtain ⟨hn,g2,g17,g21⟩:=hT
  exact (gen_run (G:=fun T=>([T.get 2,T.get 17,T.get 22,T.get 23]:List AV)) hE (f5_20_e s w145a o n145b v st s1) (Ob.ok_cons.2 ⟨h1,Ob.ok_nil⟩) hn (conz g2 (conz g17 (one g21)))).mono fun ex T' st' ⟨q1,q2,q3,q4⟩=>by simp only [List.cons.injEq,and_true] at q3;exact ⟨q1,⟨q2,q3⟩,q4⟩
theorem f5_21_TTT_e(s d:ByteArray)(o k:Int)(st s1:St)(b160:Bool):((evS Tryz.prog E0 noOv noS 100000 [6013,7149,7152,7157] (f5P 21) ⟨168,[(2,(str s)),(17,(i64 o)),(22,(str d)),(23,(i64 k))],[]⟩ st [.av TT,.av TT,.av TT,.eff (bo b160) (fun _=>s1)]).map fun q=>(q.1,q.2.1.n,([q.2.1.get 6]:List AV),q.2.2.1,q.2.2.2.2))=some (.ret,168,[(bo b160)],s1,[binA E0 .eql 3 (i64 o) (i64 0)=some TT,binA E0 .eql 23 (i64 k) (i64 0)=some TT,binA E0 .eql 9 (str d) (str s)=some TT,obC 13 [] st (bo b160) s1]):=by kernel_rfl
theorem f5_21_TTT{s d:ByteArray}{o k:Int}{st s1:St}{b160:Bool}(h1:binA E0 .eql 3 (i64 o) (i64 0)=some TT)(h2:binA E0 .eql 23 (i64 k) (i64 0)=some TT)(h3:binA E0 .eql 9 (str d) (str s)=some TT)(h4:obC 13 [] st (bo b160) s1){T:Tm}(hT:f5L24 T (str s) (i64 o) (str d) (i64 k)):AW Tryz.prog (f5P 21) (fun ex T' st'=>ex= .ret∧f5L6 T' (bo b160)∧st'=s1) T st:=by
  obtain ⟨hn,g2,g17,g22,g23⟩:=hT
  exact (gen_run (G:=fun T=>([T.get 6]:List AV)) hE (f5_21_TTT_e s d o k st s1 b160) (Ob.ok_cons.2 ⟨h1,(Ob.ok_cons.2 ⟨h2,(Ob.ok_cons.2 ⟨h3,(Ob.ok_cons.2 ⟨h4,Ob.ok_nil⟩)⟩)⟩)⟩) hn (conz g2 (conz g17 (conz g22 (one g23))))).mono fun ex T' st' ⟨q1,q2,q3,q4⟩=>by simp only [List.cons.injEq,and_true] at q3;exact ⟨q1,⟨q2,q3⟩,q4⟩
def f5L25(T:Tm)(a21:AV):Prop:=T.n=168∧T.get 21=a21
theorem f5_23_T_e(v:AV)(st s1:St)(n163:Int)(b166:Bool):((evS Tryz.prog E0 noOv noS 100000 [6013,7163,7164] (f5P 23) ⟨168,[(21,v)],[]⟩ st [.av (i64 n163),.av TT,.eff (bo b166) (fun _=>s1)]).map fun q=>(q.1,q.2.1.n,([q.2.1.get 6]:List AV),q.2.2.1,q.2.2.2.2))=some (.ret,168,[(bo b166)],s1,[lenA E0 37 v=some (i64 n163),binA E0 .eql 3 (i64 n163) (i64 0)=some TT,obC 13 [] st (bo b166) s1]):=by kernel_rfl
theorem f5_23_T{v:AV}{st s1:St}{n163:Int}{b166:Bool}(h1:lenA E0 37 v=some (i64 n163))(h2:binA E0 .eql 3 (i64 n163) (i64 0)=some TT)(h3:obC 13 [] st (bo b166) s1){T:Tm}(hT:f5L25 T v):AW Tryz.prog (f5P 23) (fun ex T' st'=>ex= .ret∧f5L6 T' (bo b166)∧st'=s1) T st:=by
  obtain ⟨hn,g21⟩:=hT
  exact (gen_run (G:=fun T=>([T.get 6]:List AV)) hE (f5_23_T_e v st s1 n163 b166) (Ob.ok_cons.2 ⟨h1,(Ob.ok_cons.2 ⟨h2,(Ob.ok_cons.2 ⟨h3,Ob.ok_nil⟩)⟩)⟩) hn (one g21)).mono fun ex T' st' ⟨q1,q2,q3,q4⟩=>by simp only [List.cons.injEq,and_true] at q3;exact ⟨q1,⟨q2,q3⟩,q4⟩
end
section
set_option maxRecDepth 8000
/-! ### ShellBack -/
theorem parseR_err{ev:List UInt8→Bool}{s:List UInt8}{k:Nat}{e:Int}(h:parseR ev s= .inr (k,e)):e≠0:=by
  unfold parseR at h
  split at h
  · simp only [Sum.inr.injEq,Prod.mk.injEq] at h;omega
  · split at h
    · cases h
    · simp only [Sum.inr.injEq,Prod.mk.injEq] at h;omega
theorem sz_join:∀bs:List (List UInt8),((bs.map evRead).map evSz).sum≤4*(joinL bs).length
  | []=>by simp
  |b::bs=>by
    have h1:=sz_join bs
    have h2:=ev_sizes b
    rw [joinL_cons]
    simp only [List.map_cons,List.sum_cons,List.length_append,List.length_cons]
    unfold evSz at h1⊢
    omega
theorem szr_join:∀bs:List (List UInt8),((bs.map rowRead).map rwSz).sum≤4*(joinL bs).length
  | []=>by simp
  |b::bs=>by
    have h1:=szr_join bs
    have h2:=row_sizes b
    rw [joinL_cons]
    simp only [List.map_cons,List.sum_cons,List.length_append,List.length_cons]
    unfold rwSz at h1⊢
    omega
theorem sla_of{st:St}{css:List (List AV)}{es:List RwR}(h:AllV RwV st css es):∀c∈css,∃(k e c' n:Int) (d:AV) (en:Bool),c= [i64 k,i64 e,i64 c',i64 n,d,bo en]∧SlA d:=fun c hc=>by
  obtain ⟨e,d,h1,h2⟩:=h.all hc
  exact ⟨_,_,_,_,d,_,h1,h2.sla⟩
theorem ev5{st:St}{css:List (List AV)}{es:List EvR}(h:AllV EvV st css es):∀c∈css,c.length=5:=fun c hc=>by
  obtain ⟨e,he⟩:=h.all hc
  exact he.len
theorem rw6{st:St}{css:List (List AV)}{es:List RwR}(h:AllV RwV st css es):∀c∈css,c.length=6:=fun c hc=>by
  obtain ⟨e,he⟩:=h.all hc
  exact he.len
/-- both lists turned, and held against each other -/
theorem same_ev{st:St}{x y:AV}{css css':List (List AV)}{es:List EvR}(hw:st.wf)(hl:st.lock= [])(hx:IL st 54 5 x css)(hy:IL st 54 5 y css')(vx:AllV EvV st css es)(vy:AllV EvV st css' es)(hs:(es.map evSz).sum≤10000000):
    ∃v1 v2 s1 s2 s3,obC 9 [x] st v1 s1∧obC 9 [y] s1 v2 s2∧obC 12 [v1,v2] s2 TT s3∧Rest st s3 []:=by
  have hlen:es.length≤10000000:=Nat.le_trans (len_sum evSz (fun e=>by unfold evSz;omega) es) hs
  obtain ⟨v1,s1,a1,a2,a3,_⟩:=theirs_ok hw hl hx (by rw [vx.1];omega)
  obtain ⟨v2,s2,b1,b2,b3,_⟩:=theirs_ok a2.wf (a2.lock.trans hl) (hy.rg a2.rg) (by rw [vy.1];omega)
  have r2:=a2.trans b2
  have h:=events_ok b2.wf (r2.lock.trans hl) (a3.rest b2 (fun i _=>by simp)) b3 (vx.mono fun c e h=>h.rest r2) (vy.mono fun c e h=>h.rest r2) (by rw [vx.1];omega) (fun e he=>by
    have:=one_sum evSz es he
    unfold evSz at this hs
    omega)
  exact ⟨v1,v2,s1,s2,_,a1,b1,h,r2.trans (St.up_rest b2.wf _)⟩
theorem same_rw{st:St}{x y:AV}{css css':List (List AV)}{es:List RwR}(hw:st.wf)(hl:st.lock= [])(hx:IL st 70 6 x css)(hy:IL st 70 6 y css')(vx:AllV RwV st css es)(vy:AllV RwV st css' es)(hs:(es.map rwSz).sum≤10000000):
    ∃v1 v2 s1 s2 s3,obC 16 [x] st v1 s1∧obC 16 [y] s1 v2 s2∧obC 19 [v1,v2] s2 TT s3∧Rest st s3 []:=by
  have hlen:es.length≤10000000:=Nat.le_trans (len_sum rwSz (fun e=>by unfold rwSz;omega) es) hs
  obtain ⟨v1,s1,a1,a2,a3,_⟩:=told_ok hw hl hx (sla_of vx) (by rw [vx.1];omega)
  obtain ⟨v2,s2,b1,b2,b3,_⟩:=told_ok a2.wf (a2.lock.trans hl) (hy.rg a2.rg) (sla_of vy) (by rw [vy.1];omega)
  have r2:=a2.trans b2
  have h:=rows_ok b2.wf (r2.lock.trans hl) (a3.rest b2 (fun i _=>by simp)) b3 (vx.mono fun c e h=>h.rest r2) (vy.mono fun c e h=>h.rest r2) (by rw [vx.1];omega)
  exact ⟨v1,v2,s1,s2,_,a1,b1,h,r2.trans (St.up_rest b2.wf _)⟩
theorem back_a{st:St}{l r:AV}{s:List UInt8}{css:List (List AV)}{es:List EvR}(hw:st.wf)(hl:st.lock= [])(hgl:Tabs st)(herr:ErrV st)(hx:IL st 54 5 l css)(hv:AllV EvV st css es)(hg:∀e∈es,EvGood e)(hbad:∀e∈es,e.bad=false)(hs:(es.map evSz).sum≤10000000):
    ∃z,Rest st z []∧∀T,f5L1 T l r (sb s) (sb (outT (wrF (es.map evLineR)))) (i64 (errN (wrF (es.map evLineR))))→AW Tryz.prog (.seq (f5P 2) (.cond (.tmp 30) (.seq (f5P 3) (.seq (f5P 4) (f5P 5))) (f5P 6))) (fun ex T' st'=>ex= .normal∧f5L7 T' r (sb s)∧st'=z) T st:=by
  cases hwr:wrF (es.map evLineR) with
  |none=>exact ⟨st,.refl hw _,fun T q=>AW.cnd (b:=false) (f5_2_F (eqlF (by decide)) q) (fun T' q=>q.2.2.2.2.2.2) fun T' q=>f5_6_FF (ne_sbF (a:= []) (b:= []) rfl) (neqF rfl) ⟨q.1,q.2.2.1,q.2.2.2.1,q.2.2.2.2.1,q.2.2.2.2.2.1⟩⟩
  |some t=>
    by_cases hlong:65536<t.length
    · have e1:outT (some t)= []:=by simp only [outT];rw [if_pos hlong]
      have e2:errN (some t)=3:=by simp only [errN];rw [if_pos hlong]
      rw [e1,e2]
      exact ⟨st,.refl hw _,fun T q=>AW.cnd (b:=false) (f5_2_F (eqlF (by decide)) q) (fun T' q=>q.2.2.2.2.2.2) fun T' q=>f5_6_FTF (ne_sbF (a:= []) (b:= []) rfl) (neqT (by decide)) (neqF rfl) ⟨q.1,q.2.2.1,q.2.2.2.1,q.2.2.2.2.1,q.2.2.2.2.2.1⟩⟩
    · have e1:outT (some t)=t:=by simp only [outT];rw [if_neg hlong]
      have e2:errN (some t)=0:=by simp only [errN];rw [if_neg hlong]
      rw [e1,e2]
      obtain ⟨bs,k1,k2⟩:=text_back hg hbad hwr
      obtain ⟨L,n,f,z,c1,c2,c3⟩:=parse_ok (s:=t) hw hl hgl herr (by omega)
      have kp:parseR evOK t= .inl bs:=by unfold parseR;rw [if_neg hlong,k1]
      rw [kp] at c3
      obtain ⟨rfl,rfl,⟨css',d1,d2⟩,_,_,_⟩:=c3
      rw [k2] at d2
      obtain ⟨v1,v2,s1,s2,s3,w1,w2,w3,w4⟩:=same_ev c2.wf (c2.lock.trans hl) (d1.il (ev5 d2)) (hx.rg c2.rg) d2 (hv.mono fun c e h=>h.rest c2) hs
      refine ⟨s3,c2.trans w4,fun T q=>AW.cnd (b:=true) (f5_2_T (eqlT rfl) q) (fun T' q=>q.2.2.2.2.2.2) fun T' q=> ?_⟩
      refine AW.andThen (f5_3 c1 ⟨q.1,q.2.1,q.2.2.1,q.2.2.2.1,q.2.2.2.2.1⟩) fun T1 q1=> ?_
      exact AW.andThen (f5_4_FFTF (neqF rfl) (neqF rfl) w1 w2 w3 (len_sb _) (gtrF (by omega)) q1) fun T2 q2=>f5_5_F q2
theorem back_b{st:St}{r:AV}{s:List UInt8}{css:List (List AV)}{es:List RwR}(hw:st.wf)(hl:st.lock= [])(hgl:Tabs st)(herr:ErrV st)(hx:IL st 70 6 r css)(hv:AllV RwV st css es)(hg:∀e∈es,RwGood e)(hbad:∀e∈es,e.bad=false)(hs:(es.map rwSz).sum≤10000000):
    ∃z,Rest st z []∧∀T,f5L9 T r (sb s) (i64 (errN (wrF (es.map rowFR)))) (sb (outT (wrF (es.map rowFR))))→AW Tryz.prog (.seq (f5P 8) (.cond (.tmp 72) (.seq (f5P 9) (.seq (f5P 10) (f5P 11))) (f5P 12))) (fun ex T' st'=>ex= .normal∧f5L14 T' (sb s)∧st'=z) T st:=by
  cases hwr:wrF (es.map rowFR) with
  |none=>exact ⟨st,.refl hw _,fun T q=>AW.cnd (b:=false) (f5_8_F (eqlF (by decide)) q) (fun T' q=>q.2.2.2.2.2) fun T' q=>f5_12_FF (ne_sbF (a:= []) (b:= []) rfl) (neqF rfl) ⟨q.1,q.2.2.1,q.2.2.2.1,q.2.2.2.2.1⟩⟩
  |some t=>
    by_cases hlong:65536<t.length
    · have e1:outT (some t)= []:=by simp only [outT];rw [if_pos hlong]
      have e2:errN (some t)=3:=by simp only [errN];rw [if_pos hlong]
      rw [e1,e2]
      exact ⟨st,.refl hw _,fun T q=>AW.cnd (b:=false) (f5_8_F (eqlF (by decide)) q) (fun T' q=>q.2.2.2.2.2) fun T' q=>f5_12_FTF (ne_sbF (a:= []) (b:= []) rfl) (neqT (by decide)) (neqF rfl) ⟨q.1,q.2.2.1,q.2.2.2.1,q.2.2.2.2.1⟩⟩
    · have e1:outT (some t)=t:=by simp only [outT];rw [if_neg hlong]
      have e2:errN (some t)=0:=by simp only [errN];rw [if_neg hlong]
      rw [e1,e2]
      obtain ⟨bs,k1,k2⟩:=rows_back hg hbad hwr
      obtain ⟨L,n,f,z,c1,c2,c3⟩:=parserows_ok (s:=t) hw hl hgl herr (by omega)
      have kp:parseR rowOK t= .inl bs:=by unfold parseR;rw [if_neg hlong,k1]
      rw [kp] at c3
      obtain ⟨rfl,rfl,⟨css',d1,d2⟩,_,_,_⟩:=c3
      rw [k2] at d2
      obtain ⟨v1,v2,s1,s2,s3,w1,w2,w3,w4⟩:=same_rw c2.wf (c2.lock.trans hl) (d1.il (rw6 d2)) (hx.rg c2.rg) d2 (hv.mono fun c e h=>h.rest c2) hs
      refine ⟨s3,c2.trans w4,fun T q=>AW.cnd (b:=true) (f5_8_T (eqlT rfl) q) (fun T' q=>q.2.2.2.2.2) fun T' q=> ?_⟩
      refine AW.andThen (f5_9 c1 ⟨q.1,q.2.1,q.2.2.1,q.2.2.2.2.1⟩) fun T1 q1=> ?_
      exact AW.andThen (f5_10_FFTF (neqF rfl) (neqF rfl) w1 w2 w3 (len_sb _) (gtrF (by omega)) q1) fun T2 q2=>f5_11_F q2
theorem nils_22:lenA E0 22 .nils=some (i64 0):=by kernel_rfl
theorem nils_37:lenA E0 37 .nils=some (i64 0):=by kernel_rfl
theorem back_c{st:St}{s:List UInt8}(hw:st.wf)(hl:st.lock= [])(hgl:Tabs st)(herr:ErrV st)(hs:s.length≤1000000000):
    ∃L n f z1 z,obC 10 [sb s] st (.tup [L,i64 n,i64 f]) z1∧Rest st z []∧∀T,f5L16 T (sb s) L (i64 n) (i64 f)→AW Tryz.prog (.seq (f5P 14) (.cond (.tmp 115) (.seq (f5P 15) (f5P 16)) (f5P 17))) (fun ex T' st'=>ex= .normal∧f5L14 T' (sb s)∧st'=z) T z1:=by
  obtain ⟨L,n,f,z,c1,c2,c3⟩:=parse_ok (s:=s) hw hl hgl herr hs
  cases hp:parseR evOK s with
  |inl bs=>
    rw [hp] at c3
    obtain ⟨rfl,rfl,⟨css,d1,d2⟩,d3,d4,d5⟩:=c3
    have hj:=(parseT_inl d4).1
    obtain ⟨z2,e1,e2⟩:=text_ok c2.wf (c2.lock.trans hl) (hgl.rest c2) (d1.il (ev5 d2)) d2 d3 (by
      have:=sz_join bs
      rw [←hj] at this
      omega)
    rw [text_fore d4] at e1
    have q1:outT (some s)=s:=by simp only [outT];rw [if_neg (by omega)]
    have q2:errN (some s)=0:=by simp only [errN];rw [if_neg (by omega)]
    rw [q1,q2] at e1
    refine ⟨L,0,0,z,z2,c1,c2.trans e2,fun T q=>AW.cnd (b:=true) (f5_14_T (eqlT rfl) q) (fun T' q=>q.2.2.2.2) fun T' q=> ?_⟩
    exact AW.andThen (f5_15 e1 ⟨q.1,q.2.1,q.2.2.1,q.2.2.2.1⟩) fun T2 q2=>f5_16_FFF (neqF rfl) (neqF rfl) (ne_sbF rfl) q2
  |inr ke=>
    obtain ⟨k,e⟩:=ke
    rw [hp] at c3
    obtain ⟨rfl,rfl,rfl⟩:=c3
    refine ⟨.nils,k,f,z,z,c1,c2,fun T q=>AW.cnd (b:=false) (f5_14_F (eqlF (parseR_err hp)) q) (fun T' q=>q.2.2.2.2) fun T' q=> ?_⟩
    exact f5_17_F nils_22 (gtrF (by decide)) ⟨q.1,q.2.1,q.2.2.1⟩
theorem back_ok{st:St}{l r:AV}{s:List UInt8}{css cssR:List (List AV)}{es:List EvR}{rs:List RwR}(hw:st.wf)(hl:st.lock= [])(hgl:Tabs st)(herr:ErrV st)
    (hx:IL st 54 5 l css) (hv:AllV EvV st css es) (hg:∀e∈es,EvGood e) (hbad:∀e∈es,e.bad=false) (hs:(es.map evSz).sum≤10000000)
    (hxr:IL st 70 6 r cssR) (hvr:AllV RwV st cssR rs) (hgr:∀e∈rs,RwGood e) (hbadr:∀e∈rs,e.bad=false) (hsr:(rs.map rwSz).sum≤10000000) (hsl:s.length≤1000000000):∃z,obC 5 [l,r,sb s] st TT z∧Rest st z []:=by
  obtain ⟨s1,a1,r1⟩:=text_ok hw hl hgl hx hv hg hs
  obtain ⟨s2,r2,a2⟩:=back_a (r:=r) (s:=s) r1.wf (r1.lock.trans hl) (hgl.rest r1) (herr.rest r1) (hx.rg r1.rg) (hv.mono fun c e h=>h.rest r1) hg hbad hs
  have r02:=r1.trans r2
  obtain ⟨s3,a3,r3⟩:=textR_ok r2.wf (r02.lock.trans hl) (hgl.rest r02) (hxr.rg r02.rg) (hvr.mono fun c e h=>h.rest r02) hgr hsr
  have r03:=r02.trans r3
  obtain ⟨s4,r4,a4⟩:=back_b (s:=s) r3.wf (r03.lock.trans hl) (hgl.rest r03) (herr.rest r03) (hxr.rg r03.rg) (hvr.mono fun c e h=>h.rest r03) hgr hbadr hsr
  have r04:=r03.trans r4
  obtain ⟨L5,n5,f5,s5',s5,a5',r5,a5⟩:=back_c (s:=s) r4.wf (r04.lock.trans hl) (hgl.rest r04) (herr.rest r04) hsl
  have r05:=r04.trans r5
  obtain ⟨L,n,f,s6,c1,c2,c3⟩:=parserows_ok (s:=s) r5.wf (r05.lock.trans hl) (hgl.rest r05) (herr.rest r05) hsl
  have r06:=r05.trans c2
  have fin:∀{T:Tm} {a:AV} {z:St},f5L6 T a→endA E0 Tryz.f5 (fun r s=>r=a∧s=z) .ret T z:=fun {T a z} q=>⟨[T.get 6],rfl,q.2,rfl⟩
  have walk:∀z,(∀T,f5L21 T (sb s) (i64 n) (i64 f) L→AW Tryz.prog (.seq (.seq (f5P 19) (.cond (.tmp 142) (.seq (f5P 20) (f5P 21)) (f5P 22))) (f5P 23)) (endA E0 Tryz.f5 (fun r' s=>r'=TT∧s=z)) T s6)→obC 5 [l,r,sb s] st TT z:=fun z hk=>by
    refine ACalls.body (E:=E0) hE Tryz.func5 f5body ?_
    refine AW.andThen (f5_0 (l:=l) (r:=r) (s:=⟨s.toArray⟩) ⟨rfl,rfl,rfl,rfl⟩) fun T1 q1=> ?_
    refine AW.andThen (f5_1 a1 q1) fun T2 q2=> ?_
    refine AW.andThen (L:=fun T=>f5L7 T r (sb s)) (a2 T2 q2) fun T3 q3=> ?_
    refine AW.andThen (f5_7 a3 q3) fun T4 q4=> ?_
    refine AW.andThen (L:=fun T=>f5L14 T (sb s)) (a4 T4 q4) fun T5 q5=> ?_
    refine AW.andThen (f5_13 a5' q5) fun T6 q6=> ?_
    refine AW.andThen (L:=fun T=>f5L14 T (sb s)) (a5 T6 q6) fun T7 q7=> ?_
    exact AW.andThen (f5_18 c1 q7) fun T8 q8=>hk T8 q8
  cases hp:parseR rowOK s with
  |inl bs=>
    rw [hp] at c3
    obtain ⟨rfl,rfl,⟨cs,d1,d2⟩,d3,d4,d5⟩:=c3
    have hj:=(parseT_inl d4).1
    obtain ⟨z2,e1,e2⟩:=textR_ok c2.wf (r06.lock.trans hl) (hgl.rest r06) (d1.il (rw6 d2)) d2 d3 (by
      have:=szr_join bs
      rw [←hj] at this
      omega)
    rw [rows_fore d4] at e1
    have q1:outT (some s)=s:=by simp only [outT];rw [if_neg (by omega)]
    have q2:errN (some s)=0:=by simp only [errN];rw [if_neg (by omega)]
    rw [q1,q2] at e1
    have r07:=r06.trans e2
    obtain ⟨z3,w1,w2⟩:=wakes_ok (hgl.rest r07) e2.wf (r07.lock.trans hl)
    refine ⟨z3,walk z3 fun T q=> ?_,r07.trans w2⟩
    refine AW.seq (AW.cnd (b:=true) (f5_19_T (eqlT rfl) q) (fun T' q=>q.2.2.2.2) fun T' q=> ?_)
    refine AW.andThen (f5_20 e1 ⟨q.1,q.2.1,q.2.2.1,q.2.2.2.1⟩) fun T2 q2=> ?_
    exact AW.atRet (f5_21_TTT (b160:=true) (eqlT rfl) (eqlT rfl) (eq_sbT rfl) w1 q2) fun T' q=>fin q
  |inr ke=>
    obtain ⟨k,e⟩:=ke
    rw [hp] at c3
    obtain ⟨rfl,rfl,rfl⟩:=c3
    obtain ⟨z3,w1,w2⟩:=wakes_ok (hgl.rest r06) c2.wf (r06.lock.trans hl)
    refine ⟨z3,walk z3 fun T q=> ?_,r06.trans w2⟩
    refine AW.seq (AW.cnd (b:=false) (f5_19_F (eqlF (parseR_err hp)) q) (fun T' q=>q.2.2.2.2) fun T' q=> ?_)
    have hsk:f5P 22= .skip:=by kernel_rfl
    rw [if_neg (by simp),hsk]
    refine AW.skip ?_
    exact AW.atRet (f5_23_T (b166:=true) nils_37 (eqlT rfl) w1 ⟨q.1,q.2.2.2.1⟩) fun T' q=>fin q
end
end Go.Proofs.YtnknfheabnogaaaGreatDoor.E

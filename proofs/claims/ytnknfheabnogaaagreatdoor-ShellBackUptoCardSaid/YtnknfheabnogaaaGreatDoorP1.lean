/- Part 1 of the proof, over the abstract machine: contracts of the functions that the statement reaches, joined out of several texts. Condition: none beyond those that the lemmas name. -/
import Derived.Test.YtnknfheabnogaaaGreatDoorP0
import Derived.Test.YtnknfheabnogaaaGreatDoorChecked
import Derived.KernelRfl
import Derived.Shelf.Strings.OnBuilder
import Derived.Shelf.Strings.Count
import Derived.Shelf.Strings.Search1
import Derived.Shelf.Strconv.Itoa3
import Derived.Ground.NamesProg
import Derived.Shelf.Lay
import Derived.Lib.ItoaLen
import Derived.Test.YtnknfheabnogaaaGreatDoorRows
import Derived.Lib.LaidTab
import Derived.Below
namespace Go.Proofs.YtnknfheabnogaaaGreatDoor.E
open Go Go.Proofs
section
set_option maxRecDepth 100000
open Go.RowKit Go.Sort Go.Shelf
noncomputable abbrev E0:=envOf Tryz.prog
def Tryz.indexByte17_ren:Go.Shelf.Ren:=⟨fun|217=>75|266=>86|n=>n,fun|9=>9|5=>5|3=>3|n=>n,fun|n=>n⟩
theorem Tryz.indexByte17:Go.Proofs.Lays.n217 Tryz.prog Tryz.indexByte17_ren:={
  mixed:=by kernel_rfl
  f217:=Tryz.func75.trans (congrArg some (by kernel_rfl))
  f266:=Tryz.func86.trans (congrArg some (by kernel_rfl))
  t3:=Tryz.underlying3
  a3:=Tryz.isAgg3
  z3:=Tryz.sizeOf3
  v3:=Tryz.zeroValue3
  t5:=Tryz.underlying5
  a5:=Tryz.isAgg5
  z5:=Tryz.sizeOf5
  v5:=Tryz.zeroValue5
  t9:=Tryz.underlying9
  a9:=Tryz.isAgg9
  z9:=Tryz.sizeOf9
  v9:=Tryz.zeroValue9}
def Tryz.count63_ren:Go.Shelf.Ren:=⟨fun|138=>89|195=>102|218=>104|143=>90|219=>101|217=>75|225=>114|224=>115|267=>116|266=>86|314=>122|n=>n,fun|9=>9|3=>3|4=>4|5=>5|0=>0|46=>108|146=>163|51=>148|n=>n,fun|1=>0|n=>n⟩
theorem Tryz.count63:Go.Proofs.Lays.n138 Tryz.prog Tryz.count63_ren:={
  mixed:=by kernel_rfl
  f138:=Tryz.func89.trans (congrArg some (by kernel_rfl))
  f143:=Tryz.func90.trans (congrArg some (by kernel_rfl))
  f195:=Tryz.func102.trans (congrArg some (by kernel_rfl))
  f217:=Tryz.func75.trans (congrArg some (by kernel_rfl))
  f218:=Tryz.func104.trans (congrArg some (by kernel_rfl))
  f219:=Tryz.func101.trans (congrArg some (by kernel_rfl))
  f224:=Tryz.func115.trans (congrArg some (by kernel_rfl))
  f225:=Tryz.func114.trans (congrArg some (by kernel_rfl))
  f266:=Tryz.func86.trans (congrArg some (by kernel_rfl))
  f267:=Tryz.func116.trans (congrArg some (by kernel_rfl))
  f314:=Tryz.func122.trans (congrArg some (by kernel_rfl))
  t0:=Tryz.underlying0
  a0:=Tryz.isAgg0
  z0:=Tryz.sizeOf0
  v0:=Tryz.zeroValue0
  t3:=Tryz.underlying3
  a3:=Tryz.isAgg3
  z3:=Tryz.sizeOf3
  v3:=Tryz.zeroValue3
  t4:=Tryz.underlying4
  a4:=Tryz.isAgg4
  z4:=Tryz.sizeOf4
  v4:=Tryz.zeroValue4
  t5:=Tryz.underlying5
  a5:=Tryz.isAgg5
  z5:=Tryz.sizeOf5
  v5:=Tryz.zeroValue5
  t9:=Tryz.underlying9
  a9:=Tryz.isAgg9
  z9:=Tryz.sizeOf9
  v9:=Tryz.zeroValue9
  t46:=Tryz.underlying108
  a46:=Tryz.isAgg108
  z46:=Tryz.sizeOf108
  v46:=Tryz.zeroValue108
  t51:=Tryz.underlying148
  a51:=Tryz.isAgg148
  z51:=Tryz.sizeOf148
  v51:=Tryz.zeroValue148
  t146:=Tryz.underlying163
  a146:=Tryz.isAgg163
  z146:=Tryz.sizeOf163
  v146:=Tryz.zeroValue163
  g1:=by kernel_rfl}
def Tryz.join44_ren:Go.Shelf.Ren:=⟨fun|156=>65|165=>79|166=>35|169=>37|240=>63|241=>91|276=>77|277=>105|n=>n,fun|31=>61|9=>9|3=>3|4=>4|0=>0|20=>20|72=>83|76=>86|70=>81|37=>51|75=>85|127=>110|164=>121|5=>5|80=>89|n=>n,fun|n=>n⟩
theorem Tryz.join44:Go.Proofs.Lays.n156 Tryz.prog Tryz.join44_ren:={
  mixed:=by kernel_rfl
  f156:=Tryz.func65.trans (congrArg some (by kernel_rfl))
  f165:=Tryz.func79.trans (congrArg some (by kernel_rfl))
  f166:=Tryz.func35.trans (congrArg some (by kernel_rfl))
  f169:=Tryz.func37.trans (congrArg some (by kernel_rfl))
  f240:=Tryz.func63.trans (congrArg some (by kernel_rfl))
  f241:=Tryz.func91.trans (congrArg some (by kernel_rfl))
  f276:=Tryz.func77.trans (congrArg some (by kernel_rfl))
  f277:=Tryz.func105.trans (congrArg some (by kernel_rfl))
  t0:=Tryz.underlying0
  a0:=Tryz.isAgg0
  z0:=Tryz.sizeOf0
  v0:=Tryz.zeroValue0
  t3:=Tryz.underlying3
  a3:=Tryz.isAgg3
  z3:=Tryz.sizeOf3
  v3:=Tryz.zeroValue3
  t4:=Tryz.underlying4
  a4:=Tryz.isAgg4
  z4:=Tryz.sizeOf4
  v4:=Tryz.zeroValue4
  t9:=Tryz.underlying9
  a9:=Tryz.isAgg9
  z9:=Tryz.sizeOf9
  v9:=Tryz.zeroValue9
  t20:=Tryz.underlying20
  a20:=Tryz.isAgg20
  z20:=Tryz.sizeOf20
  v20:=Tryz.zeroValue20
  t31:=Tryz.underlying61
  a31:=Tryz.isAgg61
  z31:=Tryz.sizeOf61
  v31:=Tryz.zeroValue61
  t37:=Tryz.underlying51
  a37:=Tryz.isAgg51
  z37:=Tryz.sizeOf51
  v37:=Tryz.zeroValue51
  t70:=Tryz.underlying81
  a70:=Tryz.isAgg81
  z70:=Tryz.sizeOf81
  v70:=Tryz.zeroValue81
  t72:=Tryz.underlying83
  a72:=Tryz.isAgg83
  z72:=Tryz.sizeOf83
  v72:=Tryz.zeroValue83
  t75:=Tryz.underlying85
  a75:=Tryz.isAgg85
  z75:=Tryz.sizeOf85
  v75:=Tryz.zeroValue85
  t76:=Tryz.underlying86
  a76:=Tryz.isAgg86
  z76:=Tryz.sizeOf86
  v76:=Tryz.zeroValue86
  t127:=Tryz.underlying110
  a127:=Tryz.isAgg110
  z127:=Tryz.sizeOf110
  v127:=Tryz.zeroValue110
  t164:=Tryz.underlying121
  a164:=Tryz.isAgg121
  z164:=Tryz.sizeOf121
  v164:=Tryz.zeroValue121}
def Tryz.itoa30_ren:Go.Shelf.Ren:=⟨fun|171=>40|243=>66|246=>80|283=>92|284=>93|285=>94|286=>95|129=>107|317=>106|318=>108|319=>109|320=>110|337=>118|338=>119|n=>n,fun|3=>3|9=>9|2=>2|4=>4|171=>130|0=>0|53=>114|37=>51|5=>5|173=>133|212=>147|51=>148|20=>20|213=>149|46=>108|232=>169|233=>170|n=>n,fun|17=>1|18=>6|19=>7|n=>n⟩
theorem Tryz.itoa30:Go.Proofs.LaysM.n171 Tryz.prog Tryz.itoa30_ren:={
  mixed:=by kernel_rfl
  f129:=Tryz.func107.trans (congrArg some (by kernel_rfl))
  f171:=Tryz.func40.trans (congrArg some (by kernel_rfl))
  f243:=Tryz.func66.trans (congrArg some (by kernel_rfl))
  f246:=Tryz.func80.trans (congrArg some (by kernel_rfl))
  f283:=Tryz.func92.trans (congrArg some (by kernel_rfl))
  f284:=Tryz.func93.trans (congrArg some (by kernel_rfl))
  f285:=Tryz.func94.trans (congrArg some (by kernel_rfl))
  f286:=Tryz.func95.trans (congrArg some (by kernel_rfl))
  f317:=Tryz.func106.trans (congrArg some (by kernel_rfl))
  f318:=Tryz.func108.trans (congrArg some (by kernel_rfl))
  f319:=Tryz.func109.trans (congrArg some (by kernel_rfl))
  f320:=Tryz.func110.trans (congrArg some (by kernel_rfl))
  f337:=Tryz.func118.trans (congrArg some (by kernel_rfl))
  f338:=Tryz.func119.trans (congrArg some (by kernel_rfl))
  t0:=Tryz.underlying0
  a0:=Tryz.isAgg0
  z0:=Tryz.sizeOf0
  v0:=Tryz.zeroValue0
  t2:=Tryz.underlying2
  a2:=Tryz.isAgg2
  z2:=Tryz.sizeOf2
  v2:=Tryz.zeroValue2
  t3:=Tryz.underlying3
  a3:=Tryz.isAgg3
  z3:=Tryz.sizeOf3
  v3:=Tryz.zeroValue3
  t4:=Tryz.underlying4
  a4:=Tryz.isAgg4
  z4:=Tryz.sizeOf4
  v4:=Tryz.zeroValue4
  t5:=Tryz.underlying5
  a5:=Tryz.isAgg5
  z5:=Tryz.sizeOf5
  v5:=Tryz.zeroValue5
  t9:=Tryz.underlying9
  a9:=Tryz.isAgg9
  z9:=Tryz.sizeOf9
  v9:=Tryz.zeroValue9
  t20:=Tryz.underlying20
  a20:=Tryz.isAgg20
  z20:=Tryz.sizeOf20
  v20:=Tryz.zeroValue20
  t37:=Tryz.underlying51
  a37:=Tryz.isAgg51
  z37:=Tryz.sizeOf51
  v37:=Tryz.zeroValue51
  t46:=Tryz.underlying108
  a46:=Tryz.isAgg108
  z46:=Tryz.sizeOf108
  v46:=Tryz.zeroValue108
  t51:=Tryz.underlying148
  a51:=Tryz.isAgg148
  z51:=Tryz.sizeOf148
  v51:=Tryz.zeroValue148
  t53:=Tryz.underlying114
  a53:=Tryz.isAgg114
  z53:=Tryz.sizeOf114
  v53:=Tryz.zeroValue114
  t171:=Tryz.underlying130
  a171:=Tryz.isAgg130
  z171:=Tryz.sizeOf130
  v171:=Tryz.zeroValue130
  t173:=Tryz.underlying133
  a173:=Tryz.isAgg133
  z173:=Tryz.sizeOf133
  v173:=Tryz.zeroValue133
  t212:=Tryz.underlying147
  a212:=Tryz.isAgg147
  z212:=Tryz.sizeOf147
  v212:=Tryz.zeroValue147
  t213:=Tryz.underlying149
  a213:=Tryz.isAgg149
  z213:=Tryz.sizeOf149
  t232:=Tryz.underlying169
  a232:=Tryz.isAgg169
  z232:=Tryz.sizeOf169
  v232:=Tryz.zeroValue169
  t233:=Tryz.underlying170
  a233:=Tryz.isAgg170
  z233:=Tryz.sizeOf170
  v233:=Tryz.zeroValue170
  g17:=by kernel_rfl
  g18:=by kernel_rfl
  g19:=by kernel_rfl
  i0:=by kernel_rfl
  i2:=by kernel_rfl
  i3:=by kernel_rfl
  i4:=by kernel_rfl
  i5:=by kernel_rfl
  i9:=by kernel_rfl
  i20:=by kernel_rfl
  i37:=by kernel_rfl
  i46:=by kernel_rfl
  i51:=by kernel_rfl
  i53:=by kernel_rfl
  i171:=by kernel_rfl
  i173:=by kernel_rfl
  i212:=by kernel_rfl
  i232:=by kernel_rfl
  i233:=by kernel_rfl
  m17:=by kernel_rfl
  m18:=by kernel_rfl
  m19:=by kernel_rfl}
def Tryz.string27_ren:Go.Shelf.Ren:=⟨fun|169=>37|n=>n,fun|70=>81|9=>9|0=>0|72=>83|37=>51|127=>110|3=>3|5=>5|n=>n,fun|n=>n⟩
theorem Tryz.string27:Go.Proofs.Lays.n169 Tryz.prog Tryz.string27_ren:={
  mixed:=by kernel_rfl
  f169:=Tryz.func37.trans (congrArg some (by kernel_rfl))
  t0:=Tryz.underlying0
  a0:=Tryz.isAgg0
  z0:=Tryz.sizeOf0
  v0:=Tryz.zeroValue0
  t3:=Tryz.underlying3
  a3:=Tryz.isAgg3
  z3:=Tryz.sizeOf3
  v3:=Tryz.zeroValue3
  t9:=Tryz.underlying9
  a9:=Tryz.isAgg9
  z9:=Tryz.sizeOf9
  v9:=Tryz.zeroValue9
  t37:=Tryz.underlying51
  a37:=Tryz.isAgg51
  z37:=Tryz.sizeOf51
  v37:=Tryz.zeroValue51
  t70:=Tryz.underlying81
  a70:=Tryz.isAgg81
  z70:=Tryz.sizeOf81
  v70:=Tryz.zeroValue81
  t72:=Tryz.underlying83
  a72:=Tryz.isAgg83
  z72:=Tryz.sizeOf83
  v72:=Tryz.zeroValue83
  t127:=Tryz.underlying110
  a127:=Tryz.isAgg110
  z127:=Tryz.sizeOf110
  v127:=Tryz.zeroValue110}
end
section
set_option maxRecDepth 4000
theorem laid_head{P:Program}{W:World}{name:String}{k:IntKind}{zs:List Int}{rest:List (String×DataW Unit)}{g:Nat}{t e:TypeId}{n:Nat}{ps:List MemPlace}
    (hg:P.globalNamed name=some g) (hty:(P.globals[g]?).map (·.type)=some t) (ht:P.underlying t=some (.array n e)) (he:P.underlying e=some (.int k)) (hce:P.cellsOf e=1) (hct:P.cellsOf t=n)
    (h:DataW.LaidVars P W ((name,Lib.tabData k zs)::rest) ps):Lib.TabIs P W name k zs∧∃q,DataW.LaidVars P W rest q:=by
  obtain ⟨g',t',cs,fuel,p,q,hg',ht',hvar,hd,hq,_⟩:=h
  obtain rfl:=Option.some.inj (hg.symm.trans hg')
  obtain rfl:=Option.some.inj (hty.symm.trans ht')
  refine ⟨?_,q,hq⟩
  unfold Lib.TabIs
  rw [hvar,←Lib.cells_of_tab ht he hce hct hd]
def zs32:List Int:= [0,1,28,2,29,14,24,3,30,22,20,15,25,17,4,8,31,27,13,23,21,19,16,7,26,12,18,6,11,5,10,9]
def zs64:List Int:= [0,1,56,2,57,49,28,3,61,58,42,50,38,29,17,4,62,47,59,36,45,43,51,22,53,39,33,30,24,18,12,5,63,55,48,27,60,41,37,16,46,35,44,21,52,32,23,11,54,26,40,15,34,20,31,10,25,14,19,9,13,8,7,6]
def zs10:List Int:= [1,10,100,1000,10000,100000,1000000,10000000,100000000,1000000000,10000000000,100000000000,1000000000000,10000000000000,100000000000000,1000000000000000,10000000000000000,100000000000000000,1000000000000000000,10000000000000000000]
def intsAV(k:IntKind)(zs:List Int):List AV:=zs.map fun z=> .val (.int k z)
/-- a table in the world: its variable's block holds it -/
theorem TabIs.heap{P:Program}{W:World}{name:String}{k:IntKind}{zs:List Int}(h:Lib.TabIs P W name k zs){g:Nat}(hg:P.globalNamed name=some g):∃T fr,W.heap[g]? =some (.cells (zs.map fun z=>Value.int k z).toArray T fr):=by
  unfold Lib.TabIs World.var? at h
  rw [hg] at h
  simp only [Option.bind_some] at h
  split at h
  · rename_i cs T fr hh
    simp only [Option.some.injEq] at h
    subst h
    exact ⟨T,fr,hh⟩
  · cases h
def stTab(tabs:List (Nat×IntKind×List Int)):St:=⟨0,.nil,[],tabs.map fun t=>(t.1,intsAV t.2.1 t.2.2)⟩
def TabsIn(W:World)(tabs:List (Nat×IntKind×List Int)):Prop:=∀t∈tabs,∃T fr,W.heap[t.1]? =some (.cells (t.2.2.map fun z=>Value.int t.2.1 z).toArray T fr)
def tabsD:List (Nat×IntKind×List Int):= [(6,.u8,zs32),(7,.u8,zs64),(1,.u64,zs10)]
theorem emb_tab{st:St}(hgl:∀p∈(stTab tabsD).gl,p∈st.gl):Emb (stTab tabsD) st (fun i=>st.next+i):=
  ⟨fun i _=>rfl,fun i h=>by simp [stTab] at h,fun i j o o' h=>by simp [stTab,St.get,Tr.get] at h,fun id o h=>by simp [stTab,St.get,Tr.get] at h,fun id o h=>by simp [stTab,St.get,Tr.get] at h,fun id o h=>by simp [stTab,St.get,Tr.get] at h,fun p hp=>⟨hgl p hp,fun a ha=>by
    obtain ⟨t,_,rfl⟩:=List.mem_map.1 hp
    simp only [intsAV] at ha
    obtain ⟨z,_,rfl⟩:=List.mem_map.1 ha
    exact ⟨_,rfl⟩,by
    simp only [stTab,tabsD,List.map_cons,List.map_nil,List.mem_cons,List.mem_nil_iff,or_false] at hp
    rcases hp with rfl|rfl|rfl<;>simp [intsAV,zs32,zs64,zs10]⟩⟩
end
section
set_option maxRecDepth 4000
open Go
theorem step_below{g:G}{st:St}{w w':World}(h:OK g st w)(hb:RowKit.Below w.heap.size w w'):Step g st w g st w':=
  ⟨.refl g,⟨fun b hb'=>by
      obtain ⟨cs,T,fr,k1,k2⟩:=h.imm b hb'
      exact ⟨cs,T,fr,by rw [hb.block b (h.immlt hb')];exact k1,k2⟩,fun id o hg=>⟨(h.obj id o hg).1,(h.obj id o hg).2.keep (.refl g) (h.lt hg).1 (hb.block _ (h.lt hg).2)⟩,h.inj,h.sep,h.n,h.glob⟩,
    hb.os,hb.tape,hb.output,hb.size,fun b hb' _=>hb.block b hb',fun id o hg _=>⟨id,o,hg,rfl,fun _=>⟨rfl,rfl⟩⟩,fun _ _ _=>rfl,rfl,rfl⟩
end
section
set_option maxRecDepth 100000
open Go.RowKit Go.Shelf
abbrev u8(n:Int):AV:= .val (.int .u8 n)
abbrev u16(n:Int):AV:= .val (.int .u16 n)
abbrev u64(n:Int):AV:= .val (.int .u64 n)
abbrev i64(n:Int):AV:= .val (.int .i64 n)
abbrev str(s:ByteArray):AV:= .val (.string s)
abbrev TT:AV:= .val (.bool true)
abbrev FF:AV:= .val (.bool false)
def bo(b:Bool):AV:= .val (.bool b)
theorem hE:EOK' Tryz.prog E0:=envOf_ok (P:=Tryz.prog) rfl
def obC(f:Nat)(args:List AV)(st:St)(a:AV)(st':St):Prop:=ACalls Tryz.prog f args (fun r s=>r=a∧s=st') st
def noOv:OvP:=fun _ _ _=>none
def noS:Nat→List Nat:=fun _=> []
theorem one{P:Nat×AV→Prop}{p:Nat×AV}(h:P p):∀q∈ [p],P q:=fun q hq=>by obtain rfl:=List.mem_singleton.1 hq;exact h
theorem conz{P:Nat×AV→Prop}{p:Nat×AV}{r:List (Nat×AV)}(h:P p)(h':∀q∈r,P q):∀q∈p::r,P q:=fun q hq=>by
  rcases List.mem_cons.1 hq with rfl|hq
  · exact h
  · exact h' q hq
/-- this store holds the tables -/
def Tabs(st:St):Prop:=∀p∈(stTab tabsD).gl,p∈st.gl
/-! ### the shelf's contracts, over the abstract machine -/
theorem vals1{g:G}{a:Value}{us:List Value}(h:VRs g [.val a] us):us.toArray= #[a]:=by
  match us,h,h.1 with
  | [u],h,_=>rw [h.head.val_inv]
theorem vals2{g:G}{a b:Value}{us:List Value}(h:VRs g [.val a,.val b] us):us.toArray= #[a,b]:=by
  match us,h,h.1 with
  | [u,v],h,_=>
    have h1:=(h.2 0 (by simp)).val_inv
    have h2:=(h.2 1 (by simp)).val_inv
    simp at h1 h2
    rw [h1,h2]
theorem ib_ok(s:ByteArray)(c:Int)(st:St):obC 75 [str s,u8 c] st (i64 (Lib.indexByte s.data.toList c.toNat.toUInt8)) st:=by
  intro g w us hok hv
  rw [vals2 hv]
  exact (Any.stringslite_IndexByte Tryz.indexByte17 s c w).mono fun e w' ⟨he,hw⟩=>by
    subst hw
    exact ⟨g,st,_,_,he,.refl hok,.val _ rfl,rfl,rfl⟩
theorem count_ok(s:ByteArray)(c:UInt8)(st:St):obC 89 [str s,str ⟨#[c]⟩] st (i64 (Lib.countByte s.data.toList c:Nat)) st:=by
  intro g w us hok hv
  rw [vals2 hv]
  exact (Any.strings_Count_one Tryz.count63 s c w).mono fun e w' ⟨he,hw⟩=>by
    subst hw
    exact ⟨g,st,_,_,he,.refl hok,.val _ rfl,rfl,rfl⟩
theorem exJoin:Builder.Extra Tryz.prog Tryz.join44_ren:={
  sizeBuilder:=by kernel_rfl
  liesBuilder:=by kernel_rfl
  t5:=Tryz.underlying5
  a5:=Tryz.isAgg5
  z5:=Tryz.sizeOf5
  v5:=Tryz.zeroValue5
  infoByte:=by kernel_rfl
  cellsByte:=by kernel_rfl
  sizeByte:=by kernel_rfl
  neB5:=by decide}
theorem exStr:Builder.Extra Tryz.prog Tryz.string27_ren:={
  sizeBuilder:=by kernel_rfl
  liesBuilder:=by kernel_rfl
  t5:=Tryz.underlying5
  a5:=Tryz.isAgg5
  z5:=Tryz.sizeOf5
  v5:=Tryz.zeroValue5
  infoByte:=by kernel_rfl
  cellsByte:=by kernel_rfl
  sizeByte:=by kernel_rfl
  neB5:=by decide}
def strsB(xs:List ByteArray):List AV:=xs.map str
theorem join_ok{x:AV}{xs:List ByteArray}{sep:ByteArray}{st:St}(hx:sliceCells st x=some (xs.length,strsB xs))(hN:xs.length≤140737488355328)(hlen:(Lib.join (xs.map (·.data.toList)) sep.data.toList).length≤140737488355328):
    obC 65 [x,str sep] st (str ⟨(Lib.join (xs.map (·.data.toList)) sep.data.toList).toArray⟩) st:=by
  intro g w us hok hv
  match us,hv,hv.1 with
  | [u,v],hv,_=>
    have h1:=hv.2 0 (by simp)
    have h2:=(hv.2 1 (by simp)).val_inv
    simp only [List.getD_cons_zero,List.getD_cons_succ] at h1 h2
    subst h2
    obtain ⟨a,c,us,rfl,hl,hcm,hnil,hvs,hone,hcell⟩:=sliceCells_ok hx hok h1
    have hus:us=xs.map fun s=>Value.string s:=by
      apply List.ext_getElem?
      intro i
      rw [List.getElem?_map]
      by_cases hi:i<xs.length
      · have:=hvs.2 i (by simp [strsB,hi])
        rw [List.getD_eq_getElem?_getD] at this
        have e1:(strsB xs)[i]? =some (str xs[i]):=by simp [strsB,hi]
        rw [e1] at this
        have e2:=this.val_inv
        have hi2:i<us.length:=by rw [hvs.1];simpa [strsB] using hi
        rw [List.getD_eq_getElem?_getD,List.getElem?_eq_getElem hi2] at e2
        rw [List.getElem?_eq_getElem hi2,List.getElem?_eq_getElem hi]
        simpa using e2
      · rw [List.getElem?_eq_none (by rw [hvs.1];simp [strsB];omega),List.getElem?_eq_none (by omega)];rfl
    by_cases hx0:xs= []
    · subst hx0
      refine (Any.strings_Join_none Tryz.join44 exJoin a c sep w).mono fun e w' ⟨he,hw⟩=> ?_
      subst hw
      exact ⟨g,st,_,_,he,.refl hok,.val _ rfl,rfl,rfl⟩
    · obtain ⟨b,o,rfl,hc⟩:=hcell (by rw [hus];simpa using hx0)
      have hcells:∀(j:Nat) x,xs[j]? =some x→w.cell? ⟨b,o+j,none⟩=some (.string x):=fun j x hj=>hc j _ (by rw [hus,List.getElem?_map,hj];rfl)
      have hb:b<w.heap.size:=by
        obtain ⟨y,r,rfl⟩:∃y r,xs=y::r:=by cases xs with|nil=>exact absurd rfl hx0|cons y r=>exact ⟨y,r,rfl⟩
        exact World.block_lt_of_cell? _ _ (hcells 0 y rfl)
      refine (Any.strings_Join Tryz.join44 exJoin b o c xs sep w hcells hb hN hl hlen).mono fun e w' ⟨he,hw⟩=> ?_
      exact ⟨g,st,_,_,he,step_below hok hw,.val _ rfl,rfl,rfl⟩
end
section
set_option maxRecDepth 100000
open Go.RowKit Go.Shelf
/-! ### (*strings.Builder).String, wherever the buffer lies -/
theorem liesAt_bytesO{P:Program}{e:TypeId}(hc:P.cellsOf e=1)(count o n:Nat)(hn:o+n≤count):liesAt P P.depth e count o e n=true:=by
  have hd:P.depth=(2*(P.types.size+Made.depth)+1)+1:=rfl
  rw [hd]
  simp only [liesAt,Bool.or_eq_true]
  left
  rw [hd]
  have h1:o%1=0:=Nat.mod_one o
  simp [rowAt,hc,hn,sameLayout,h1]
theorem run_unsafeString_at{P:Program}(w:World)(pt it ty e:TypeId)(hp:P.underlying pt=some (.pointer e))(hc:P.cellsOf e=1)(g o cells:Nat)(hsh:w.shape? g=some (e,cells))(l:List UInt8)(h0:l≠ [])(hn:o+l.length≤cells)(h63:l.length≤9223372036854775807)
    (hcell:∀j x,l[j]? =some x→w.cell? ((⟨g,o,none⟩:Addr).add j)=some (.int .u8 x.toNat)):
    (Builtin.unsafeString_ #[pt,it] ty #[.pointer (some ⟨g,o,none⟩),.int .i64 l.length]).run P w= .ok (.string ⟨l.toArray⟩) (w.freeze ⟨g,o,none⟩ l.length):=by
  have hl:l.length≠0:=by simpa using h0
  have hlb:=Lib.run_loadBytes (P:=P) w l ⟨g,o,none⟩ .empty hcell
  have hlies:=liesAt_bytesO (P:=P) hc (cells/P.cellsOf e) o l.length (by rw [hc];simpa using hn)
  have h63':¬(9223372036854775807:Int)<(l.length:Int):=by omega
  have hdef:Builtin.unsafeString_ #[pt,it] ty #[.pointer (some ⟨g,o,none⟩),.int .i64 l.length]=
      (do
        let n←asInt (.int .i64 l.length)
        if n<0 then runtimePanic (.error "unsafe.String: len out of range")
        if n>IntKind.i64.max then unsupported (.unsafePointer "String: a length above the largest int")
        if n=0 then pure (.string .empty)
        else if←variablesAt ⟨g,o,none⟩ (←elemOf pt) n.toNat then do
          let s←loadBytes ⟨g,o,none⟩ .empty n.toNat
          freeze ⟨g,o,none⟩ n.toNat
          pure (.string s)
        else unsupported (.unsafePointer "String: not so many bytes at ptr")):=rfl
  rw [hdef]
  have hmax:IntKind.i64.max=9223372036854775807:=rfl
  have hneg:¬(l.length:Int)<0:=by omega
  simp [asInt,asIntOf,hmax,h63',hneg,hl,variablesAt,hsh,elemOf,run_underlying hp,hlies,hlb]
set_option maxHeartbeats 1000000 in
theorem Builder_String_at{P:Program}{ρ:Ren}(L:Lays.n169 P ρ)(X:Builder.Extra P ρ)(b g o cap:Nat)(cur:Array Value)(fr:Nat×Nat)(l:List UInt8)(w:World)(c1':w.cell? ⟨b,1,none⟩=some (.slice (some ⟨g,o,none⟩) l.length cap))(h0:l≠ [])(hcap:l.length≤cap)
    (hg:w.heap[g]? =some (.cells cur (ρ.t 5) fr)) (ho:o+l.length≤cur.size) (h63:l.length≤9223372036854775807) (hcell:∀j x,l[j]? =some x→w.cell? ((⟨g,o,none⟩:Addr).add j)=some (.int .u8 x.toNat)):
    Calls P (ρ.f 169) #[.pointer (some ⟨b,0,none⟩)] w fun e w'=>e= .returned (.string ⟨l.toArray⟩)∧w'=w.drew.freeze ⟨g,o,none⟩ l.length:=by
  have hl0:l.length≠0:=by simpa using h0
  have c1:w.drew.cell? ⟨b,1,none⟩=some (.slice (some ⟨g,o,none⟩) l.length cap):=c1'
  have hSD:(Builtin.unsafeSliceData_ #[(ρ.t 37)] (ρ.t 127) #[.slice (some ⟨g,o,none⟩) l.length cap]).run P w.drew= .ok (.pointer (some ⟨g,o,none⟩)) w.drew:=
    Lib.run_unsafeSliceData_row _ _ _ _ _ _ (by omega)
  have hUS:(Builtin.unsafeString_ #[(ρ.t 127),(ρ.t 3)] (ρ.t 9) #[.pointer (some ⟨g,o,none⟩),.int .i64 l.length]).run P w.drew= .ok (.string ⟨l.toArray⟩) (w.drew.freeze ⟨g,o,none⟩ l.length):=by
    refine run_unsafeString_at w.drew (ρ.t 127) (ρ.t 3) (ρ.t 9) (ρ.t 5) L.t127 X.cellsByte g o cur.size (by have hg':w.drew.heap[g]? =some (.cells cur (ρ.t 5) fr):=hg;simp [World.shape?,hg']) l h0 ho h63 ?_
    intro j x hx
    exact hcell j x hx
  have mixed:=L.mixed
  have t72:=L.t72;have a72:=L.a72;have z72:=L.z72;have v72:=L.v72;have u72:=run_underlying L.t72
  have t70:=L.t70;have a70:=L.a70;have z70:=L.z70;have v70:=L.v70;have u70:=run_underlying L.t70
  have t37:=L.t37;have a37:=L.a37;have z37:=L.z37;have v37:=L.v37;have u37:=run_underlying L.t37
  have t127:=L.t127;have a127:=L.a127;have z127:=L.z127;have v127:=L.v127;have u127:=run_underlying L.t127
  have t3:=L.t3;have a3:=L.a3;have z3:=L.z3;have v3:=L.v3;have u3:=run_underlying L.t3
  have t9:=L.t9;have a9:=L.a9;have z9:=L.z9;have v9:=L.v9;have u9:=run_underlying L.t9
  have t5:=X.t5;have a5:=X.a5;have z5:=X.z5;have v5:=X.v5;have u5:=run_underlying X.t5
  go_enter L.f169,Body.n169_ntmps ρ
  go_wp2
  go_region_o
  all_goals (go_wp2;go_ret;exact ⟨rfl,rfl⟩)
theorem step_away{g:G}{st:St}{w w':World}(h:OK g st w){id:Nat}{o0:AObj}(hgw:st.wget id=some o0)(hos:w'.os=w.os)(ht:w'.tape=w.tape)(hu:w'.output=w.output)
    (hsz:w'.heap.size=w.heap.size) (hold:∀k,k≠g.blk id→w'.heap[k]? =w.heap[k]?):Step g st w g (st.del id) w':=by
  obtain ⟨hg,hlk⟩:=St.wget_get hgw
  have get':∀i o',(st.del id).get i=some o'→i≠id∧st.get i=some o':=by
    intro i o' hi
    rw [St.get_del] at hi
    split at hi
    · cases hi
    · rename_i e2;exact ⟨e2,hi⟩
  refine ⟨.refl g,⟨fun b hb=> ?_,fun i o' hi=> ?_,fun i1 o1 i2 o2 h1 h2 he=>h.inj _ _ _ _ (get' _ _ h1).2 (get' _ _ h2).2 he,fun i o' hi=>h.sep _ _ (get' _ _ hi).2,h.n,h.glob⟩,hos,ht,hu,by rw [hsz];exact Nat.le_refl _,fun b _ hn=>hold b (fun e=>hn id o0 hgw e.symm),fun i o' hi _=> ?_,fun _ _ _=>rfl,rfl,rfl⟩
  · obtain ⟨cs,T,fr,h1,h2⟩:=h.imm b hb
    refine ⟨cs,T,fr,?_,h2⟩
    rw [hold b]
    · exact h1
    · intro e
      subst e
      exact hb (h.sep id o0 hg)
  · obtain ⟨e2,hi'⟩:=get' i o' hi
    obtain ⟨h1,h2⟩:=h.obj i o' hi'
    exact ⟨h1,h2.keep (.refl g) (h.lt hi').1 (hold _ (fun he=>e2 (h.inj i o' id o0 hi' hg he)))⟩
  · exact ⟨i,o',(get' i o' hi).2,rfl,fun _=>⟨rfl,rfl⟩⟩
/-- bytes as a row's cells -/
def bytesAV(l:List UInt8):List AV:=l.map fun c=>u8 c.toNat
theorem ptr1{g:G}{id:Nat}{us:List Value}(h:VRs g [.ptr id 0] us)(hb:g.base id=0):us.toArray= #[.pointer (some ⟨g.blk id,0,none⟩)]:=by
  match us,h,h.1 with
  | [u],h,_=>
    have:=(h.2 0 (by simp))
    simp only [List.getD_cons_zero] at this
    rw [this.ptr_inv.2,hb]
/-- String of a builder that holds bytes -/
theorem string_ok{st:St}{id buf n:Nat}{p:AV}{full:Bool}{vs:List AV}{l:List UInt8}(hm:(id,[])∈st.gl)(hb:st.get id=some (.row [p,.sl buf 1 0 n full] 83))(hw:st.wget buf=some (.row vs 5))(hv:vs.take n=bytesAV l)(hn:n=l.length)(h0:l≠ []):
    obC 37 [.ptr id 0] st (str ⟨l.toArray⟩) (st.del buf):=by
  intro g w us hok hvs
  obtain ⟨_,_,hmk⟩:=hok.glob _ hm
  obtain ⟨hlt,hbase,hsiz⟩:=hmk rfl
  rw [ptr1 hvs hbase]
  obtain ⟨us2,h1,h2,h3⟩:=hok.row_cells hb
  have hv1:=h1.2 1 (by simp)
  simp only [List.getD_cons_succ,List.getD_cons_zero] at hv1
  have hl2:us2.length=2:=h1.1
  have c1:w.cell? ⟨g.blk id,1,none⟩=some (us2.getD 1 (.tuple #[])):=by
    have:=h3 1 (us2.getD 1 (.tuple #[])) (by rw [List.getD_eq_getElem?_getD,List.getElem?_eq_getElem (by omega)];rfl)
    rw [hbase] at this
    exact this
  obtain ⟨hgt,_⟩:=St.wget_get hw
  obtain ⟨_,cs,fr,us3,k2,k3,k4,k4',k5,k6⟩:=hok.obj buf _ hgt
  generalize us2.getD 1 (.tuple #[])=v1 at hv1 c1
  cases hv1 with
  |sl _ _ _ _ cap _ q1 q2 q3 q4 q5=>
    subst hn
    rw [Nat.add_zero] at c1
    have hlen:l.length≤us3.length:=by
      have:=congrArg List.length hv
      simp only [List.length_take,bytesAV,List.length_map] at this
      rw [k4.1];omega
    have hcell:∀j x,l[j]? =some x→w.cell? ((⟨g.blk buf,g.base buf,none⟩:Addr).add j)=some (.int .u8 x.toNat):=by
      intro j x hj
      obtain ⟨us4,m1,m2,m3⟩:=hok.row_cells hgt
      have hjl:j<l.length:=(List.getElem?_eq_some_iff.1 hj).1
      have e1:vs[j]? =some (u8 x.toNat):=by
        have:(vs.take l.length)[j]? =some (u8 x.toNat):=by rw [hv];simp [bytesAV,hj]
        rwa [List.getElem?_take_of_lt hjl] at this
      have hjv:j<us4.length:=by rw [m1.1];exact (List.getElem?_eq_some_iff.1 e1).1
      have e2:=m1.2 j (by rw [←m1.1];exact hjv)
      rw [List.getD_eq_getElem?_getD,e1] at e2
      have e3:=e2.val_inv
      have:=m3 j _ (List.getElem?_eq_getElem hjv)
      rw [List.getD_eq_getElem?_getD,List.getElem?_eq_getElem hjv] at e3
      simp only [Option.getD_some] at e3
      rw [add_mid',this,e3]
    have hle:=k5.length_le
    simp only [List.length_drop,Array.length_toList] at hle
    refine (Builder_String_at Tryz.string27 exStr (g.blk id) (g.blk buf) (g.base buf) cap cs fr l w c1 h0 q3 k2 (by omega) (by simp only [maxLen] at q5;omega) hcell).mono fun e w' ⟨he,hw'⟩=> ?_
    subst hw'
    refine ⟨g,st.del buf,_,_,he,?_,.val _ rfl,rfl,rfl⟩
    refine step_away hok hw ?_ ?_ ?_ ?_ ?_
    all_goals first
      |(unfold World.freeze;split<;>rfl)
      |(intro k hk;unfold World.freeze;split<;>first|(simp only [Array.getElem?_modify];rw [if_neg (fun e=>hk e.symm)];rfl)|rfl)
      |(unfold World.freeze;split<;>simp)
set_option maxHeartbeats 1000000 in
theorem Builder_String_none{P:Program}{ρ:Ren}(L:Lays.n169 P ρ)(X:Builder.Extra P ρ)(b:Nat)(w:World)(c1':w.cell? ⟨b,1,none⟩=some (.slice none 0 0)):
    Calls P (ρ.f 169) #[.pointer (some ⟨b,0,none⟩)] w fun e w'=>e= .returned (.string ⟨#[]⟩)∧w'=w.drew:=by
  have hUS:=Any.unsafeString_none L X
  have c1:w.drew.cell? ⟨b,1,none⟩=some (.slice none 0 0):=c1'
  have hSD:(Builtin.unsafeSliceData_ #[(ρ.t 37)] (ρ.t 127) #[.slice none 0 0]).run P w.drew= .ok (.pointer none) w.drew:=rfl
  have mixed:=L.mixed
  have t72:=L.t72;have a72:=L.a72;have z72:=L.z72;have v72:=L.v72;have u72:=run_underlying L.t72
  have t70:=L.t70;have a70:=L.a70;have z70:=L.z70;have v70:=L.v70;have u70:=run_underlying L.t70
  have t37:=L.t37;have a37:=L.a37;have z37:=L.z37;have v37:=L.v37;have u37:=run_underlying L.t37
  have t127:=L.t127;have a127:=L.a127;have z127:=L.z127;have v127:=L.v127;have u127:=run_underlying L.t127
  have t3:=L.t3;have a3:=L.a3;have z3:=L.z3;have v3:=L.v3;have u3:=run_underlying L.t3
  have t9:=L.t9;have a9:=L.a9;have z9:=L.z9;have v9:=L.v9;have u9:=run_underlying L.t9
  have t5:=X.t5;have a5:=X.a5;have z5:=X.z5;have v5:=X.v5;have u5:=run_underlying X.t5
  go_enter L.f169,Body.n169_ntmps ρ
  go_wp2
  go_region_o
  all_goals (go_wp2;go_ret;exact ⟨rfl,rfl⟩)
/-- the builder's cells in the world -/
theorem bld_cells{st:St}{g:G}{w:World}{id:Nat}{p x:AV}(hok:OK g st w)(hm:(id,[])∈st.gl)(hb:st.get id=some (.row [p,x] 83)):g.base id=0∧∃u v fr,w.heap[g.blk id]? =some (.cells #[u,v] 83 fr)∧VR g p u∧VR g x v∧(fr.1=fr.2∨2≤fr.1):=by
  obtain ⟨_,_,hmk⟩:=hok.glob _ hm
  obtain ⟨hlt,hbase,hsiz⟩:=hmk rfl
  obtain ⟨_,cs,fr,us,k2,k3,k4,k4',k5,k6⟩:=hok.obj id _ hb
  rw [hbase,hsiz] at k3
  rw [hbase,List.drop_zero] at k5
  refine ⟨hbase,?_⟩
  match us,k4,k4.1,k5 with
  | [u,v],k4,_,k5=>
    have e: [u,v]=cs.toList:=k5.eq_of_length (by simp [k3])
    have e2:cs= #[u,v]:=by apply Array.ext';rw [←e]
    subst e2
    exact ⟨u,v,fr,k2,by simpa using k4.2 0 (by simp),by simpa using k4.2 1 (by simp),k6⟩
/-- String of a builder that has not been written -/
theorem string_nil{st:St}{id:Nat}{p:AV}(hm:(id,[])∈st.gl)(hb:st.get id=some (.row [p,.nils] 83)):obC 37 [.ptr id 0] st (str ⟨#[]⟩) st:=by
  intro g w us hok hvs
  obtain ⟨hbase,u,v,fr,h1,h2,h3,h4⟩:=bld_cells hok hm hb
  rw [ptr1 hvs hbase]
  cases h3
  refine (Builder_String_none Tryz.string27 exStr (g.blk id) w (by simp [World.cell?,h1])).mono fun e w' ⟨he,hw'⟩=> ?_
  subst hw'
  exact ⟨g,st,_,_,he,step_idle hok rfl rfl rfl rfl,.val _ rfl,rfl,rfl⟩
/-- copyCheck -/
theorem cc_ok{st:St}{id:Nat}{p x:AV}(hm:(id,[])∈st.gl)(hb:st.get id=some (.row [p,x] 83))(hl:id∉st.lock)(hp:p= .nilp∨p= .ptr id 0):obC 63 [.ptr id 0] st (.tup []) (st.set id (.row [.ptr id 0,x] 83)):=by
  intro g w us hok hvs
  obtain ⟨hbase,u,v,fr,h1,h2,h3,h4⟩:=bld_cells hok hm hb
  rw [ptr1 hvs hbase]
  have hlt:=(hok.obj id _ hb).1
  have hpv:VR g (.ptr id 0) (.pointer (some ⟨g.blk id,0,none⟩)):=by
    have:=VR.ptr (g:=g) id 0 (by rw [hok.n];exact hlt)
    rwa [hbase] at this
  obtain ⟨a1,a2,a3⟩:=write_row hok (St.wget_of hb hl) (off:=0) (ns:= [.ptr id 0]) (us:= [.pointer (some ⟨g.blk id,0,none⟩)]) (.cons hpv (.nil g)) (fun u hu=>by simp only [List.mem_singleton] at hu;subst hu;rfl) (by simp)
  have c0:w.cell? ⟨g.blk id,0,none⟩=some u:=by simp [World.cell?,h1]
  rcases hp with rfl|rfl
  · cases h2
    refine (Any.Builder_copyCheck_fresh {Tryz.join44 with} exJoin.toX72 (g.blk id) w c0 (by simp [World.shape?,h1];rfl) (by have:=a2 0 (by simp);rwa [hbase] at this)).mono fun e w' ⟨he,hw'⟩=> ?_
    subst hw'
    refine ⟨g,_,_,_,he,?_,.tup0 _,rfl,rfl⟩
    rw [hbase] at a3
    exact a3
  · have hu:u= .pointer (some ⟨g.blk id,0,none⟩):=by rw [h2.ptr_inv.2,hbase]
    subst hu
    refine (Any.Builder_copyCheck_used {Tryz.join44 with} exJoin.toX72 (g.blk id) w c0).mono fun e w' ⟨he,hw'⟩=> ?_
    subst hw'
    refine ⟨g,_,_,_,he,?_,.tup0 _,rfl,rfl⟩
    rw [hbase] at a3
    have e1:w'.setCells (g.blk id) (0+0) [.pointer (some ⟨g.blk id,0,none⟩)]=w':=by
      show w'.setCell ⟨g.blk id,0,none⟩ _=w'
      unfold World.setCell
      congr 1
      apply Array.ext_getElem?
      intro k
      rw [Array.getElem?_modify]
      split
      · rename_i e;rw [←e,h1];rfl
      · rfl
    rw [e1] at a3
    exact a3
end
section
set_option maxRecDepth 8000
/-! ### stores -/
structure Rest (st st':St) (S:List Nat):Prop where
  keep:∀i o,i∉S→st.get i=some o→st'.get i=some o
  next:st.next≤st'.next
  lock:st'.lock=st.lock
  gl:st'.gl=st.gl
  wf:st'.wf
theorem Rest.refl{st:St}(hw:st.wf)(S:List Nat):Rest st st S:=⟨fun _ _ _ h=>h,Nat.le_refl _,rfl,rfl,hw⟩
theorem Rest.trans{a b c:St}{S:List Nat}(h:Rest a b S)(k:Rest b c S):Rest a c S:=
  ⟨fun i o hi ho=>k.keep i o hi (h.keep i o hi ho),Nat.le_trans h.next k.next,k.lock.trans h.lock,k.gl.trans h.gl,k.wf⟩
theorem Rest.weak{a b:St}{S S':List Nat}(h:Rest a b S)(hs:∀i∈S,i∈S'):Rest a b S':=
  ⟨fun i o hi ho=>h.keep i o (fun e=>hi (hs i e)) ho,h.next,h.lock,h.gl,h.wf⟩
/-- what is written is new -/
theorem Rest.fresh{a b c:St}{S:List Nat}(h:Rest a b [])(k:Rest b c S)(hw:a.wf)(hS:∀i∈S,a.next≤i):Rest a c []:=
  ⟨fun i o hi ho=>k.keep i o (fun e=>by have:=hS i e;have:=hw _ _ ho;omega) (h.keep i o hi ho),Nat.le_trans h.next k.next,k.lock.trans h.lock,k.gl.trans h.gl,k.wf⟩
theorem set_wf{st:St}(hw:st.wf){id:Nat}(hid:id<st.next)(o:AObj):(st.set id o).wf:=fun i p h=>by
  rw [St.get_set] at h
  show i<st.next
  split at h
  · omega
  · exact hw _ _ h
theorem push_wf{st:St}(hw:st.wf)(o:AObj):(st.push o).wf:=fun i p h=>by
  rw [St.get_push] at h
  show i<st.next+1
  split at h
  · omega
  · have:=hw _ _ h;omega
theorem del_wf{st:St}(hw:st.wf)(id:Nat):(st.del id).wf:=fun i p h=>by
  rw [St.get_del] at h
  split at h
  · cases h
  · exact hw _ _ h
theorem Rest.push{st:St}(hw:st.wf)(o:AObj)(S:List Nat):Rest st (st.push o) S:=
  ⟨fun i p _ h=>by have:=hw _ _ h;rw [St.get_push,if_neg (by omega)];exact h,by simp,rfl,rfl,push_wf hw o⟩
theorem Rest.set{st:St}(hw:st.wf){id:Nat}(hid:id<st.next)(o:AObj){S:List Nat}(hS:id∈S):Rest st (st.set id o) S:=
  ⟨fun i p hi h=>by rw [St.get_set,if_neg (fun e=>hi (by rw [e];exact hS))];exact h,Nat.le_refl _,rfl,rfl,set_wf hw hid o⟩
theorem Rest.del{st:St}(hw:st.wf){id:Nat}{S:List Nat}(hS:id∈S):Rest st (st.del id) S:=
  ⟨fun i p hi h=>by rw [St.get_del,if_neg (fun e=>hi (by rw [e];exact hS))];exact h,Nat.le_refl _,rfl,rfl,del_wf hw id⟩
theorem Tabs.rest{a b:St}(h:Tabs a){S:List Nat}(k:Rest a b S):Tabs b:=fun p hp=>by rw [k.gl];exact h p hp
def fid:AV→List Nat
  | .sl f _ _ _ _=> [f]
  |_=> []
/-! ### lists that grow by append -/
def Ls(st:St)(e sz:Nat)(l:AV)(n:Nat)(cells:List AV):Prop:=(n=0∧cells= []∧l= .nils)∨(cells.length=n*sz∧∃id f,l= .sl id sz 0 n f∧st.get id=some (.row cells e))
theorem Ls.keep{st st':St}{e sz n:Nat}{l:AV}{cells:List AV}(h:Ls st e sz l n cells)(hk:∀id∈fid l,st.get id=some (.row cells e)→st'.get id=some (.row cells e)):Ls st' e sz l n cells:=by
  rcases h with h|⟨h2,id,f,h3,h4⟩
  · exact .inl h
  · exact .inr ⟨h2,id,f,h3,hk id (by rw [h3];simp [fid]) h4⟩
theorem Ls.rest{st st':St}{e sz n:Nat}{l:AV}{cells:List AV}(h:Ls st e sz l n cells){S:List Nat}(hr:Rest st st' S)(hS:∀i∈fid l,i∉S):Ls st' e sz l n cells:=
  h.keep fun id hi hg=>hr.keep _ _ (hS id hi) hg
theorem Ls.lt{st:St}{e sz n:Nat}{l:AV}{cells:List AV}(h:Ls st e sz l n cells)(hw:st.wf):∀i∈fid l,i<st.next:=by
  intro i hi
  rcases h with ⟨_,_,rfl⟩|⟨h2,id,f,rfl,h4⟩
  · cases hi
  · simp only [fid,List.mem_singleton] at hi;subst hi;exact hw _ _ h4
structure ElT (t e sz:Nat):Prop where
  el:∃ti z,elemA E0 t=some (e,ti,z)∧ti.size=sz∧ti.bytes≤1000
  str:isStrTy E0 t=false
  src:∀st x,srcA E0 st t x=sliceCells st x
  ln:∀a b c n f,lenA E0 t (.sl a b c n f)=some (i64 n)
  ln0:lenA E0 t .nils=some (i64 0)
theorem elT_of{t e sz:Nat}(h:(elemA E0 t).map (fun q=>(q.1,q.2.1.size,decide (q.2.1.bytes≤1000)))=some (e,sz,true)):∃ti z,elemA E0 t=some (e,ti,z)∧ti.size=sz∧ti.bytes≤1000:=by
  obtain ⟨⟨a,ti,z⟩,h1,h2⟩:=Option.map_eq_some_iff.1 h
  simp only [Prod.mk.injEq,decide_eq_true_eq] at h2
  obtain ⟨rfl,h3,h4⟩:=h2
  exact ⟨ti,z,h1,h3,h4⟩
theorem Ls.len{t e sz:Nat}(hT:ElT t e sz){st:St}{n:Nat}{l:AV}{cells:List AV}(h:Ls st e sz l n cells):lenA E0 t l=some (i64 n):=by
  rcases h with ⟨rfl,rfl,rfl⟩|⟨h2,id,f,rfl,h4⟩
  · exact hT.ln0
  · exact hT.ln ..
theorem app_gen{t e sz:Nat}(hT:ElT t e sz){σ:St}{l x:AV}{n m:Nat}{cells c:List AV}(h:Ls σ e sz l n cells)(hw:σ.wf)(hlk:∀i∈fid l,i∉σ.lock)(hb:n+m≤100000000000)(hc:c.length=m*sz)(h0:0<m)(hx:sliceCells σ x=some (m,c)):
    ∃st5,appendA E0 σ t t l x=some (.sl σ.next sz 0 (n+m) false,st5)∧Ls st5 e sz (.sl σ.next sz 0 (n+m) false) (n+m) (cells++c)∧Rest σ st5 (fid l)∧st5.next=σ.next+1:=by
  obtain ⟨ti,z,h1,h2,h3⟩:=hT.el
  have hbb:(n+m)*ti.bytes≤140737488355328:=Nat.le_trans (Nat.mul_le_mul hb h3) (by decide)
  have hb1:m*ti.bytes≤140737488355328:=Nat.le_trans (Nat.mul_le_mul (by omega:m≤100000000000) h3) (by decide)
  rcases h with ⟨rfl,rfl,rfl⟩|⟨hlen,id,f,rfl,hg⟩
  · refine ⟨σ.push (.row c e),?_,.inr ⟨by rw [List.nil_append,hc,Nat.zero_add],_,_,rfl,by rw [St.get_push,if_pos rfl,List.nil_append]⟩,Rest.push hw _ _,rfl⟩
    simp only [appendA,h1,hT.src,hT.str,hx,h2]
    rw [if_pos ⟨hc,fun h=>by cases h⟩,if_neg (by omega),if_pos ⟨hb1,by omega⟩,Nat.zero_add]
  · have hid:=hw _ _ hg
    have hnl:id∉σ.lock:=hlk id (by simp [fid])
    have hcl:(cells++c).length=(n+m)*sz:=by rw [List.length_append,hlen,hc,Nat.add_mul]
    have htk:((cells.drop 0).take (n*sz)++c)=cells++c:=by rw [List.drop_zero,List.take_of_length_le (by omega)]
    cases f with
    |true=>
      refine ⟨σ.push (.row (cells++c) e),?_,.inr ⟨hcl,_,_,rfl,by rw [St.get_push,if_pos rfl]⟩,Rest.push hw _ _,rfl⟩
      simp only [appendA,h1,hT.src,hT.str,hx,h2,hg]
      rw [if_pos ⟨hc,fun h=>by cases h⟩,if_neg (fun h=>h rfl),if_neg (by omega),if_pos ⟨hbb,by omega⟩,if_pos ⟨trivial,by omega⟩,htk]
      rfl
    |false=>
      refine ⟨(σ.del id).push (.row (cells++c) e),?_,.inr ⟨hcl,_,_,rfl,by rw [St.get_push,if_pos (by simp)]⟩,⟨fun i o hi ho=> ?_,?_,rfl,rfl,push_wf (del_wf hw _) _⟩,rfl⟩
      · simp only [appendA,h1,hT.src,hT.str,hx,h2,hg]
        rw [if_pos ⟨hc,fun h=>by cases h⟩,if_neg (fun h=>h rfl),if_neg (by omega),if_pos ⟨hbb,by omega⟩,if_pos ⟨trivial,by omega⟩]
        simp only [Bool.false_eq_true,if_false]
        rw [if_pos ⟨by omega,hnl⟩,List.drop_zero]
      · have:=hw _ _ ho
        rw [St.get_push,if_neg (by rw [St.next_del];omega),St.get_del,if_neg (fun e=>hi (by simp [fid,e]))];exact ho
      · show σ.next≤σ.next+1;omega
theorem ty22:E0.ty 51=some ⟨.slice 5,1,24,some (.slice none 0 0)⟩:=by kernel_rfl
theorem ty5:(E0.ty 5).map (fun i=>isAggD i.desc)=some false:=by kernel_rfl
theorem ty9:E0.ty 9=some ⟨.string,1,16,some (.string ⟨#[]⟩)⟩:=by kernel_rfl
theorem el22:ElT 51 5 1:=⟨elT_of (by kernel_rfl),by kernel_rfl,fun st x=>by simp only [srcA,ty22],fun a b c n f=>by simp only [lenA,ty22],by kernel_rfl⟩
theorem plainT{t:Nat}(h:(E0.ty t).map (fun i=>isAggD i.desc)=some false){vs:List AV}{off:Nat}{a:AV}(ha:vs[off]? =some a):partA E0 t vs off=some a:=by
  unfold partA
  obtain ⟨i,h1,h2⟩:=Option.map_eq_some_iff.1 h
  rw [h1]
  simp only [h2,Bool.false_eq_true,if_false]
  exact ha
/-! ### bytes -/
theorem bytesAV_len(l:List UInt8):(bytesAV l).length=l.length:=by simp [bytesAV]
theorem bytesAV_app(a b:List UInt8):bytesAV (a++b)=bytesAV a++bytesAV b:=by simp [bytesAV]
/-- bytes that one has made -/
def OwnB(st:St)(v:AV)(l:List UInt8):Prop:=Ls st 5 1 v l.length (bytesAV l)
theorem OwnB.rest{st st':St}{v:AV}{l:List UInt8}(h:OwnB st v l){S:List Nat}(hr:Rest st st' S)(hS:∀i∈fid v,i∉S):OwnB st' v l:=Ls.rest h hr hS
/-- build some bytes and append them -/
theorem bapp{σ:St}{v:AV}{l c:List UInt8}{parts:List (Nat×AV)}(h:OwnB σ v l)(hw:σ.wf)(hlk:σ.lock= [])(hb:l.length+c.length≤100000000000)(h0:c≠ [])(hp:buildSliceA E0 σ 51 c.length parts=some (.sl σ.next 1 0 c.length true,σ.push (.row (bytesAV c) 5))):
    ∃st5,appendA E0 (σ.push (.row (bytesAV c) 5)) 51 51 v (.sl σ.next 1 0 c.length true)=some (.sl (σ.next+1) 1 0 (l.length+c.length) false,st5)∧OwnB st5 (.sl (σ.next+1) 1 0 (l.length+c.length) false) (l++c)∧Rest σ st5 (fid v)∧st5.next=σ.next+2:=by
  have hr:=Rest.push hw (.row (bytesAV c) 5) []
  have hlt:=Ls.lt h hw
  have h':OwnB (σ.push (.row (bytesAV c) 5)) v l:=h.rest hr fun i _=>by simp
  have hx:sliceCells (σ.push (.row (bytesAV c) 5)) (.sl σ.next 1 0 c.length true)=some (c.length,bytesAV c):=by
    simp only [sliceCells,St.get_push,if_true]
    rw [if_pos (by rw [bytesAV_len];omega),List.drop_zero,List.take_of_length_le (by rw [bytesAV_len];omega)]
  have hpos:0<c.length:=List.length_pos_iff.2 h0
  obtain ⟨st5,a1,a2,a3,a4⟩:=app_gen el22 h' hr.wf (fun i _=>by rw [hr.lock,hlk];simp) hb (by rw [bytesAV_len,Nat.mul_one]) hpos hx
  refine ⟨st5,a1,?_,?_,a4⟩
  · have:=a2
    rw [←bytesAV_app] at this
    unfold OwnB
    rw [List.length_append]
    exact this
  · exact (hr.weak (fun i hi=>by cases hi)).trans a3
theorem b1(st:St)(a:Int):buildSliceA E0 st 51 1 [(0,u8 a)]=some (.sl st.next 1 0 1 true,st.push (.row [u8 a] 5)):=by kernel_rfl
theorem b2(st:St)(a b:Int):buildSliceA E0 st 51 2 [(0,u8 a),(1,u8 b)]=some (.sl st.next 1 0 2 true,st.push (.row [u8 a,u8 b] 5)):=by kernel_rfl
theorem b4(st:St)(a b c d:Int):buildSliceA E0 st 51 4 [(0,u8 a),(1,u8 b),(2,u8 c),(3,u8 d)]=some (.sl st.next 1 0 4 true,st.push (.row [u8 a,u8 b,u8 c,u8 d] 5)):=by kernel_rfl
theorem b0(st:St):buildSliceA E0 st 51 0 []=some (.sl st.next 1 0 0 true,st.push (.row [] 5)):=by kernel_rfl
/-- bytes, as they are read -/
def BS(st:St)(v:AV)(bs:List UInt8):Prop:=(v= .nils∧bs= [])∨(∃f,v= .imm 1 bs.length f (bytesAV bs))∨
  ∃id off f vs,v= .sl id 1 off bs.length f∧st.get id=some (.row vs 5)∧(vs.drop off).take bs.length=bytesAV bs∧off+bs.length≤vs.length
theorem BS.len{st:St}{v:AV}{bs:List UInt8}(h:BS st v bs):lenA E0 51 v=some (i64 bs.length):=by
  rcases h with ⟨rfl,rfl⟩|⟨f,rfl⟩|⟨id,off,f,vs,rfl,_⟩
  · kernel_rfl
  · simp only [lenA,ty22]
  · simp only [lenA,ty22]
theorem BS.cells{st:St}{v:AV}{bs:List UInt8}(h:BS st v bs):sliceCells st v=some (bs.length,bytesAV bs):=by
  rcases h with ⟨rfl,rfl⟩|⟨f,rfl⟩|⟨id,off,f,vs,rfl,hg,h1,h2⟩
  · rfl
  · rfl
  · simp only [sliceCells,hg]
    rw [if_pos (by omega),Nat.mul_one,h1]
theorem BS.at{st:St}{v:AV}{bs:List UInt8}(h:BS st v bs){i:Nat}{x:UInt8}(hx:bs[i]? =some x):∃q,indexAddrA E0 51 v (i64 i)=some q∧loadA E0 st 5 q=some (u8 x.toNat):=by
  have hi:i<bs.length:=(List.getElem?_eq_some_iff.1 hx).1
  have hsz:tySize E0 5=some 1:=by kernel_rfl
  rcases h with ⟨_,rfl⟩|⟨f,rfl⟩|⟨id,off,f,vs,rfl,hg,h1,h2⟩
  · simp at hx
  · refine ⟨.iptr ((bytesAV bs).drop (i*1)),?_,?_⟩
    · simp only [indexAddrA,ty22,hsz]
      rw [if_pos ⟨trivial,by omega,by omega,by decide⟩];rfl
    · show partA E0 5 ((bytesAV bs).drop (i*1)) 0=some (u8 x.toNat)
      exact plainT ty5 (by rw [List.getElem?_drop];simp [hx,bytesAV])
  · refine ⟨.ptr id (off+i*1),?_,?_⟩
    · simp only [indexAddrA,ty22,hsz]
      rw [if_pos ⟨trivial,by omega,by omega⟩];rfl
    · simp only [loadA,hg]
      refine plainT ty5 ?_
      have:((vs.drop off).take bs.length)[i]? =some (u8 x.toNat):=by rw [h1,bytesAV,List.getElem?_map,hx];rfl
      rw [List.getElem?_take,if_pos hi,List.getElem?_drop] at this
      rw [Nat.mul_one];exact this
theorem BS.rest{st st':St}{v:AV}{bs:List UInt8}(h:BS st v bs){S:List Nat}(hr:Rest st st' S)(hS:∀i∈fid v,i∉S):BS st' v bs:=by
  rcases h with h|h|⟨id,off,f,vs,h,hg,h1,h2⟩
  · exact .inl h
  · exact .inr (.inl h)
  · exact .inr (.inr ⟨id,off,f,vs,h,hr.keep _ _ (hS id (by rw [h];simp [fid])) hg,h1,h2⟩)
theorem OwnB.bs{st:St}{v:AV}{bs:List UInt8}(h:OwnB st v bs):BS st v bs:=by
  rcases h with ⟨h1,_,h3⟩|⟨h2,id,f,h3,h4⟩
  · exact .inl ⟨h3,List.length_eq_zero_iff.1 h1⟩
  · exact .inr (.inr ⟨id,0,f,_,h3,h4,by rw [List.drop_zero,List.take_of_length_le (by rw [bytesAV_len];omega)],by rw [bytesAV_len];omega⟩)
end
section
set_option maxRecDepth 8000
/-! ### strings -/
abbrev sb(l:List UInt8):AV:=str ⟨l.toArray⟩
theorem sb_inj{a b:List UInt8}(h:(⟨a.toArray⟩:ByteArray)=⟨b.toArray⟩):a=b:=by
  have:=congrArg (fun x:ByteArray=>x.data.toList) h
  simpa using this
theorem len_sb(l:List UInt8):lenA E0 9 (sb l)=some (i64 l.length):=by
  simp only [lenA,ty9]
  rfl
theorem idx_sb{l:List UInt8}{i:Nat}{b:UInt8}(h:l[i]? =some b):indexA E0 9 (sb l) (i64 i)=some (u8 b.toNat):=by
  simp only [indexA,ty9]
  rw [if_pos (by omega)]
  have:(⟨l.toArray⟩:ByteArray)[((i:Int)).toNat]? =some b:=by
    have hi:=(List.getElem?_eq_some_iff.1 h).1
    rw [Int.toNat_natCast,getElem?_pos (⟨l.toArray⟩:ByteArray) i hi]
    have:=(List.getElem?_eq_some_iff.1 h).2
    rw [←this];rfl
  rw [this];rfl
theorem bnd_some{n k:Nat}(h:k≤n):natLe (i64 k) n=some k:=by
  show (if 0≤(k:Int)∧(k:Int)≤n then some (k:Int).toNat else none)=some k
  rw [if_pos ⟨by omega,by omega⟩];rfl
theorem extract_l(l:List UInt8)(a b:Nat):(⟨l.toArray⟩:ByteArray).extract a b=⟨((l.drop a).take (b- a)).toArray⟩:=by
  apply ByteArray.ext
  rw [ByteArray.data_extract]
  simp [List.extract_eq_take_drop]
theorem slice_hi(st:St){l:List UInt8}{k:Nat}(h:k≤l.length):sliceA E0 st 9 (sb l) none (some (i64 k)) none=some (sb (l.take k)):=by
  have hb:boundsA (⟨l.toArray⟩:ByteArray).size (⟨l.toArray⟩:ByteArray).size none (some (i64 k)) none=some (0,k,(⟨l.toArray⟩:ByteArray).size):=by
    delta boundsA
    simp only [bnd_some (n:=(⟨l.toArray⟩:ByteArray).size) h]
  simp only [sliceA,ty9,hb]
  rw [extract_l];rfl
theorem slice_lo(st:St){l:List UInt8}{k:Nat}(h:k≤l.length):sliceA E0 st 9 (sb l) (some (i64 k)) none none=some (sb (l.drop k)):=by
  have hb:boundsA (⟨l.toArray⟩:ByteArray).size (⟨l.toArray⟩:ByteArray).size (some (i64 k)) none none=some (k,l.length,(⟨l.toArray⟩:ByteArray).size):=by
    delta boundsA
    simp only [bnd_some (n:=(⟨l.toArray⟩:ByteArray).size) h]
    rfl
  simp only [sliceA,ty9,hb]
  rw [extract_l,List.take_of_length_le (by rw [List.length_drop];omega)];rfl
theorem eq_sbT{a b:List UInt8}(h:a=b):binA E0 .eql 9 (sb a) (sb b)=some TT:=eqST (by rw [h])
theorem eq_sbF{a b:List UInt8}(h:a≠b):binA E0 .eql 9 (sb a) (sb b)=some FF:=eqSF (fun e=>h (sb_inj e))
theorem ne_sbT{a b:List UInt8}(h:a≠b):binA E0 .neq 9 (sb a) (sb b)=some TT:=neST (fun e=>h (sb_inj e))
theorem ne_sbF{a b:List UInt8}(h:a=b):binA E0 .neq 9 (sb a) (sb b)=some FF:=neSF (by rw [h])
theorem nums_bytes:∀l:List UInt8,numsA (bytesAV l)=some (l.map fun c=>(c.toNat:Int))
  | []=>rfl
  |c::r=>by
    show (numsA (bytesAV r)).map (fun xs=>((c.toNat:Nat):Int)::xs)=_
    rw [nums_bytes r];rfl
theorem str_bytes(l:List UInt8):strOfNums (l.map fun c=>(c.toNat:Int))=⟨l.toArray⟩:=by
  unfold strOfNums
  congr 1
  apply Array.ext'
  simp only [List.map_map]
  apply List.ext_getElem?
  intro i
  rw [List.getElem?_map]
  cases l[i]? with
  |none=>rfl
  |some c=>simp
theorem BS.str{st:St}{v:AV}{bs:List UInt8}(h:BS st v bs):convO E0 st 51 9 v=some (sb bs,st):=by
  have hc:=h.cells
  obtain ⟨i,j,k,h1,h2,h3,h4,h5,h6⟩:∃i j k,E0.ty 51=some i∧E0.ty 9=some j∧E0.ty 5=some k∧i.desc= .slice 5∧j.desc= .string∧k.desc= .int .u8:=⟨_,_,_,rfl,rfl,rfl,by kernel_rfl,by kernel_rfl,by kernel_rfl⟩
  have hs:bytesStrA E0 st 51 9 v=some (sb bs):=by
    simp only [bytesStrA,hc,h1,h2,h4,h5,h3,h6,nums_bytes]
    rw [if_pos (by simp),str_bytes]
  have hv:∀n k,v≠ .val (.int k n):=fun n k e=>by
    rcases h with ⟨rfl,_⟩|⟨f,rfl⟩|⟨id,off,f,vs,rfl,_⟩<;>cases e
  have hv2:∀b,v≠ .val (.string b):=fun b e=>by
    rcases h with ⟨rfl,_⟩|⟨f,rfl⟩|⟨id,off,f,vs,rfl,_⟩<;>cases e
  have hA:convA E0 st 51 9 v=some (sb bs,st):=by unfold convA;rw [hs]
  unfold convO
  rcases h with ⟨rfl,_⟩|⟨f,rfl⟩|⟨id,off,f,vs,rfl,_⟩<;>exact hA
/-! ### numbers -/
theorem add3{a b:Nat}(h:a+b≤9000000000000000000):binA E0 .add 3 (i64 a) (i64 b)=some (i64 ((a+b:Nat):Int)):=by
  rw [Int.natCast_add];exact add64 (by omega)
theorem sub3{a b:Nat}(h:b≤a)(h2:a≤9000000000000000000):binA E0 .sub 3 (i64 a) (i64 b)=some (i64 ((a- b:Nat):Int)):=by
  rw [Int.ofNat_sub h];exact sub64 (by omega)
theorem shr5(a:Nat):binA E0 .shr 5 (u8 a) (u64 4)=some (u8 ((a/16:Nat):Int)):=by
  show pureVal (Op.shift .shr .u8 (a:Int) .u64 ((4:Nat):Int))=_
  unfold Op.shift
  rw [if_neg (by omega)]
  have e:(a:Int).fdiv (2^(min 4 64))=((a/16:Nat):Int):=by
    rw [Int.fdiv_eq_ediv_of_nonneg _ (by decide)]
    rfl
  show some (AV.val (.int .u8 ((a:Int).fdiv (2^(min 4 64)))))=_
  rw [e]
theorem and5(a:Nat)(h:a<256):binA E0 .and 5 (u8 a) (u8 15)=some (u8 ((a%16:Nat):Int)):=by
  show some (AV.val (.int .u8 (IntKind.u8.wrap (((BitVec.ofInt 8 (a:Int))&&&(BitVec.ofInt 8 ((15:Nat):Int))).toNat:Int))))=_
  rw [BitVec.ofInt_natCast,BitVec.ofInt_natCast,BitVec.toNat_and,BitVec.toNat_ofNat,BitVec.toNat_ofNat,Nat.mod_eq_of_lt (by omega:a<2^8),Nat.mod_eq_of_lt (by omega)]
  have e:a&&&15=a%16:=Nat.and_two_pow_sub_one_eq_mod a 4
  rw [e]
  have:a%16<16:=Nat.mod_lt _ (by decide)
  generalize a%16=d at this
  have hw:IntKind.u8.wrap (d:Int)=d:=by
    show (d:Int)%256=d
    omega
  rw [hw]
/-! ### the words -/
def hexD(n:Nat):UInt8:=if n<10 then UInt8.ofNat (48+n) else UInt8.ofNat (87+n)
def hexs:List UInt8:= [48,49,50,51,52,53,54,55,56,57,97,98,99,100,101,102]
def escB(c:UInt8):List UInt8:=if c.toNat<32∨126<c.toNat then [92,120,hexD (c.toNat/16),hexD (c.toNat%16)] else if c=34∨c=92 then [92,c] else [c]
def quoteF(b:List UInt8):List UInt8:=34::b.flatMap escB++ [34]
theorem hex_at:∀n:Fin 16,hexs[n.val]? =some (hexD n.val):=by decide
theorem hex_idx{n:Nat}(h:n<16):indexA E0 9 (str ⟨#[48,49,50,51,52,53,54,55,56,57,97,98,99,100,101,102]⟩) (u8 n)=some (u8 (hexD n).toNat):=
  idx_sb (l:=hexs) (hex_at ⟨n,h⟩)
theorem esc_len(c:UInt8):(escB c).length≤4:=by
  unfold escB;split
  · simp
  · split<;>simp
theorem esc_flat(b:List UInt8):(b.flatMap escB).length≤4*b.length:=by
  induction b with
  |nil=>simp
  |cons c r ih=>simp only [List.flatMap_cons,List.length_append,List.length_cons];have:=esc_len c;omega
theorem take_succ_get{l:List UInt8}{i:Nat}{c:UInt8}(h:l[i]? =some c):l.take (i+1)=l.take i++ [c]:=by
  rw [List.take_add_one,h];rfl
end
section
set_option maxRecDepth 100000
theorem f59_e(c n7:Int)(st s1:St)(s:ByteArray):evCallS Tryz.prog E0 noOv (fun _=> [6075]) 100000 59 [(str s),(u8 c)] st [.eff (i64 n7) (fun _=>s1)]=some ((i64 n7),s1,[],[obC 75 [(str s),(u8 c)] st (i64 n7) s1]):=by kernel_rfl
theorem f59{c n7:Int}{st s1:St}{s:ByteArray}(h1:obC 75 [(str s),(u8 c)] st (i64 n7) s1):obC 59 [(str s),(u8 c)] st (i64 n7) s1:=ACalls.run hE noOv_ok (f59_e c n7 st s1 s) (Ob.ok_cons.2 ⟨h1,Ob.ok_nil⟩)
theorem f81_TT_e(st:St)(s t w17:ByteArray)(n6 n8 n13 n15 n16:Int):evCallS Tryz.prog E0 noOv (fun _=> [7006,7008,7009,7013,7015,7016,7017,7019]) 100000 81 [(str s),(str t)] st [.av (i64 n6),.av (i64 n8),.av TT,.av (i64 n13),.av (i64 n15),.av (i64 n16),.av (str w17),.av TT]=some (TT,st,[],[lenA E0 9 (str s)=some (i64 n6),lenA E0 9 (str t)=some (i64 n8),binA E0 .geq 3 (i64 n6) (i64 n8)=some TT,lenA E0 9 (str s)=some (i64 n13),lenA E0 9 (str t)=some (i64 n15),binA E0 .sub 3 (i64 n13) (i64 n15)=some (i64 n16),sliceA E0 st 9 (str s) (some (i64 n16)) none none=some (str w17),binA E0 .eql 9 (str w17) (str t)=some TT]):=by kernel_rfl
theorem f81_TT{st:St}{s t w17:ByteArray}{n6 n8 n13 n15 n16:Int}(h1:lenA E0 9 (str s)=some (i64 n6))(h2:lenA E0 9 (str t)=some (i64 n8))(h3:binA E0 .geq 3 (i64 n6) (i64 n8)=some TT)(h4:lenA E0 9 (str s)=some (i64 n13))(h5:lenA E0 9 (str t)=some (i64 n15))(h6:binA E0 .sub 3 (i64 n13) (i64 n15)=some (i64 n16))(h7:sliceA E0 st 9 (str s) (some (i64 n16)) none none=some (str w17))(h8:binA E0 .eql 9 (str w17) (str t)=some TT):obC 81 [(str s),(str t)] st TT st:=ACalls.run hE noOv_ok (f81_TT_e st s t w17 n6 n8 n13 n15 n16) (Ob.ok_cons.2 ⟨h1,(Ob.ok_cons.2 ⟨h2,(Ob.ok_cons.2 ⟨h3,(Ob.ok_cons.2 ⟨h4,(Ob.ok_cons.2 ⟨h5,(Ob.ok_cons.2 ⟨h6,(Ob.ok_cons.2 ⟨h7,(Ob.ok_cons.2 ⟨h8,Ob.ok_nil⟩)⟩)⟩)⟩)⟩)⟩)⟩)⟩)
theorem f81_TF_e(st:St)(s t w17:ByteArray)(n6 n8 n13 n15 n16:Int):evCallS Tryz.prog E0 noOv (fun _=> [7006,7008,7009,7013,7015,7016,7017,7019]) 100000 81 [(str s),(str t)] st [.av (i64 n6),.av (i64 n8),.av TT,.av (i64 n13),.av (i64 n15),.av (i64 n16),.av (str w17),.av FF]=some (FF,st,[],[lenA E0 9 (str s)=some (i64 n6),lenA E0 9 (str t)=some (i64 n8),binA E0 .geq 3 (i64 n6) (i64 n8)=some TT,lenA E0 9 (str s)=some (i64 n13),lenA E0 9 (str t)=some (i64 n15),binA E0 .sub 3 (i64 n13) (i64 n15)=some (i64 n16),sliceA E0 st 9 (str s) (some (i64 n16)) none none=some (str w17),binA E0 .eql 9 (str w17) (str t)=some FF]):=by kernel_rfl
theorem f81_TF{st:St}{s t w17:ByteArray}{n6 n8 n13 n15 n16:Int}(h1:lenA E0 9 (str s)=some (i64 n6))(h2:lenA E0 9 (str t)=some (i64 n8))(h3:binA E0 .geq 3 (i64 n6) (i64 n8)=some TT)(h4:lenA E0 9 (str s)=some (i64 n13))(h5:lenA E0 9 (str t)=some (i64 n15))(h6:binA E0 .sub 3 (i64 n13) (i64 n15)=some (i64 n16))(h7:sliceA E0 st 9 (str s) (some (i64 n16)) none none=some (str w17))(h8:binA E0 .eql 9 (str w17) (str t)=some FF):obC 81 [(str s),(str t)] st FF st:=ACalls.run hE noOv_ok (f81_TF_e st s t w17 n6 n8 n13 n15 n16) (Ob.ok_cons.2 ⟨h1,(Ob.ok_cons.2 ⟨h2,(Ob.ok_cons.2 ⟨h3,(Ob.ok_cons.2 ⟨h4,(Ob.ok_cons.2 ⟨h5,(Ob.ok_cons.2 ⟨h6,(Ob.ok_cons.2 ⟨h7,(Ob.ok_cons.2 ⟨h8,Ob.ok_nil⟩)⟩)⟩)⟩)⟩)⟩)⟩)⟩)
theorem f68_T_e(st s1:St)(s t w17:ByteArray)(n13 n15 n16:Int):evCallS Tryz.prog E0 noOv (fun _=> [6081,7013,7015,7016,7017]) 100000 68 [(str s),(str t)] st [.eff TT (fun _=>s1),.av (i64 n13),.av (i64 n15),.av (i64 n16),.av (str w17)]=some ((.tup [(str w17),TT]),s1,[],[obC 81 [(str s),(str t)] st TT s1,lenA E0 9 (str s)=some (i64 n13),lenA E0 9 (str t)=some (i64 n15),binA E0 .sub 3 (i64 n13) (i64 n15)=some (i64 n16),sliceA E0 s1 9 (str s) none (some (i64 n16)) none=some (str w17)]):=by kernel_rfl
theorem f68_T{st s1:St}{s t w17:ByteArray}{n13 n15 n16:Int}(h1:obC 81 [(str s),(str t)] st TT s1)(h2:lenA E0 9 (str s)=some (i64 n13))(h3:lenA E0 9 (str t)=some (i64 n15))(h4:binA E0 .sub 3 (i64 n13) (i64 n15)=some (i64 n16))(h5:sliceA E0 s1 9 (str s) none (some (i64 n16)) none=some (str w17)):obC 68 [(str s),(str t)] st (.tup [(str w17),TT]) s1:=ACalls.run hE noOv_ok (f68_T_e st s1 s t w17 n13 n15 n16) (Ob.ok_cons.2 ⟨h1,(Ob.ok_cons.2 ⟨h2,(Ob.ok_cons.2 ⟨h3,(Ob.ok_cons.2 ⟨h4,(Ob.ok_cons.2 ⟨h5,Ob.ok_nil⟩)⟩)⟩)⟩)⟩)
theorem f68_F_e(st s1:St)(s t:ByteArray):evCallS Tryz.prog E0 noOv (fun _=> [6081,7013,7015,7016,7017]) 100000 68 [(str s),(str t)] st [.eff FF (fun _=>s1)]=some ((.tup [(str s),FF]),s1,[],[obC 81 [(str s),(str t)] st FF s1]):=by kernel_rfl
theorem f68_F{st s1:St}{s t:ByteArray}(h1:obC 81 [(str s),(str t)] st FF s1):obC 68 [(str s),(str t)] st (.tup [(str s),FF]) s1:=ACalls.run hE noOv_ok (f68_F_e st s1 s t) (Ob.ok_cons.2 ⟨h1,Ob.ok_nil⟩)
theorem f45_e(st s1:St)(s t w8a:ByteArray)(b8b:Bool):evCallS Tryz.prog E0 noOv (fun _=> [6068]) 100000 45 [(str s),(str t)] st [.eff (.tup [(str w8a),(bo b8b)]) (fun _=>s1)]=some ((.tup [(str w8a),(bo b8b)]),s1,[],[obC 68 [(str s),(str t)] st (.tup [(str w8a),(bo b8b)]) s1]):=by kernel_rfl
theorem f45{st s1:St}{s t w8a:ByteArray}{b8b:Bool}(h1:obC 68 [(str s),(str t)] st (.tup [(str w8a),(bo b8b)]) s1):obC 45 [(str s),(str t)] st (.tup [(str w8a),(bo b8b)]) s1:=ACalls.run hE noOv_ok (f45_e st s1 s t w8a b8b) (Ob.ok_cons.2 ⟨h1,Ob.ok_nil⟩)
theorem f74_TT_e(st:St)(s t w14:ByteArray)(n6 n8 n13:Int):evCallS Tryz.prog E0 noOv (fun _=> [7006,7008,7009,7013,7014,7016]) 100000 74 [(str s),(str t)] st [.av (i64 n6),.av (i64 n8),.av TT,.av (i64 n13),.av (str w14),.av TT]=some (TT,st,[],[lenA E0 9 (str s)=some (i64 n6),lenA E0 9 (str t)=some (i64 n8),binA E0 .geq 3 (i64 n6) (i64 n8)=some TT,lenA E0 9 (str t)=some (i64 n13),sliceA E0 st 9 (str s) none (some (i64 n13)) none=some (str w14),binA E0 .eql 9 (str w14) (str t)=some TT]):=by kernel_rfl
theorem f74_TT{st:St}{s t w14:ByteArray}{n6 n8 n13:Int}(h1:lenA E0 9 (str s)=some (i64 n6))(h2:lenA E0 9 (str t)=some (i64 n8))(h3:binA E0 .geq 3 (i64 n6) (i64 n8)=some TT)(h4:lenA E0 9 (str t)=some (i64 n13))(h5:sliceA E0 st 9 (str s) none (some (i64 n13)) none=some (str w14))(h6:binA E0 .eql 9 (str w14) (str t)=some TT):obC 74 [(str s),(str t)] st TT st:=ACalls.run hE noOv_ok (f74_TT_e st s t w14 n6 n8 n13) (Ob.ok_cons.2 ⟨h1,(Ob.ok_cons.2 ⟨h2,(Ob.ok_cons.2 ⟨h3,(Ob.ok_cons.2 ⟨h4,(Ob.ok_cons.2 ⟨h5,(Ob.ok_cons.2 ⟨h6,Ob.ok_nil⟩)⟩)⟩)⟩)⟩)⟩)
theorem f74_TF_e(st:St)(s t w14:ByteArray)(n6 n8 n13:Int):evCallS Tryz.prog E0 noOv (fun _=> [7006,7008,7009,7013,7014,7016]) 100000 74 [(str s),(str t)] st [.av (i64 n6),.av (i64 n8),.av TT,.av (i64 n13),.av (str w14),.av FF]=some (FF,st,[],[lenA E0 9 (str s)=some (i64 n6),lenA E0 9 (str t)=some (i64 n8),binA E0 .geq 3 (i64 n6) (i64 n8)=some TT,lenA E0 9 (str t)=some (i64 n13),sliceA E0 st 9 (str s) none (some (i64 n13)) none=some (str w14),binA E0 .eql 9 (str w14) (str t)=some FF]):=by kernel_rfl
theorem f74_TF{st:St}{s t w14:ByteArray}{n6 n8 n13:Int}(h1:lenA E0 9 (str s)=some (i64 n6))(h2:lenA E0 9 (str t)=some (i64 n8))(h3:binA E0 .geq 3 (i64 n6) (i64 n8)=some TT)(h4:lenA E0 9 (str t)=some (i64 n13))(h5:sliceA E0 st 9 (str s) none (some (i64 n13)) none=some (str w14))(h6:binA E0 .eql 9 (str w14) (str t)=some FF):obC 74 [(str s),(str t)] st FF st:=ACalls.run hE noOv_ok (f74_TF_e st s t w14 n6 n8 n13) (Ob.ok_cons.2 ⟨h1,(Ob.ok_cons.2 ⟨h2,(Ob.ok_cons.2 ⟨h3,(Ob.ok_cons.2 ⟨h4,(Ob.ok_cons.2 ⟨h5,(Ob.ok_cons.2 ⟨h6,Ob.ok_nil⟩)⟩)⟩)⟩)⟩)⟩)
theorem f74_F_e(st:St)(s t:ByteArray)(n6 n8:Int):evCallS Tryz.prog E0 noOv (fun _=> [7006,7008,7009,7013,7014,7016]) 100000 74 [(str s),(str t)] st [.av (i64 n6),.av (i64 n8),.av FF]=some (FF,st,[],[lenA E0 9 (str s)=some (i64 n6),lenA E0 9 (str t)=some (i64 n8),binA E0 .geq 3 (i64 n6) (i64 n8)=some FF]):=by kernel_rfl
theorem f74_F{st:St}{s t:ByteArray}{n6 n8:Int}(h1:lenA E0 9 (str s)=some (i64 n6))(h2:lenA E0 9 (str t)=some (i64 n8))(h3:binA E0 .geq 3 (i64 n6) (i64 n8)=some FF):obC 74 [(str s),(str t)] st FF st:=ACalls.run hE noOv_ok (f74_F_e st s t n6 n8) (Ob.ok_cons.2 ⟨h1,(Ob.ok_cons.2 ⟨h2,(Ob.ok_cons.2 ⟨h3,Ob.ok_nil⟩)⟩)⟩)
theorem f58_e(st s1:St)(s t:ByteArray)(b7:Bool):evCallS Tryz.prog E0 noOv (fun _=> [6074]) 100000 58 [(str s),(str t)] st [.eff (bo b7) (fun _=>s1)]=some ((bo b7),s1,[],[obC 74 [(str s),(str t)] st (bo b7) s1]):=by kernel_rfl
theorem f58{st s1:St}{s t:ByteArray}{b7:Bool}(h1:obC 74 [(str s),(str t)] st (bo b7) s1):obC 58 [(str s),(str t)] st (bo b7) s1:=ACalls.run hE noOv_ok (f58_e st s1 s t b7) (Ob.ok_cons.2 ⟨h1,Ob.ok_nil⟩)
noncomputable def f28P(i:Nat):Code:=match Tryz.f28.body with
  |some (.seq x0 (.seq x1 (.seq (.seq x2 (.block 0 (.loop x3))) x4)))=> [x0,x1,x2,x3,x4].getD i .skip
  |_=> .skip
theorem f28body:Tryz.f28.body=some (.seq (f28P 0) (.seq (f28P 1) (.seq (.seq (f28P 2) (.block 0 (.loop (f28P 3)))) (f28P 4)))):=by kernel_rfl
def f28L0(T:Tm)(a0:AV):Prop:=T.n=49∧T.get 0=a0
theorem f28_0_e(x:AV)(st:St):((evS Tryz.prog E0 noOv noS 100000 [] (f28P 0) ⟨49,[(0,x)],[]⟩ st []).map fun q=>(q.1,q.2.1.n,([q.2.1.get 0]:List AV),q.2.2.1,q.2.2.2.2))=some (.normal,49,[x],st,[]):=by kernel_rfl
theorem f28_0{x:AV}{st:St}{T:Tm}(hT:f28L0 T x):AW Tryz.prog (f28P 0) (fun ex T' st'=>ex= .normal∧f28L0 T' x∧st'=st) T st:=by
  obtain ⟨hn,g0⟩:=hT
  exact (gen_run (G:=fun T=>([T.get 0]:List AV)) hE (f28_0_e x st) Ob.ok_nil hn (one g0)).mono fun ex T' st' ⟨q1,q2,q3,q4⟩=>by simp only [List.cons.injEq,and_true] at q3;exact ⟨q1,⟨q2,q3⟩,q4⟩
def f28L1(T:Tm)(a0 a3:AV):Prop:=T.n=49∧T.get 0=a0∧T.get 3=a3
theorem f28_1_e(x v6:AV)(st s1:St):((evS Tryz.prog E0 noOv noS 100000 [2006] (f28P 1) ⟨49,[(0,x)],[]⟩ st [.eff v6 (fun _=>s1)]).map fun q=>(q.1,q.2.1.n,([q.2.1.get 0,q.2.1.get 3]:List AV),q.2.2.1,q.2.2.2.2))=some (.normal,49,[x,v6],s1,[buildSliceA E0 st 51 1 [(0,(u8 34))]=some (v6,s1)]):=by kernel_rfl
theorem f28_1{x v6:AV}{st s1:St}(h1:buildSliceA E0 st 51 1 [(0,(u8 34))]=some (v6,s1)){T:Tm}(hT:f28L0 T x):AW Tryz.prog (f28P 1) (fun ex T' st'=>ex= .normal∧f28L1 T' x v6∧st'=s1) T st:=by
  obtain ⟨hn,g0⟩:=hT
  exact (gen_run (G:=fun T=>([T.get 0,T.get 3]:List AV)) hE (f28_1_e x v6 st s1) (Ob.ok_cons.2 ⟨h1,Ob.ok_nil⟩) hn (one g0)).mono fun ex T' st' ⟨q1,q2,q3,q4⟩=>by simp only [List.cons.injEq,and_true] at q3;exact ⟨q1,⟨q2,q3⟩,q4⟩
def f28L2(T:Tm)(a3 a7 a8 a9:AV):Prop:=T.n=49∧T.get 3=a3∧T.get 7=a7∧T.get 8=a8∧T.get 9=a9
theorem f28_2_e(x o:AV)(st:St)(n8:Int):((evS Tryz.prog E0 noOv noS 100000 [7008] (f28P 2) ⟨49,[(0,x),(3,o)],[]⟩ st [.av (i64 n8)]).map fun q=>(q.1,q.2.1.n,([q.2.1.get 3,q.2.1.get 7,q.2.1.get 8,q.2.1.get 9]:List AV),q.2.2.1,q.2.2.2.2))=some (.normal,49,[o,x,(i64 n8),(i64 0)],st,[lenA E0 51 x=some (i64 n8)]):=by kernel_rfl
theorem f28_2{x o:AV}{st:St}{n8:Int}(h1:lenA E0 51 x=some (i64 n8)){T:Tm}(hT:f28L1 T x o):AW Tryz.prog (f28P 2) (fun ex T' st'=>ex= .normal∧f28L2 T' o x (i64 n8) (i64 0)∧st'=st) T st:=by
  obtain ⟨hn,g0,g3⟩:=hT
  exact (gen_run (G:=fun T=>([T.get 3,T.get 7,T.get 8,T.get 9]:List AV)) hE (f28_2_e x o st n8) (Ob.ok_cons.2 ⟨h1,Ob.ok_nil⟩) hn (conz g0 (one g3))).mono fun ex T' st' ⟨q1,q2,q3,q4⟩=>by simp only [List.cons.injEq,and_true] at q3;exact ⟨q1,⟨q2,q3⟩,q4⟩
theorem f28_3_TT_e(o x q11 v31 v32:AV)(n8 n9 n12 n26 n27 n29 n30 n44:Int)(st s1 s2:St):((evS Tryz.prog E0 noOv noS 100000 [2012,2015,2016,2031,2032,2042,2043,7010,7011,7019,7022,7026,7027,7029,7030,7035,7038,7044,8000] (f28P 3) ⟨49,[(3,o),(7,x),(8,(i64 n8)),(9,(i64 n9))],[]⟩ st [.av TT,.av q11,.eff (u8 n12) id,.av TT,.eff (u8 n26) id,.eff (u8 n27) id,.eff (u8 n29) id,.eff (u8 n30) id,.eff v31 (fun _=>s1),.eff v32 (fun _=>s2),.av (i64 n44)]).map fun q=>(q.1,q.2.1.n,([q.2.1.get 3,q.2.1.get 7,q.2.1.get 8,q.2.1.get 9]:List AV),q.2.2.1,q.2.2.2.2))=some (.normal,49,[v32,x,(i64 n8),(i64 n44)],s2,[binA E0 .lss 3 (i64 n9) (i64 n8)=some TT,indexAddrA E0 51 x (i64 n9)=some q11,loadA E0 st 5 q11=some (u8 n12)∧st=st,binA E0 .lss 5 (u8 n12) (u8 32)=some TT,∀k∈ [],k<st.next,binA E0 .shr 5 (u8 n12) (u64 4)=some (u8 n26),indexA E0 9 (str ⟨#[48,49,50,51,52,53,54,55,56,57,97,98,99,100,101,102]⟩) (u8 n26)=some (u8 n27),binA E0 .and 5 (u8 n12) (u8 15)=some (u8 n29),indexA E0 9 (str ⟨#[48,49,50,51,52,53,54,55,56,57,97,98,99,100,101,102]⟩) (u8 n29)=some (u8 n30),(false=true→ [].all (fun k=>(st.get k).isSome)=true),buildSliceA E0 st 51 4 [(0,(u8 92)),(1,(u8 120)),(2,(u8 n27)),(3,(u8 n30))]=some (v31,s1),(false=true→ [].all (fun k=>(s1.get k).isSome)=true),appendA E0 s1 51 51 o v31=some (v32,s2),binA E0 .add 3 (i64 n9) (i64 1)=some (i64 n44)]):=by kernel_rfl
theorem f28_3_TT{o x q11 v31 v32:AV}{n8 n9 n12 n26 n27 n29 n30 n44:Int}{st s1 s2:St}(h1:binA E0 .lss 3 (i64 n9) (i64 n8)=some TT)(h2:indexAddrA E0 51 x (i64 n9)=some q11)(h3:loadA E0 st 5 q11=some (u8 n12))(h4:binA E0 .lss 5 (u8 n12) (u8 32)=some TT)(h5:∀k∈ [],k<st.next)(h6:binA E0 .shr 5 (u8 n12) (u64 4)=some (u8 n26))(h7:indexA E0 9 (str ⟨#[48,49,50,51,52,53,54,55,56,57,97,98,99,100,101,102]⟩) (u8 n26)=some (u8 n27))(h8:binA E0 .and 5 (u8 n12) (u8 15)=some (u8 n29))(h9:indexA E0 9 (str ⟨#[48,49,50,51,52,53,54,55,56,57,97,98,99,100,101,102]⟩) (u8 n29)=some (u8 n30))(h10:buildSliceA E0 st 51 4 [(0,(u8 92)),(1,(u8 120)),(2,(u8 n27)),(3,(u8 n30))]=some (v31,s1))(h11:appendA E0 s1 51 51 o v31=some (v32,s2))(h12:binA E0 .add 3 (i64 n9) (i64 1)=some (i64 n44)){T:Tm}(hT:f28L2 T o x (i64 n8) (i64 n9)):AW Tryz.prog (f28P 3) (fun ex T' st'=>ex= .normal∧f28L2 T' v32 x (i64 n8) (i64 n44)∧st'=s2) T st:=by
  obtain ⟨hn,g3,g7,g8,g9⟩:=hT
  exact (gen_run (G:=fun T=>([T.get 3,T.get 7,T.get 8,T.get 9]:List AV)) hE (f28_3_TT_e o x q11 v31 v32 n8 n9 n12 n26 n27 n29 n30 n44 st s1 s2) (Ob.ok_cons.2 ⟨h1,(Ob.ok_cons.2 ⟨h2,(Ob.ok_cons.2 ⟨⟨h3,rfl⟩,(Ob.ok_cons.2 ⟨h4,(Ob.ok_cons.2 ⟨h5,(Ob.ok_cons.2 ⟨h6,(Ob.ok_cons.2 ⟨h7,(Ob.ok_cons.2 ⟨h8,(Ob.ok_cons.2 ⟨h9,(Ob.ok_cons.2 ⟨(fun h=>by cases h),(Ob.ok_cons.2 ⟨h10,(Ob.ok_cons.2 ⟨(fun h=>by cases h),(Ob.ok_cons.2 ⟨h11,(Ob.ok_cons.2 ⟨h12,Ob.ok_nil⟩)⟩)⟩)⟩)⟩)⟩)⟩)⟩)⟩)⟩)⟩)⟩)⟩)⟩) hn (conz g3 (conz g7 (conz g8 (one g9))))).mono fun ex T' st' ⟨q1,q2,q3,q4⟩=>by simp only [List.cons.injEq,and_true] at q3;exact ⟨q1,⟨q2,q3⟩,q4⟩
theorem f28_3_TFT_e(o x q11 v31 v32:AV)(n8 n9 n12 n26 n27 n29 n30 n44:Int)(st s1 s2:St):((evS Tryz.prog E0 noOv noS 100000 [2012,2015,2016,2031,2032,2042,2043,7010,7011,7019,7022,7026,7027,7029,7030,7035,7038,7044,8000] (f28P 3) ⟨49,[(3,o),(7,x),(8,(i64 n8)),(9,(i64 n9))],[]⟩ st [.av TT,.av q11,.eff (u8 n12) id,.av FF,.av TT,.eff (u8 n26) id,.eff (u8 n27) id,.eff (u8 n29) id,.eff (u8 n30) id,.eff v31 (fun _=>s1),.eff v32 (fun _=>s2),.av (i64 n44)]).map fun q=>(q.1,q.2.1.n,([q.2.1.get 3,q.2.1.get 7,q.2.1.get 8,q.2.1.get 9]:List AV),q.2.2.1,q.2.2.2.2))=some (.normal,49,[v32,x,(i64 n8),(i64 n44)],s2,[binA E0 .lss 3 (i64 n9) (i64 n8)=some TT,indexAddrA E0 51 x (i64 n9)=some q11,loadA E0 st 5 q11=some (u8 n12)∧st=st,binA E0 .lss 5 (u8 n12) (u8 32)=some FF,binA E0 .gtr 5 (u8 n12) (u8 126)=some TT,∀k∈ [],k<st.next,binA E0 .shr 5 (u8 n12) (u64 4)=some (u8 n26),indexA E0 9 (str ⟨#[48,49,50,51,52,53,54,55,56,57,97,98,99,100,101,102]⟩) (u8 n26)=some (u8 n27),binA E0 .and 5 (u8 n12) (u8 15)=some (u8 n29),indexA E0 9 (str ⟨#[48,49,50,51,52,53,54,55,56,57,97,98,99,100,101,102]⟩) (u8 n29)=some (u8 n30),(false=true→ [].all (fun k=>(st.get k).isSome)=true),buildSliceA E0 st 51 4 [(0,(u8 92)),(1,(u8 120)),(2,(u8 n27)),(3,(u8 n30))]=some (v31,s1),(false=true→ [].all (fun k=>(s1.get k).isSome)=true),appendA E0 s1 51 51 o v31=some (v32,s2),binA E0 .add 3 (i64 n9) (i64 1)=some (i64 n44)]):=by kernel_rfl
theorem f28_3_TFT{o x q11 v31 v32:AV}{n8 n9 n12 n26 n27 n29 n30 n44:Int}{st s1 s2:St}(h1:binA E0 .lss 3 (i64 n9) (i64 n8)=some TT)(h2:indexAddrA E0 51 x (i64 n9)=some q11)(h3:loadA E0 st 5 q11=some (u8 n12))(h4:binA E0 .lss 5 (u8 n12) (u8 32)=some FF)(h5:binA E0 .gtr 5 (u8 n12) (u8 126)=some TT)(h6:∀k∈ [],k<st.next)(h7:binA E0 .shr 5 (u8 n12) (u64 4)=some (u8 n26))(h8:indexA E0 9 (str ⟨#[48,49,50,51,52,53,54,55,56,57,97,98,99,100,101,102]⟩) (u8 n26)=some (u8 n27))(h9:binA E0 .and 5 (u8 n12) (u8 15)=some (u8 n29))(h10:indexA E0 9 (str ⟨#[48,49,50,51,52,53,54,55,56,57,97,98,99,100,101,102]⟩) (u8 n29)=some (u8 n30))(h11:buildSliceA E0 st 51 4 [(0,(u8 92)),(1,(u8 120)),(2,(u8 n27)),(3,(u8 n30))]=some (v31,s1))(h12:appendA E0 s1 51 51 o v31=some (v32,s2))(h13:binA E0 .add 3 (i64 n9) (i64 1)=some (i64 n44)){T:Tm}(hT:f28L2 T o x (i64 n8) (i64 n9)):AW Tryz.prog (f28P 3) (fun ex T' st'=>ex= .normal∧f28L2 T' v32 x (i64 n8) (i64 n44)∧st'=s2) T st:=by
  obtain ⟨hn,g3,g7,g8,g9⟩:=hT
  exact (gen_run (G:=fun T=>([T.get 3,T.get 7,T.get 8,T.get 9]:List AV)) hE (f28_3_TFT_e o x q11 v31 v32 n8 n9 n12 n26 n27 n29 n30 n44 st s1 s2) (Ob.ok_cons.2 ⟨h1,(Ob.ok_cons.2 ⟨h2,(Ob.ok_cons.2 ⟨⟨h3,rfl⟩,(Ob.ok_cons.2 ⟨h4,(Ob.ok_cons.2 ⟨h5,(Ob.ok_cons.2 ⟨h6,(Ob.ok_cons.2 ⟨h7,(Ob.ok_cons.2 ⟨h8,(Ob.ok_cons.2 ⟨h9,(Ob.ok_cons.2 ⟨h10,(Ob.ok_cons.2 ⟨(fun h=>by cases h),(Ob.ok_cons.2 ⟨h11,(Ob.ok_cons.2 ⟨(fun h=>by cases h),(Ob.ok_cons.2 ⟨h12,(Ob.ok_cons.2 ⟨h13,Ob.ok_nil⟩)⟩)⟩)⟩)⟩)⟩)⟩)⟩)⟩)⟩)⟩)⟩)⟩)⟩)⟩) hn (conz g3 (conz g7 (conz g8 (one g9))))).mono fun ex T' st' ⟨q1,q2,q3,q4⟩=>by simp only [List.cons.injEq,and_true] at q3;exact ⟨q1,⟨q2,q3⟩,q4⟩
theorem f28_3_TFFT_e(o x q11 v42 v43:AV)(n8 n9 n12 n44:Int)(st s1 s2:St):((evS Tryz.prog E0 noOv noS 100000 [2012,2015,2016,2031,2032,2042,2043,7010,7011,7019,7022,7026,7027,7029,7030,7035,7038,7044,8000] (f28P 3) ⟨49,[(3,o),(7,x),(8,(i64 n8)),(9,(i64 n9))],[]⟩ st [.av TT,.av q11,.eff (u8 n12) id,.av FF,.av FF,.av TT,.eff v42 (fun _=>s1),.eff v43 (fun _=>s2),.av (i64 n44)]).map fun q=>(q.1,q.2.1.n,([q.2.1.get 3,q.2.1.get 7,q.2.1.get 8,q.2.1.get 9]:List AV),q.2.2.1,q.2.2.2.2))=some (.normal,49,[v43,x,(i64 n8),(i64 n44)],s2,[binA E0 .lss 3 (i64 n9) (i64 n8)=some TT,indexAddrA E0 51 x (i64 n9)=some q11,loadA E0 st 5 q11=some (u8 n12)∧st=st,binA E0 .lss 5 (u8 n12) (u8 32)=some FF,binA E0 .gtr 5 (u8 n12) (u8 126)=some FF,binA E0 .eql 5 (u8 n12) (u8 34)=some TT,buildSliceA E0 st 51 2 [(0,(u8 92)),(1,(u8 n12))]=some (v42,s1),appendA E0 s1 51 51 o v42=some (v43,s2),binA E0 .add 3 (i64 n9) (i64 1)=some (i64 n44)]):=by kernel_rfl
theorem f28_3_TFFT{o x q11 v42 v43:AV}{n8 n9 n12 n44:Int}{st s1 s2:St}(h1:binA E0 .lss 3 (i64 n9) (i64 n8)=some TT)(h2:indexAddrA E0 51 x (i64 n9)=some q11)(h3:loadA E0 st 5 q11=some (u8 n12))(h4:binA E0 .lss 5 (u8 n12) (u8 32)=some FF)(h5:binA E0 .gtr 5 (u8 n12) (u8 126)=some FF)(h6:binA E0 .eql 5 (u8 n12) (u8 34)=some TT)(h7:buildSliceA E0 st 51 2 [(0,(u8 92)),(1,(u8 n12))]=some (v42,s1))(h8:appendA E0 s1 51 51 o v42=some (v43,s2))(h9:binA E0 .add 3 (i64 n9) (i64 1)=some (i64 n44)){T:Tm}(hT:f28L2 T o x (i64 n8) (i64 n9)):AW Tryz.prog (f28P 3) (fun ex T' st'=>ex= .normal∧f28L2 T' v43 x (i64 n8) (i64 n44)∧st'=s2) T st:=by
  obtain ⟨hn,g3,g7,g8,g9⟩:=hT
  exact (gen_run (G:=fun T=>([T.get 3,T.get 7,T.get 8,T.get 9]:List AV)) hE (f28_3_TFFT_e o x q11 v42 v43 n8 n9 n12 n44 st s1 s2) (Ob.ok_cons.2 ⟨h1,(Ob.ok_cons.2 ⟨h2,(Ob.ok_cons.2 ⟨⟨h3,rfl⟩,(Ob.ok_cons.2 ⟨h4,(Ob.ok_cons.2 ⟨h5,(Ob.ok_cons.2 ⟨h6,(Ob.ok_cons.2 ⟨h7,(Ob.ok_cons.2 ⟨h8,(Ob.ok_cons.2 ⟨h9,Ob.ok_nil⟩)⟩)⟩)⟩)⟩)⟩)⟩)⟩)⟩) hn (conz g3 (conz g7 (conz g8 (one g9))))).mono fun ex T' st' ⟨q1,q2,q3,q4⟩=>by simp only [List.cons.injEq,and_true] at q3;exact ⟨q1,⟨q2,q3⟩,q4⟩
theorem f28_3_TFFFT_e(o x q11 v42 v43:AV)(n8 n9 n12 n44:Int)(st s1 s2:St):((evS Tryz.prog E0 noOv noS 100000 [2012,2015,2016,2031,2032,2042,2043,7010,7011,7019,7022,7026,7027,7029,7030,7035,7038,7044,8000] (f28P 3) ⟨49,[(3,o),(7,x),(8,(i64 n8)),(9,(i64 n9))],[]⟩ st [.av TT,.av q11,.eff (u8 n12) id,.av FF,.av FF,.av FF,.av TT,.eff v42 (fun _=>s1),.eff v43 (fun _=>s2),.av (i64 n44)]).map fun q=>(q.1,q.2.1.n,([q.2.1.get 3,q.2.1.get 7,q.2.1.get 8,q.2.1.get 9]:List AV),q.2.2.1,q.2.2.2.2))=some (.normal,49,[v43,x,(i64 n8),(i64 n44)],s2,[binA E0 .lss 3 (i64 n9) (i64 n8)=some TT,indexAddrA E0 51 x (i64 n9)=some q11,loadA E0 st 5 q11=some (u8 n12)∧st=st,binA E0 .lss 5 (u8 n12) (u8 32)=some FF,binA E0 .gtr 5 (u8 n12) (u8 126)=some FF,binA E0 .eql 5 (u8 n12) (u8 34)=some FF,binA E0 .eql 5 (u8 n12) (u8 92)=some TT,buildSliceA E0 st 51 2 [(0,(u8 92)),(1,(u8 n12))]=some (v42,s1),appendA E0 s1 51 51 o v42=some (v43,s2),binA E0 .add 3 (i64 n9) (i64 1)=some (i64 n44)]):=by kernel_rfl
theorem f28_3_TFFFT{o x q11 v42 v43:AV}{n8 n9 n12 n44:Int}{st s1 s2:St}(h1:binA E0 .lss 3 (i64 n9) (i64 n8)=some TT)(h2:indexAddrA E0 51 x (i64 n9)=some q11)(h3:loadA E0 st 5 q11=some (u8 n12))(h4:binA E0 .lss 5 (u8 n12) (u8 32)=some FF)(h5:binA E0 .gtr 5 (u8 n12) (u8 126)=some FF)(h6:binA E0 .eql 5 (u8 n12) (u8 34)=some FF)(h7:binA E0 .eql 5 (u8 n12) (u8 92)=some TT)(h8:buildSliceA E0 st 51 2 [(0,(u8 92)),(1,(u8 n12))]=some (v42,s1))(h9:appendA E0 s1 51 51 o v42=some (v43,s2))(h10:binA E0 .add 3 (i64 n9) (i64 1)=some (i64 n44)){T:Tm}(hT:f28L2 T o x (i64 n8) (i64 n9)):AW Tryz.prog (f28P 3) (fun ex T' st'=>ex= .normal∧f28L2 T' v43 x (i64 n8) (i64 n44)∧st'=s2) T st:=by
  obtain ⟨hn,g3,g7,g8,g9⟩:=hT
  exact (gen_run (G:=fun T=>([T.get 3,T.get 7,T.get 8,T.get 9]:List AV)) hE (f28_3_TFFFT_e o x q11 v42 v43 n8 n9 n12 n44 st s1 s2) (Ob.ok_cons.2 ⟨h1,(Ob.ok_cons.2 ⟨h2,(Ob.ok_cons.2 ⟨⟨h3,rfl⟩,(Ob.ok_cons.2 ⟨h4,(Ob.ok_cons.2 ⟨h5,(Ob.ok_cons.2 ⟨h6,(Ob.ok_cons.2 ⟨h7,(Ob.ok_cons.2 ⟨h8,(Ob.ok_cons.2 ⟨h9,(Ob.ok_cons.2 ⟨h10,Ob.ok_nil⟩)⟩)⟩)⟩)⟩)⟩)⟩)⟩)⟩)⟩) hn (conz g3 (conz g7 (conz g8 (one g9))))).mono fun ex T' st' ⟨q1,q2,q3,q4⟩=>by simp only [List.cons.injEq,and_true] at q3;exact ⟨q1,⟨q2,q3⟩,q4⟩
theorem f28_3_TFFFF_e(o x q11 v15 v16:AV)(n8 n9 n12 n44:Int)(st s1 s2:St):((evS Tryz.prog E0 noOv noS 100000 [2012,2015,2016,2031,2032,2042,2043,7010,7011,7019,7022,7026,7027,7029,7030,7035,7038,7044,8000] (f28P 3) ⟨49,[(3,o),(7,x),(8,(i64 n8)),(9,(i64 n9))],[]⟩ st [.av TT,.av q11,.eff (u8 n12) id,.av FF,.av FF,.av FF,.av FF,.eff v15 (fun _=>s1),.eff v16 (fun _=>s2),.av (i64 n44)]).map fun q=>(q.1,q.2.1.n,([q.2.1.get 3,q.2.1.get 7,q.2.1.get 8,q.2.1.get 9]:List AV),q.2.2.1,q.2.2.2.2))=some (.normal,49,[v16,x,(i64 n8),(i64 n44)],s2,[binA E0 .lss 3 (i64 n9) (i64 n8)=some TT,indexAddrA E0 51 x (i64 n9)=some q11,loadA E0 st 5 q11=some (u8 n12)∧st=st,binA E0 .lss 5 (u8 n12) (u8 32)=some FF,binA E0 .gtr 5 (u8 n12) (u8 126)=some FF,binA E0 .eql 5 (u8 n12) (u8 34)=some FF,binA E0 .eql 5 (u8 n12) (u8 92)=some FF,buildSliceA E0 st 51 1 [(0,(u8 n12))]=some (v15,s1),appendA E0 s1 51 51 o v15=some (v16,s2),binA E0 .add 3 (i64 n9) (i64 1)=some (i64 n44)]):=by kernel_rfl
theorem f28_3_TFFFF{o x q11 v15 v16:AV}{n8 n9 n12 n44:Int}{st s1 s2:St}(h1:binA E0 .lss 3 (i64 n9) (i64 n8)=some TT)(h2:indexAddrA E0 51 x (i64 n9)=some q11)(h3:loadA E0 st 5 q11=some (u8 n12))(h4:binA E0 .lss 5 (u8 n12) (u8 32)=some FF)(h5:binA E0 .gtr 5 (u8 n12) (u8 126)=some FF)(h6:binA E0 .eql 5 (u8 n12) (u8 34)=some FF)(h7:binA E0 .eql 5 (u8 n12) (u8 92)=some FF)(h8:buildSliceA E0 st 51 1 [(0,(u8 n12))]=some (v15,s1))(h9:appendA E0 s1 51 51 o v15=some (v16,s2))(h10:binA E0 .add 3 (i64 n9) (i64 1)=some (i64 n44)){T:Tm}(hT:f28L2 T o x (i64 n8) (i64 n9)):AW Tryz.prog (f28P 3) (fun ex T' st'=>ex= .normal∧f28L2 T' v16 x (i64 n8) (i64 n44)∧st'=s2) T st:=by
  obtain ⟨hn,g3,g7,g8,g9⟩:=hT
  exact (gen_run (G:=fun T=>([T.get 3,T.get 7,T.get 8,T.get 9]:List AV)) hE (f28_3_TFFFF_e o x q11 v15 v16 n8 n9 n12 n44 st s1 s2) (Ob.ok_cons.2 ⟨h1,(Ob.ok_cons.2 ⟨h2,(Ob.ok_cons.2 ⟨⟨h3,rfl⟩,(Ob.ok_cons.2 ⟨h4,(Ob.ok_cons.2 ⟨h5,(Ob.ok_cons.2 ⟨h6,(Ob.ok_cons.2 ⟨h7,(Ob.ok_cons.2 ⟨h8,(Ob.ok_cons.2 ⟨h9,(Ob.ok_cons.2 ⟨h10,Ob.ok_nil⟩)⟩)⟩)⟩)⟩)⟩)⟩)⟩)⟩)⟩) hn (conz g3 (conz g7 (conz g8 (one g9))))).mono fun ex T' st' ⟨q1,q2,q3,q4⟩=>by simp only [List.cons.injEq,and_true] at q3;exact ⟨q1,⟨q2,q3⟩,q4⟩
def f28L3(T:Tm)(a3:AV):Prop:=T.n=49∧T.get 3=a3
theorem f28_3_F_e(o x:AV)(n8 n9:Int)(st:St):((evS Tryz.prog E0 noOv noS 100000 [2012,2015,2016,2031,2032,2042,2043,7010,7011,7019,7022,7026,7027,7029,7030,7035,7038,7044,8000] (f28P 3) ⟨49,[(3,o),(7,x),(8,(i64 n8)),(9,(i64 n9))],[]⟩ st [.av FF]).map fun q=>(q.1,q.2.1.n,([q.2.1.get 3]:List AV),q.2.2.1,q.2.2.2.2))=some ((.exit 0),49,[o],st,[binA E0 .lss 3 (i64 n9) (i64 n8)=some FF]):=by kernel_rfl
theorem f28_3_F{o x:AV}{n8 n9:Int}{st:St}(h1:binA E0 .lss 3 (i64 n9) (i64 n8)=some FF){T:Tm}(hT:f28L2 T o x (i64 n8) (i64 n9)):AW Tryz.prog (f28P 3) (fun ex T' st'=>ex=(.exit 0)∧f28L3 T' o∧st'=st) T st:=by
  obtain ⟨hn,g3,g7,g8,g9⟩:=hT
  exact (gen_run (G:=fun T=>([T.get 3]:List AV)) hE (f28_3_F_e o x n8 n9 st) (Ob.ok_cons.2 ⟨h1,Ob.ok_nil⟩) hn (conz g3 (conz g7 (conz g8 (one g9))))).mono fun ex T' st' ⟨q1,q2,q3,q4⟩=>by simp only [List.cons.injEq,and_true] at q3;exact ⟨q1,⟨q2,q3⟩,q4⟩
def f28L4(T:Tm)(a2:AV):Prop:=T.n=49∧T.get 2=a2
theorem f28_4_e(o v46 v47:AV)(st s1 s2:St)(w48:ByteArray):((evS Tryz.prog E0 noOv noS 100000 [2046,2047,2048] (f28P 4) ⟨49,[(3,o)],[]⟩ st [.eff v46 (fun _=>s1),.eff v47 (fun _=>s2),.eff (str w48) id]).map fun q=>(q.1,q.2.1.n,([q.2.1.get 2]:List AV),q.2.2.1,q.2.2.2.2))=some (.ret,49,[(str w48)],s2,[buildSliceA E0 st 51 1 [(0,(u8 34))]=some (v46,s1),appendA E0 s1 51 51 o v46=some (v47,s2),convO E0 s2 51 9 v47=some ((str w48),s2)]):=by kernel_rfl
theorem f28_4{o v46 v47:AV}{st s1 s2:St}{w48:ByteArray}(h1:buildSliceA E0 st 51 1 [(0,(u8 34))]=some (v46,s1))(h2:appendA E0 s1 51 51 o v46=some (v47,s2))(h3:convO E0 s2 51 9 v47=some ((str w48),s2)){T:Tm}(hT:f28L3 T o):AW Tryz.prog (f28P 4) (fun ex T' st'=>ex= .ret∧f28L4 T' (str w48)∧st'=s2) T st:=by
  obtain ⟨hn,g3⟩:=hT
  exact (gen_run (G:=fun T=>([T.get 2]:List AV)) hE (f28_4_e o v46 v47 st s1 s2 w48) (Ob.ok_cons.2 ⟨h1,(Ob.ok_cons.2 ⟨h2,(Ob.ok_cons.2 ⟨h3,Ob.ok_nil⟩)⟩)⟩) hn (one g3)).mono fun ex T' st' ⟨q1,q2,q3,q4⟩=>by simp only [List.cons.injEq,and_true] at q3;exact ⟨q1,⟨q2,q3⟩,q4⟩
noncomputable def f43P(i:Nat):Code:=match Tryz.f43.body with
  |some (.seq x0 (.seq x1 (.seq x2 (.seq (.seq x3 (.block 0 (.loop x4))) x5))))=> [x0,x1,x2,x3,x4,x5].getD i .skip
  |_=> .skip
noncomputable def f27P(i:Nat):Code:=match Tryz.f27.body with
  |some (.seq x0 (.seq x1 (.seq x2 (.seq (.seq x3 (.block 0 (.loop x4))) x5))))=> [x0,x1,x2,x3,x4,x5].getD i .skip
  |_=> .skip
theorem f27body:Tryz.f27.body=some (.seq (f27P 0) (.seq (f27P 1) (.seq (f27P 2) (.seq (.seq (f27P 3) (.block 0 (.loop (f27P 4)))) (f27P 5))))):=by kernel_rfl
def f27L0(T:Tm)(a0:AV):Prop:=T.n=107∧T.get 0=a0
theorem f27_0_e(s:ByteArray)(st:St):((evS Tryz.prog E0 noOv noS 100000 [] (f27P 0) ⟨107,[(0,(str s))],[]⟩ st []).map fun q=>(q.1,q.2.1.n,([q.2.1.get 0]:List AV),q.2.2.1,q.2.2.2.2))=some (.normal,107,[(str s)],st,[]):=by kernel_rfl
theorem f27_0{s:ByteArray}{st:St}{T:Tm}(hT:f27L0 T (str s)):AW Tryz.prog (f27P 0) (fun ex T' st'=>ex= .normal∧f27L0 T' (str s)∧st'=st) T st:=by
  obtain ⟨hn,g0⟩:=hT
  exact (gen_run (G:=fun T=>([T.get 0]:List AV)) hE (f27_0_e s st) Ob.ok_nil hn (one g0)).mono fun ex T' st' ⟨q1,q2,q3,q4⟩=>by simp only [List.cons.injEq,and_true] at q3;exact ⟨q1,⟨q2,q3⟩,q4⟩
theorem f27_1_T_e(s:ByteArray)(st s1:St):((evS Tryz.prog E0 noOv noS 100000 [6058] (f27P 1) ⟨107,[(0,(str s))],[]⟩ st [.eff TT (fun _=>s1)]).map fun q=>(q.1,q.2.1.n,([q.2.1.get 0]:List AV),q.2.2.1,q.2.2.2.2))=some (.normal,107,[(str s)],s1,[obC 58 [(str s),(str ⟨#[34]⟩)] st TT s1]):=by kernel_rfl
theorem f27_1_T{s:ByteArray}{st s1:St}(h1:obC 58 [(str s),(str ⟨#[34]⟩)] st TT s1){T:Tm}(hT:f27L0 T (str s)):AW Tryz.prog (f27P 1) (fun ex T' st'=>ex= .normal∧f27L0 T' (str s)∧st'=s1) T st:=by
  obtain ⟨hn,g0⟩:=hT
  exact (gen_run (G:=fun T=>([T.get 0]:List AV)) hE (f27_1_T_e s st s1) (Ob.ok_cons.2 ⟨h1,Ob.ok_nil⟩) hn (one g0)).mono fun ex T' st' ⟨q1,q2,q3,q4⟩=>by simp only [List.cons.injEq,and_true] at q3;exact ⟨q1,⟨q2,q3⟩,q4⟩
def f27L1(T:Tm)(a2 a3 a4:AV):Prop:=T.n=107∧T.get 2=a2∧T.get 3=a3∧T.get 4=a4
theorem f27_1_F_e(s:ByteArray)(st s1:St):((evS Tryz.prog E0 noOv noS 100000 [6058] (f27P 1) ⟨107,[(0,(str s))],[]⟩ st [.eff FF (fun _=>s1)]).map fun q=>(q.1,q.2.1.n,([q.2.1.get 2,q.2.1.get 3,q.2.1.get 4]:List AV),q.2.2.1,q.2.2.2.2))=some (.ret,107,[.nils,(str ⟨#[]⟩),FF],s1,[obC 58 [(str s),(str ⟨#[34]⟩)] st FF s1]):=by kernel_rfl
theorem f27_1_F{s:ByteArray}{st s1:St}(h1:obC 58 [(str s),(str ⟨#[34]⟩)] st FF s1){T:Tm}(hT:f27L0 T (str s)):AW Tryz.prog (f27P 1) (fun ex T' st'=>ex= .ret∧f27L1 T' .nils (str ⟨#[]⟩) FF∧st'=s1) T st:=by
  obtain ⟨hn,g0⟩:=hT
  exact (gen_run (G:=fun T=>([T.get 2,T.get 3,T.get 4]:List AV)) hE (f27_1_F_e s st s1) (Ob.ok_cons.2 ⟨h1,Ob.ok_nil⟩) hn (one g0)).mono fun ex T' st' ⟨q1,q2,q3,q4⟩=>by simp only [List.cons.injEq,and_true] at q3;exact ⟨q1,⟨q2,q3⟩,q4⟩
def f27L2(T:Tm)(a0 a5:AV):Prop:=T.n=107∧T.get 0=a0∧T.get 5=a5
theorem f27_2_e(s:ByteArray)(st s1:St)(v12:AV):((evS Tryz.prog E0 noOv noS 100000 [2012] (f27P 2) ⟨107,[(0,(str s))],[]⟩ st [.eff v12 (fun _=>s1)]).map fun q=>(q.1,q.2.1.n,([q.2.1.get 0,q.2.1.get 5]:List AV),q.2.2.1,q.2.2.2.2))=some (.normal,107,[(str s),v12],s1,[buildSliceA E0 st 51 0 []=some (v12,s1)]):=by kernel_rfl
theorem f27_2{s:ByteArray}{st s1:St}{v12:AV}(h1:buildSliceA E0 st 51 0 []=some (v12,s1)){T:Tm}(hT:f27L0 T (str s)):AW Tryz.prog (f27P 2) (fun ex T' st'=>ex= .normal∧f27L2 T' (str s) v12∧st'=s1) T st:=by
  obtain ⟨hn,g0⟩:=hT
  exact (gen_run (G:=fun T=>([T.get 0,T.get 5]:List AV)) hE (f27_2_e s st s1 v12) (Ob.ok_cons.2 ⟨h1,Ob.ok_nil⟩) hn (one g0)).mono fun ex T' st' ⟨q1,q2,q3,q4⟩=>by simp only [List.cons.injEq,and_true] at q3;exact ⟨q1,⟨q2,q3⟩,q4⟩
def f27L3(T:Tm)(a0 a5 a6:AV):Prop:=T.n=107∧T.get 0=a0∧T.get 5=a5∧T.get 6=a6
theorem f27_3_e(s:ByteArray)(b:AV)(st:St):((evS Tryz.prog E0 noOv noS 100000 [] (f27P 3) ⟨107,[(0,(str s)),(5,b)],[]⟩ st []).map fun q=>(q.1,q.2.1.n,([q.2.1.get 0,q.2.1.get 5,q.2.1.get 6]:List AV),q.2.2.1,q.2.2.2.2))=some (.normal,107,[(str s),b,(i64 1)],st,[]):=by kernel_rfl
theorem f27_3{s:ByteArray}{b:AV}{st:St}{T:Tm}(hT:f27L2 T (str s) b):AW Tryz.prog (f27P 3) (fun ex T' st'=>ex= .normal∧f27L3 T' (str s) b (i64 1)∧st'=st) T st:=by
  obtain ⟨hn,g0,g5⟩:=hT
  exact (gen_run (G:=fun T=>([T.get 0,T.get 5,T.get 6]:List AV)) hE (f27_3_e s b st) Ob.ok_nil hn (conz g0 (one g5))).mono fun ex T' st' ⟨q1,q2,q3,q4⟩=>by simp only [List.cons.injEq,and_true] at q3;exact ⟨q1,⟨q2,q3⟩,q4⟩
theorem f27_4_TTT_e(s w35 w31:ByteArray)(b:AV)(n6 n15 n28 n34:Int)(st s1:St):((evS Tryz.prog E0 noOv noS 100000 [2023,2024,2082,2083,2084,2105,2106,6028,6059,7015,7016,7018,7022,7028,7029,7034,7035,7036,7040,7041,7045,7046,7049,7051,7052,7057,7058,7059,7063,7064,7068,7069,7072,7075,7079,7081,7086,7090,7091,7094,7096,7097,7100,7104,8000] (f27P 4) ⟨107,[(0,(str s)),(5,b),(6,(i64 n6))],[]⟩ st [.av (i64 n15),.av TT,.av (u8 n28),.av TT,.eff (i64 n34) id,.eff (str w35) id,.eff (str w31) (fun _=>s1),.eff TT id]).map fun q=>(q.1,q.2.1.n,([q.2.1.get 2,q.2.1.get 3,q.2.1.get 4]:List AV),q.2.2.1,q.2.2.2.2))=some (.ret,107,[.nils,(str ⟨#[]⟩),FF],s1,[lenA E0 9 (str s)=some (i64 n15),binA E0 .lss 3 (i64 n6) (i64 n15)=some TT,indexA E0 9 (str s) (i64 n6)=some (u8 n28),binA E0 .eql 5 (u8 n28) (u8 34)=some TT,∀k∈ [],k<st.next,binA E0 .add 3 (i64 n6) (i64 1)=some (i64 n34),sliceA E0 st 9 (str s) none (some (i64 n34)) none=some (str w35),(false=true→ [].all (fun k=>(st.get k).isSome)=true),obC 28 [b] st (str w31) s1,binA E0 .neq 9 (str w31) (str w35)=some TT]):=by kernel_rfl
theorem f27_4_TTT{s w35 w31:ByteArray}{b:AV}{n6 n15 n28 n34:Int}{st s1:St}(h1:lenA E0 9 (str s)=some (i64 n15))(h2:binA E0 .lss 3 (i64 n6) (i64 n15)=some TT)(h3:indexA E0 9 (str s) (i64 n6)=some (u8 n28))(h4:binA E0 .eql 5 (u8 n28) (u8 34)=some TT)(h5:∀k∈ [],k<st.next)(h6:binA E0 .add 3 (i64 n6) (i64 1)=some (i64 n34))(h7:sliceA E0 st 9 (str s) none (some (i64 n34)) none=some (str w35))(h8:obC 28 [b] st (str w31) s1)(h9:binA E0 .neq 9 (str w31) (str w35)=some TT){T:Tm}(hT:f27L3 T (str s) b (i64 n6)):AW Tryz.prog (f27P 4) (fun ex T' st'=>ex= .ret∧f27L1 T' .nils (str ⟨#[]⟩) FF∧st'=s1) T st:=by
  obtain ⟨hn,g0,g5,g6⟩:=hT
  exact (gen_run (G:=fun T=>([T.get 2,T.get 3,T.get 4]:List AV)) hE (f27_4_TTT_e s w35 w31 b n6 n15 n28 n34 st s1) (Ob.ok_cons.2 ⟨h1,(Ob.ok_cons.2 ⟨h2,(Ob.ok_cons.2 ⟨h3,(Ob.ok_cons.2 ⟨h4,(Ob.ok_cons.2 ⟨h5,(Ob.ok_cons.2 ⟨h6,(Ob.ok_cons.2 ⟨h7,(Ob.ok_cons.2 ⟨(fun h=>by cases h),(Ob.ok_cons.2 ⟨h8,(Ob.ok_cons.2 ⟨h9,Ob.ok_nil⟩)⟩)⟩)⟩)⟩)⟩)⟩)⟩)⟩)⟩) hn (conz g0 (conz g5 (one g6)))).mono fun ex T' st' ⟨q1,q2,q3,q4⟩=>by simp only [List.cons.injEq,and_true] at q3;exact ⟨q1,⟨q2,q3⟩,q4⟩
theorem f27_4_TTF_e(s w35 w31 w41:ByteArray)(b:AV)(n6 n15 n28 n34 n40:Int)(st s1:St):((evS Tryz.prog E0 noOv noS 100000 [2023,2024,2082,2083,2084,2105,2106,6028,6059,7015,7016,7018,7022,7028,7029,7034,7035,7036,7040,7041,7045,7046,7049,7051,7052,7057,7058,7059,7063,7064,7068,7069,7072,7075,7079,7081,7086,7090,7091,7094,7096,7097,7100,7104,8000] (f27P 4) ⟨107,[(0,(str s)),(5,b),(6,(i64 n6))],[]⟩ st [.av (i64 n15),.av TT,.av (u8 n28),.av TT,.eff (i64 n34) id,.eff (str w35) id,.eff (str w31) (fun _=>s1),.eff FF id,.eff (i64 n40) id,.eff (str w41) id]).map fun q=>(q.1,q.2.1.n,([q.2.1.get 2,q.2.1.get 3,q.2.1.get 4]:List AV),q.2.2.1,q.2.2.2.2))=some (.ret,107,[b,(str w41),TT],s1,[lenA E0 9 (str s)=some (i64 n15),binA E0 .lss 3 (i64 n6) (i64 n15)=some TT,indexA E0 9 (str s) (i64 n6)=some (u8 n28),binA E0 .eql 5 (u8 n28) (u8 34)=some TT,∀k∈ [],k<st.next,binA E0 .add 3 (i64 n6) (i64 1)=some (i64 n34),sliceA E0 st 9 (str s) none (some (i64 n34)) none=some (str w35),(false=true→ [].all (fun k=>(st.get k).isSome)=true),obC 28 [b] st (str w31) s1,binA E0 .neq 9 (str w31) (str w35)=some FF,∀k∈ [],k<s1.next,binA E0 .add 3 (i64 n6) (i64 1)=some (i64 n40),sliceA E0 s1 9 (str s) (some (i64 n40)) none none=some (str w41)]):=by kernel_rfl
theorem f27_4_TTF{s w35 w31 w41:ByteArray}{b:AV}{n6 n15 n28 n34 n40:Int}{st s1:St}(h1:lenA E0 9 (str s)=some (i64 n15))(h2:binA E0 .lss 3 (i64 n6) (i64 n15)=some TT)(h3:indexA E0 9 (str s) (i64 n6)=some (u8 n28))(h4:binA E0 .eql 5 (u8 n28) (u8 34)=some TT)(h5:∀k∈ [],k<st.next)(h6:binA E0 .add 3 (i64 n6) (i64 1)=some (i64 n34))(h7:sliceA E0 st 9 (str s) none (some (i64 n34)) none=some (str w35))(h8:obC 28 [b] st (str w31) s1)(h9:binA E0 .neq 9 (str w31) (str w35)=some FF)(h10:∀k∈ [],k<s1.next)(h11:binA E0 .add 3 (i64 n6) (i64 1)=some (i64 n40))(h12:sliceA E0 s1 9 (str s) (some (i64 n40)) none none=some (str w41)){T:Tm}(hT:f27L3 T (str s) b (i64 n6)):AW Tryz.prog (f27P 4) (fun ex T' st'=>ex= .ret∧f27L1 T' b (str w41) TT∧st'=s1) T st:=by
  obtain ⟨hn,g0,g5,g6⟩:=hT
  exact (gen_run (G:=fun T=>([T.get 2,T.get 3,T.get 4]:List AV)) hE (f27_4_TTF_e s w35 w31 w41 b n6 n15 n28 n34 n40 st s1) (Ob.ok_cons.2 ⟨h1,(Ob.ok_cons.2 ⟨h2,(Ob.ok_cons.2 ⟨h3,(Ob.ok_cons.2 ⟨h4,(Ob.ok_cons.2 ⟨h5,(Ob.ok_cons.2 ⟨h6,(Ob.ok_cons.2 ⟨h7,(Ob.ok_cons.2 ⟨(fun h=>by cases h),(Ob.ok_cons.2 ⟨h8,(Ob.ok_cons.2 ⟨h9,(Ob.ok_cons.2 ⟨h10,(Ob.ok_cons.2 ⟨h11,(Ob.ok_cons.2 ⟨h12,Ob.ok_nil⟩)⟩)⟩)⟩)⟩)⟩)⟩)⟩)⟩)⟩)⟩)⟩)⟩) hn (conz g0 (conz g5 (one g6)))).mono fun ex T' st' ⟨q1,q2,q3,q4⟩=>by simp only [List.cons.injEq,and_true] at q3;exact ⟨q1,⟨q2,q3⟩,q4⟩
theorem f27_4_TFTTTT_e(s:ByteArray)(b:AV)(n6 n15 n28 n45 n49 n51 n57 n58 n63 n64 n68 n69 n65 n70:Int)(st s1 s2:St):((evS Tryz.prog E0 noOv noS 100000 [2023,2024,2082,2083,2084,2105,2106,6028,6059,7015,7016,7018,7022,7028,7029,7034,7035,7036,7040,7041,7045,7046,7049,7051,7052,7057,7058,7059,7063,7064,7068,7069,7072,7075,7079,7081,7086,7090,7091,7094,7096,7097,7100,7104,8000] (f27P 4) ⟨107,[(0,(str s)),(5,b),(6,(i64 n6))],[]⟩ st [.av (i64 n15),.av TT,.av (u8 n28),.av FF,.av (u8 n45),.av TT,.av (i64 n49),.av (i64 n51),.av TT,.av (i64 n57),.av (u8 n58),.av TT,.eff (i64 n63) id,.eff (u8 n64) id,.eff (i64 n68) id,.eff (u8 n69) id,.eff (i64 n65) (fun _=>s1),.eff (i64 n70) (fun _=>s2),.av TT]).map fun q=>(q.1,q.2.1.n,([q.2.1.get 2,q.2.1.get 3,q.2.1.get 4]:List AV),q.2.2.1,q.2.2.2.2))=some (.ret,107,[.nils,(str ⟨#[]⟩),FF],s2,[lenA E0 9 (str s)=some (i64 n15),binA E0 .lss 3 (i64 n6) (i64 n15)=some TT,indexA E0 9 (str s) (i64 n6)=some (u8 n28),binA E0 .eql 5 (u8 n28) (u8 34)=some FF,indexA E0 9 (str s) (i64 n6)=some (u8 n45),binA E0 .eql 5 (u8 n45) (u8 92)=some TT,binA E0 .add 3 (i64 n6) (i64 3)=some (i64 n49),lenA E0 9 (str s)=some (i64 n51),binA E0 .lss 3 (i64 n49) (i64 n51)=some TT,binA E0 .add 3 (i64 n6) (i64 1)=some (i64 n57),indexA E0 9 (str s) (i64 n57)=some (u8 n58),binA E0 .eql 5 (u8 n58) (u8 120)=some TT,∀k∈ [],k<st.next,binA E0 .add 3 (i64 n6) (i64 2)=some (i64 n63),indexA E0 9 (str s) (i64 n63)=some (u8 n64),binA E0 .add 3 (i64 n6) (i64 3)=some (i64 n68),indexA E0 9 (str s) (i64 n68)=some (u8 n69),(false=true→ [].all (fun k=>(st.get k).isSome)=true),obC 59 [(str ⟨#[48,49,50,51,52,53,54,55,56,57,97,98,99,100,101,102]⟩),(u8 n64)] st (i64 n65) s1,(false=true→ [].all (fun k=>(s1.get k).isSome)=true),obC 59 [(str ⟨#[48,49,50,51,52,53,54,55,56,57,97,98,99,100,101,102]⟩),(u8 n69)] s1 (i64 n70) s2,binA E0 .lss 3 (i64 n65) (i64 0)=some TT]):=by kernel_rfl
theorem f27_4_TFTTTT{s:ByteArray}{b:AV}{n6 n15 n28 n45 n49 n51 n57 n58 n63 n64 n68 n69 n65 n70:Int}{st s1 s2:St}(h1:lenA E0 9 (str s)=some (i64 n15))(h2:binA E0 .lss 3 (i64 n6) (i64 n15)=some TT)(h3:indexA E0 9 (str s) (i64 n6)=some (u8 n28))(h4:binA E0 .eql 5 (u8 n28) (u8 34)=some FF)(h5:indexA E0 9 (str s) (i64 n6)=some (u8 n45))(h6:binA E0 .eql 5 (u8 n45) (u8 92)=some TT)(h7:binA E0 .add 3 (i64 n6) (i64 3)=some (i64 n49))(h8:lenA E0 9 (str s)=some (i64 n51))(h9:binA E0 .lss 3 (i64 n49) (i64 n51)=some TT)(h10:binA E0 .add 3 (i64 n6) (i64 1)=some (i64 n57))(h11:indexA E0 9 (str s) (i64 n57)=some (u8 n58))(h12:binA E0 .eql 5 (u8 n58) (u8 120)=some TT)(h13:∀k∈ [],k<st.next)(h14:binA E0 .add 3 (i64 n6) (i64 2)=some (i64 n63))(h15:indexA E0 9 (str s) (i64 n63)=some (u8 n64))(h16:binA E0 .add 3 (i64 n6) (i64 3)=some (i64 n68))(h17:indexA E0 9 (str s) (i64 n68)=some (u8 n69))(h18:obC 59 [(str ⟨#[48,49,50,51,52,53,54,55,56,57,97,98,99,100,101,102]⟩),(u8 n64)] st (i64 n65) s1)(h19:obC 59 [(str ⟨#[48,49,50,51,52,53,54,55,56,57,97,98,99,100,101,102]⟩),(u8 n69)] s1 (i64 n70) s2)(h20:binA E0 .lss 3 (i64 n65) (i64 0)=some TT){T:Tm}(hT:f27L3 T (str s) b (i64 n6)):AW Tryz.prog (f27P 4) (fun ex T' st'=>ex= .ret∧f27L1 T' .nils (str ⟨#[]⟩) FF∧st'=s2) T st:=by
  obtain ⟨hn,g0,g5,g6⟩:=hT
  exact (gen_run (G:=fun T=>([T.get 2,T.get 3,T.get 4]:List AV)) hE (f27_4_TFTTTT_e s b n6 n15 n28 n45 n49 n51 n57 n58 n63 n64 n68 n69 n65 n70 st s1 s2) (Ob.ok_cons.2 ⟨h1,(Ob.ok_cons.2 ⟨h2,(Ob.ok_cons.2 ⟨h3,(Ob.ok_cons.2 ⟨h4,(Ob.ok_cons.2 ⟨h5,(Ob.ok_cons.2 ⟨h6,(Ob.ok_cons.2 ⟨h7,(Ob.ok_cons.2 ⟨h8,(Ob.ok_cons.2 ⟨h9,(Ob.ok_cons.2 ⟨h10,(Ob.ok_cons.2 ⟨h11,(Ob.ok_cons.2 ⟨h12,(Ob.ok_cons.2 ⟨h13,(Ob.ok_cons.2 ⟨h14,(Ob.ok_cons.2 ⟨h15,(Ob.ok_cons.2 ⟨h16,(Ob.ok_cons.2 ⟨h17,(Ob.ok_cons.2 ⟨(fun h=>by cases h),(Ob.ok_cons.2 ⟨h18,(Ob.ok_cons.2 ⟨(fun h=>by cases h),(Ob.ok_cons.2 ⟨h19,(Ob.ok_cons.2 ⟨h20,Ob.ok_nil⟩)⟩)⟩)⟩)⟩)⟩)⟩)⟩)⟩)⟩)⟩)⟩)⟩)⟩)⟩)⟩)⟩)⟩)⟩)⟩)⟩)⟩) hn (conz g0 (conz g5 (one g6)))).mono fun ex T' st' ⟨q1,q2,q3,q4⟩=>by simp only [List.cons.injEq,and_true] at q3;exact ⟨q1,⟨q2,q3⟩,q4⟩
theorem f27_4_TFTTTFT_e(s:ByteArray)(b:AV)(n6 n15 n28 n45 n49 n51 n57 n58 n63 n64 n68 n69 n65 n70:Int)(st s1 s2:St):((evS Tryz.prog E0 noOv noS 100000 [2023,2024,2082,2083,2084,2105,2106,6028,6059,7015,7016,7018,7022,7028,7029,7034,7035,7036,7040,7041,7045,7046,7049,7051,7052,7057,7058,7059,7063,7064,7068,7069,7072,7075,7079,7081,7086,7090,7091,7094,7096,7097,7100,7104,8000] (f27P 4) ⟨107,[(0,(str s)),(5,b),(6,(i64 n6))],[]⟩ st [.av (i64 n15),.av TT,.av (u8 n28),.av FF,.av (u8 n45),.av TT,.av (i64 n49),.av (i64 n51),.av TT,.av (i64 n57),.av (u8 n58),.av TT,.eff (i64 n63) id,.eff (u8 n64) id,.eff (i64 n68) id,.eff (u8 n69) id,.eff (i64 n65) (fun _=>s1),.eff (i64 n70) (fun _=>s2),.av FF,.av TT]).map fun q=>(q.1,q.2.1.n,([q.2.1.get 2,q.2.1.get 3,q.2.1.get 4]:List AV),q.2.2.1,q.2.2.2.2))=some (.ret,107,[.nils,(str ⟨#[]⟩),FF],s2,[lenA E0 9 (str s)=some (i64 n15),binA E0 .lss 3 (i64 n6) (i64 n15)=some TT,indexA E0 9 (str s) (i64 n6)=some (u8 n28),binA E0 .eql 5 (u8 n28) (u8 34)=some FF,indexA E0 9 (str s) (i64 n6)=some (u8 n45),binA E0 .eql 5 (u8 n45) (u8 92)=some TT,binA E0 .add 3 (i64 n6) (i64 3)=some (i64 n49),lenA E0 9 (str s)=some (i64 n51),binA E0 .lss 3 (i64 n49) (i64 n51)=some TT,binA E0 .add 3 (i64 n6) (i64 1)=some (i64 n57),indexA E0 9 (str s) (i64 n57)=some (u8 n58),binA E0 .eql 5 (u8 n58) (u8 120)=some TT,∀k∈ [],k<st.next,binA E0 .add 3 (i64 n6) (i64 2)=some (i64 n63),indexA E0 9 (str s) (i64 n63)=some (u8 n64),binA E0 .add 3 (i64 n6) (i64 3)=some (i64 n68),indexA E0 9 (str s) (i64 n68)=some (u8 n69),(false=true→ [].all (fun k=>(st.get k).isSome)=true),obC 59 [(str ⟨#[48,49,50,51,52,53,54,55,56,57,97,98,99,100,101,102]⟩),(u8 n64)] st (i64 n65) s1,(false=true→ [].all (fun k=>(s1.get k).isSome)=true),obC 59 [(str ⟨#[48,49,50,51,52,53,54,55,56,57,97,98,99,100,101,102]⟩),(u8 n69)] s1 (i64 n70) s2,binA E0 .lss 3 (i64 n65) (i64 0)=some FF,binA E0 .lss 3 (i64 n70) (i64 0)=some TT]):=by kernel_rfl
theorem f27_4_TFTTTFT{s:ByteArray}{b:AV}{n6 n15 n28 n45 n49 n51 n57 n58 n63 n64 n68 n69 n65 n70:Int}{st s1 s2:St}(h1:lenA E0 9 (str s)=some (i64 n15))(h2:binA E0 .lss 3 (i64 n6) (i64 n15)=some TT)(h3:indexA E0 9 (str s) (i64 n6)=some (u8 n28))(h4:binA E0 .eql 5 (u8 n28) (u8 34)=some FF)(h5:indexA E0 9 (str s) (i64 n6)=some (u8 n45))(h6:binA E0 .eql 5 (u8 n45) (u8 92)=some TT)(h7:binA E0 .add 3 (i64 n6) (i64 3)=some (i64 n49))(h8:lenA E0 9 (str s)=some (i64 n51))(h9:binA E0 .lss 3 (i64 n49) (i64 n51)=some TT)(h10:binA E0 .add 3 (i64 n6) (i64 1)=some (i64 n57))(h11:indexA E0 9 (str s) (i64 n57)=some (u8 n58))(h12:binA E0 .eql 5 (u8 n58) (u8 120)=some TT)(h13:∀k∈ [],k<st.next)(h14:binA E0 .add 3 (i64 n6) (i64 2)=some (i64 n63))(h15:indexA E0 9 (str s) (i64 n63)=some (u8 n64))(h16:binA E0 .add 3 (i64 n6) (i64 3)=some (i64 n68))(h17:indexA E0 9 (str s) (i64 n68)=some (u8 n69))(h18:obC 59 [(str ⟨#[48,49,50,51,52,53,54,55,56,57,97,98,99,100,101,102]⟩),(u8 n64)] st (i64 n65) s1)(h19:obC 59 [(str ⟨#[48,49,50,51,52,53,54,55,56,57,97,98,99,100,101,102]⟩),(u8 n69)] s1 (i64 n70) s2)(h20:binA E0 .lss 3 (i64 n65) (i64 0)=some FF)(h21:binA E0 .lss 3 (i64 n70) (i64 0)=some TT){T:Tm}(hT:f27L3 T (str s) b (i64 n6)):AW Tryz.prog (f27P 4) (fun ex T' st'=>ex= .ret∧f27L1 T' .nils (str ⟨#[]⟩) FF∧st'=s2) T st:=by
  obtain ⟨hn,g0,g5,g6⟩:=hT
  exact (gen_run (G:=fun T=>([T.get 2,T.get 3,T.get 4]:List AV)) hE (f27_4_TFTTTFT_e s b n6 n15 n28 n45 n49 n51 n57 n58 n63 n64 n68 n69 n65 n70 st s1 s2) (Ob.ok_cons.2 ⟨h1,(Ob.ok_cons.2 ⟨h2,(Ob.ok_cons.2 ⟨h3,(Ob.ok_cons.2 ⟨h4,(Ob.ok_cons.2 ⟨h5,(Ob.ok_cons.2 ⟨h6,(Ob.ok_cons.2 ⟨h7,(Ob.ok_cons.2 ⟨h8,(Ob.ok_cons.2 ⟨h9,(Ob.ok_cons.2 ⟨h10,(Ob.ok_cons.2 ⟨h11,(Ob.ok_cons.2 ⟨h12,(Ob.ok_cons.2 ⟨h13,(Ob.ok_cons.2 ⟨h14,(Ob.ok_cons.2 ⟨h15,(Ob.ok_cons.2 ⟨h16,(Ob.ok_cons.2 ⟨h17,(Ob.ok_cons.2 ⟨(fun h=>by cases h),(Ob.ok_cons.2 ⟨h18,(Ob.ok_cons.2 ⟨(fun h=>by cases h),(Ob.ok_cons.2 ⟨h19,(Ob.ok_cons.2 ⟨h20,(Ob.ok_cons.2 ⟨h21,Ob.ok_nil⟩)⟩)⟩)⟩)⟩)⟩)⟩)⟩)⟩)⟩)⟩)⟩)⟩)⟩)⟩)⟩)⟩)⟩)⟩)⟩)⟩)⟩)⟩) hn (conz g0 (conz g5 (one g6)))).mono fun ex T' st' ⟨q1,q2,q3,q4⟩=>by simp only [List.cons.injEq,and_true] at q3;exact ⟨q1,⟨q2,q3⟩,q4⟩
theorem f27_4_TFTTTFF_e(s:ByteArray)(b v83 v84:AV)(n6 n15 n28 n45 n49 n51 n57 n58 n63 n64 n68 n69 n65 n70 n79 n81 n82 n86 n18:Int)(st s1 s2 s3 s4:St):((evS Tryz.prog E0 noOv noS 100000 [2023,2024,2082,2083,2084,2105,2106,6028,6059,7015,7016,7018,7022,7028,7029,7034,7035,7036,7040,7041,7045,7046,7049,7051,7052,7057,7058,7059,7063,7064,7068,7069,7072,7075,7079,7081,7086,7090,7091,7094,7096,7097,7100,7104,8000] (f27P 4) ⟨107,[(0,(str s)),(5,b),(6,(i64 n6))],[]⟩ st [.av (i64 n15),.av TT,.av (u8 n28),.av FF,.av (u8 n45),.av TT,.av (i64 n49),.av (i64 n51),.av TT,.av (i64 n57),.av (u8 n58),.av TT,.eff (i64 n63) id,.eff (u8 n64) id,.eff (i64 n68) id,.eff (u8 n69) id,.eff (i64 n65) (fun _=>s1),.eff (i64 n70) (fun _=>s2),.av FF,.av FF,.av (i64 n79),.av (i64 n81),.eff (u8 n82) id,.eff v83 (fun _=>s3),.eff v84 (fun _=>s4),.av (i64 n86),.av (i64 n18)]).map fun q=>(q.1,q.2.1.n,([q.2.1.get 0,q.2.1.get 5,q.2.1.get 6]:List AV),q.2.2.1,q.2.2.2.2))=some (.normal,107,[(str s),v84,(i64 n18)],s4,[lenA E0 9 (str s)=some (i64 n15),binA E0 .lss 3 (i64 n6) (i64 n15)=some TT,indexA E0 9 (str s) (i64 n6)=some (u8 n28),binA E0 .eql 5 (u8 n28) (u8 34)=some FF,indexA E0 9 (str s) (i64 n6)=some (u8 n45),binA E0 .eql 5 (u8 n45) (u8 92)=some TT,binA E0 .add 3 (i64 n6) (i64 3)=some (i64 n49),lenA E0 9 (str s)=some (i64 n51),binA E0 .lss 3 (i64 n49) (i64 n51)=some TT,binA E0 .add 3 (i64 n6) (i64 1)=some (i64 n57),indexA E0 9 (str s) (i64 n57)=some (u8 n58),binA E0 .eql 5 (u8 n58) (u8 120)=some TT,∀k∈ [],k<st.next,binA E0 .add 3 (i64 n6) (i64 2)=some (i64 n63),indexA E0 9 (str s) (i64 n63)=some (u8 n64),binA E0 .add 3 (i64 n6) (i64 3)=some (i64 n68),indexA E0 9 (str s) (i64 n68)=some (u8 n69),(false=true→ [].all (fun k=>(st.get k).isSome)=true),obC 59 [(str ⟨#[48,49,50,51,52,53,54,55,56,57,97,98,99,100,101,102]⟩),(u8 n64)] st (i64 n65) s1,(false=true→ [].all (fun k=>(s1.get k).isSome)=true),obC 59 [(str ⟨#[48,49,50,51,52,53,54,55,56,57,97,98,99,100,101,102]⟩),(u8 n69)] s1 (i64 n70) s2,binA E0 .lss 3 (i64 n65) (i64 0)=some FF,binA E0 .lss 3 (i64 n70) (i64 0)=some FF,binA E0 .shl 3 (i64 n65) (u64 4)=some (i64 n79),binA E0 .or 3 (i64 n79) (i64 n70)=some (i64 n81),convO E0 s2 3 5 (i64 n81)=some ((u8 n82),s2),buildSliceA E0 s2 51 1 [(0,(u8 n82))]=some (v83,s3),appendA E0 s3 51 51 b v83=some (v84,s4),binA E0 .add 3 (i64 n6) (i64 3)=some (i64 n86),binA E0 .add 3 (i64 n86) (i64 1)=some (i64 n18)]):=by kernel_rfl
theorem f27_4_TFTTTFF{s:ByteArray}{b v83 v84:AV}{n6 n15 n28 n45 n49 n51 n57 n58 n63 n64 n68 n69 n65 n70 n79 n81 n82 n86 n18:Int}{st s1 s2 s3 s4:St}(h1:lenA E0 9 (str s)=some (i64 n15))(h2:binA E0 .lss 3 (i64 n6) (i64 n15)=some TT)(h3:indexA E0 9 (str s) (i64 n6)=some (u8 n28))(h4:binA E0 .eql 5 (u8 n28) (u8 34)=some FF)(h5:indexA E0 9 (str s) (i64 n6)=some (u8 n45))(h6:binA E0 .eql 5 (u8 n45) (u8 92)=some TT)(h7:binA E0 .add 3 (i64 n6) (i64 3)=some (i64 n49))(h8:lenA E0 9 (str s)=some (i64 n51))(h9:binA E0 .lss 3 (i64 n49) (i64 n51)=some TT)(h10:binA E0 .add 3 (i64 n6) (i64 1)=some (i64 n57))(h11:indexA E0 9 (str s) (i64 n57)=some (u8 n58))(h12:binA E0 .eql 5 (u8 n58) (u8 120)=some TT)(h13:∀k∈ [],k<st.next)(h14:binA E0 .add 3 (i64 n6) (i64 2)=some (i64 n63))(h15:indexA E0 9 (str s) (i64 n63)=some (u8 n64))(h16:binA E0 .add 3 (i64 n6) (i64 3)=some (i64 n68))(h17:indexA E0 9 (str s) (i64 n68)=some (u8 n69))(h18:obC 59 [(str ⟨#[48,49,50,51,52,53,54,55,56,57,97,98,99,100,101,102]⟩),(u8 n64)] st (i64 n65) s1)(h19:obC 59 [(str ⟨#[48,49,50,51,52,53,54,55,56,57,97,98,99,100,101,102]⟩),(u8 n69)] s1 (i64 n70) s2)(h20:binA E0 .lss 3 (i64 n65) (i64 0)=some FF)(h21:binA E0 .lss 3 (i64 n70) (i64 0)=some FF)(h22:binA E0 .shl 3 (i64 n65) (u64 4)=some (i64 n79))(h23:binA E0 .or 3 (i64 n79) (i64 n70)=some (i64 n81))(h24:convO E0 s2 3 5 (i64 n81)=some ((u8 n82),s2))(h25:buildSliceA E0 s2 51 1 [(0,(u8 n82))]=some (v83,s3))(h26:appendA E0 s3 51 51 b v83=some (v84,s4))(h27:binA E0 .add 3 (i64 n6) (i64 3)=some (i64 n86))(h28:binA E0 .add 3 (i64 n86) (i64 1)=some (i64 n18)){T:Tm}(hT:f27L3 T (str s) b (i64 n6)):AW Tryz.prog (f27P 4) (fun ex T' st'=>ex= .normal∧f27L3 T' (str s) v84 (i64 n18)∧st'=s4) T st:=by
  obtain ⟨hn,g0,g5,g6⟩:=hT
  exact (gen_run (G:=fun T=>([T.get 0,T.get 5,T.get 6]:List AV)) hE (f27_4_TFTTTFF_e s b v83 v84 n6 n15 n28 n45 n49 n51 n57 n58 n63 n64 n68 n69 n65 n70 n79 n81 n82 n86 n18 st s1 s2 s3 s4) (Ob.ok_cons.2 ⟨h1,(Ob.ok_cons.2 ⟨h2,(Ob.ok_cons.2 ⟨h3,(Ob.ok_cons.2 ⟨h4,(Ob.ok_cons.2 ⟨h5,(Ob.ok_cons.2 ⟨h6,(Ob.ok_cons.2 ⟨h7,(Ob.ok_cons.2 ⟨h8,(Ob.ok_cons.2 ⟨h9,(Ob.ok_cons.2 ⟨h10,(Ob.ok_cons.2 ⟨h11,(Ob.ok_cons.2 ⟨h12,(Ob.ok_cons.2 ⟨h13,(Ob.ok_cons.2 ⟨h14,(Ob.ok_cons.2 ⟨h15,(Ob.ok_cons.2 ⟨h16,(Ob.ok_cons.2 ⟨h17,(Ob.ok_cons.2 ⟨(fun h=>by cases h),(Ob.ok_cons.2 ⟨h18,(Ob.ok_cons.2 ⟨(fun h=>by cases h),(Ob.ok_cons.2 ⟨h19,(Ob.ok_cons.2 ⟨h20,(Ob.ok_cons.2 ⟨h21,(Ob.ok_cons.2 ⟨h22,(Ob.ok_cons.2 ⟨h23,(Ob.ok_cons.2 ⟨h24,(Ob.ok_cons.2 ⟨h25,(Ob.ok_cons.2 ⟨h26,(Ob.ok_cons.2 ⟨h27,(Ob.ok_cons.2 ⟨h28,Ob.ok_nil⟩)⟩)⟩)⟩)⟩)⟩)⟩)⟩)⟩)⟩)⟩)⟩)⟩)⟩)⟩)⟩)⟩)⟩)⟩)⟩)⟩)⟩)⟩)⟩)⟩)⟩)⟩)⟩)⟩)⟩) hn (conz g0 (conz g5 (one g6)))).mono fun ex T' st' ⟨q1,q2,q3,q4⟩=>by simp only [List.cons.injEq,and_true] at q3;exact ⟨q1,⟨q2,q3⟩,q4⟩
theorem f27_4_TFTTFTT_e(s:ByteArray)(b v105 v106:AV)(n6 n15 n28 n45 n49 n51 n57 n58 n90 n94 n96 n100 n104 n18:Int)(st s1 s2:St):((evS Tryz.prog E0 noOv noS 100000 [2023,2024,2082,2083,2084,2105,2106,6028,6059,7015,7016,7018,7022,7028,7029,7034,7035,7036,7040,7041,7045,7046,7049,7051,7052,7057,7058,7059,7063,7064,7068,7069,7072,7075,7079,7081,7086,7090,7091,7094,7096,7097,7100,7104,8000] (f27P 4) ⟨107,[(0,(str s)),(5,b),(6,(i64 n6))],[]⟩ st [.av (i64 n15),.av TT,.av (u8 n28),.av FF,.av (u8 n45),.av TT,.av (i64 n49),.av (i64 n51),.av TT,.av (i64 n57),.av (u8 n58),.av FF,.av (u8 n90),.av TT,.av (i64 n94),.av (i64 n96),.av TT,.av (i64 n100),.av (u8 n104),.eff v105 (fun _=>s1),.eff v106 (fun _=>s2),.av (i64 n18)]).map fun q=>(q.1,q.2.1.n,([q.2.1.get 0,q.2.1.get 5,q.2.1.get 6]:List AV),q.2.2.1,q.2.2.2.2))=some (.normal,107,[(str s),v106,(i64 n18)],s2,[lenA E0 9 (str s)=some (i64 n15),binA E0 .lss 3 (i64 n6) (i64 n15)=some TT,indexA E0 9 (str s) (i64 n6)=some (u8 n28),binA E0 .eql 5 (u8 n28) (u8 34)=some FF,indexA E0 9 (str s) (i64 n6)=some (u8 n45),binA E0 .eql 5 (u8 n45) (u8 92)=some TT,binA E0 .add 3 (i64 n6) (i64 3)=some (i64 n49),lenA E0 9 (str s)=some (i64 n51),binA E0 .lss 3 (i64 n49) (i64 n51)=some TT,binA E0 .add 3 (i64 n6) (i64 1)=some (i64 n57),indexA E0 9 (str s) (i64 n57)=some (u8 n58),binA E0 .eql 5 (u8 n58) (u8 120)=some FF,indexA E0 9 (str s) (i64 n6)=some (u8 n90),binA E0 .eql 5 (u8 n90) (u8 92)=some TT,binA E0 .add 3 (i64 n6) (i64 1)=some (i64 n94),lenA E0 9 (str s)=some (i64 n96),binA E0 .lss 3 (i64 n94) (i64 n96)=some TT,binA E0 .add 3 (i64 n6) (i64 1)=some (i64 n100),indexA E0 9 (str s) (i64 n100)=some (u8 n104),buildSliceA E0 st 51 1 [(0,(u8 n104))]=some (v105,s1),appendA E0 s1 51 51 b v105=some (v106,s2),binA E0 .add 3 (i64 n100) (i64 1)=some (i64 n18)]):=by kernel_rfl
theorem f27_4_TFTTFTT{s:ByteArray}{b v105 v106:AV}{n6 n15 n28 n45 n49 n51 n57 n58 n90 n94 n96 n100 n104 n18:Int}{st s1 s2:St}(h1:lenA E0 9 (str s)=some (i64 n15))(h2:binA E0 .lss 3 (i64 n6) (i64 n15)=some TT)(h3:indexA E0 9 (str s) (i64 n6)=some (u8 n28))(h4:binA E0 .eql 5 (u8 n28) (u8 34)=some FF)(h5:indexA E0 9 (str s) (i64 n6)=some (u8 n45))(h6:binA E0 .eql 5 (u8 n45) (u8 92)=some TT)(h7:binA E0 .add 3 (i64 n6) (i64 3)=some (i64 n49))(h8:lenA E0 9 (str s)=some (i64 n51))(h9:binA E0 .lss 3 (i64 n49) (i64 n51)=some TT)(h10:binA E0 .add 3 (i64 n6) (i64 1)=some (i64 n57))(h11:indexA E0 9 (str s) (i64 n57)=some (u8 n58))(h12:binA E0 .eql 5 (u8 n58) (u8 120)=some FF)(h13:indexA E0 9 (str s) (i64 n6)=some (u8 n90))(h14:binA E0 .eql 5 (u8 n90) (u8 92)=some TT)(h15:binA E0 .add 3 (i64 n6) (i64 1)=some (i64 n94))(h16:lenA E0 9 (str s)=some (i64 n96))(h17:binA E0 .lss 3 (i64 n94) (i64 n96)=some TT)(h18:binA E0 .add 3 (i64 n6) (i64 1)=some (i64 n100))(h19:indexA E0 9 (str s) (i64 n100)=some (u8 n104))(h20:buildSliceA E0 st 51 1 [(0,(u8 n104))]=some (v105,s1))(h21:appendA E0 s1 51 51 b v105=some (v106,s2))(h22:binA E0 .add 3 (i64 n100) (i64 1)=some (i64 n18)){T:Tm}(hT:f27L3 T (str s) b (i64 n6)):AW Tryz.prog (f27P 4) (fun ex T' st'=>ex= .normal∧f27L3 T' (str s) v106 (i64 n18)∧st'=s2) T st:=by
  obtain ⟨hn,g0,g5,g6⟩:=hT
  exact (gen_run (G:=fun T=>([T.get 0,T.get 5,T.get 6]:List AV)) hE (f27_4_TFTTFTT_e s b v105 v106 n6 n15 n28 n45 n49 n51 n57 n58 n90 n94 n96 n100 n104 n18 st s1 s2) (Ob.ok_cons.2 ⟨h1,(Ob.ok_cons.2 ⟨h2,(Ob.ok_cons.2 ⟨h3,(Ob.ok_cons.2 ⟨h4,(Ob.ok_cons.2 ⟨h5,(Ob.ok_cons.2 ⟨h6,(Ob.ok_cons.2 ⟨h7,(Ob.ok_cons.2 ⟨h8,(Ob.ok_cons.2 ⟨h9,(Ob.ok_cons.2 ⟨h10,(Ob.ok_cons.2 ⟨h11,(Ob.ok_cons.2 ⟨h12,(Ob.ok_cons.2 ⟨h13,(Ob.ok_cons.2 ⟨h14,(Ob.ok_cons.2 ⟨h15,(Ob.ok_cons.2 ⟨h16,(Ob.ok_cons.2 ⟨h17,(Ob.ok_cons.2 ⟨h18,(Ob.ok_cons.2 ⟨h19,(Ob.ok_cons.2 ⟨h20,(Ob.ok_cons.2 ⟨h21,(Ob.ok_cons.2 ⟨h22,Ob.ok_nil⟩)⟩)⟩)⟩)⟩)⟩)⟩)⟩)⟩)⟩)⟩)⟩)⟩)⟩)⟩)⟩)⟩)⟩)⟩)⟩)⟩)⟩) hn (conz g0 (conz g5 (one g6)))).mono fun ex T' st' ⟨q1,q2,q3,q4⟩=>by simp only [List.cons.injEq,and_true] at q3;exact ⟨q1,⟨q2,q3⟩,q4⟩
theorem f27_4_TFTFTT_e(s:ByteArray)(b v105 v106:AV)(n6 n15 n28 n45 n49 n51 n90 n94 n96 n100 n104 n18:Int)(st s1 s2:St):((evS Tryz.prog E0 noOv noS 100000 [2023,2024,2082,2083,2084,2105,2106,6028,6059,7015,7016,7018,7022,7028,7029,7034,7035,7036,7040,7041,7045,7046,7049,7051,7052,7057,7058,7059,7063,7064,7068,7069,7072,7075,7079,7081,7086,7090,7091,7094,7096,7097,7100,7104,8000] (f27P 4) ⟨107,[(0,(str s)),(5,b),(6,(i64 n6))],[]⟩ st [.av (i64 n15),.av TT,.av (u8 n28),.av FF,.av (u8 n45),.av TT,.av (i64 n49),.av (i64 n51),.av FF,.av (u8 n90),.av TT,.av (i64 n94),.av (i64 n96),.av TT,.av (i64 n100),.av (u8 n104),.eff v105 (fun _=>s1),.eff v106 (fun _=>s2),.av (i64 n18)]).map fun q=>(q.1,q.2.1.n,([q.2.1.get 0,q.2.1.get 5,q.2.1.get 6]:List AV),q.2.2.1,q.2.2.2.2))=some (.normal,107,[(str s),v106,(i64 n18)],s2,[lenA E0 9 (str s)=some (i64 n15),binA E0 .lss 3 (i64 n6) (i64 n15)=some TT,indexA E0 9 (str s) (i64 n6)=some (u8 n28),binA E0 .eql 5 (u8 n28) (u8 34)=some FF,indexA E0 9 (str s) (i64 n6)=some (u8 n45),binA E0 .eql 5 (u8 n45) (u8 92)=some TT,binA E0 .add 3 (i64 n6) (i64 3)=some (i64 n49),lenA E0 9 (str s)=some (i64 n51),binA E0 .lss 3 (i64 n49) (i64 n51)=some FF,indexA E0 9 (str s) (i64 n6)=some (u8 n90),binA E0 .eql 5 (u8 n90) (u8 92)=some TT,binA E0 .add 3 (i64 n6) (i64 1)=some (i64 n94),lenA E0 9 (str s)=some (i64 n96),binA E0 .lss 3 (i64 n94) (i64 n96)=some TT,binA E0 .add 3 (i64 n6) (i64 1)=some (i64 n100),indexA E0 9 (str s) (i64 n100)=some (u8 n104),buildSliceA E0 st 51 1 [(0,(u8 n104))]=some (v105,s1),appendA E0 s1 51 51 b v105=some (v106,s2),binA E0 .add 3 (i64 n100) (i64 1)=some (i64 n18)]):=by kernel_rfl
theorem f27_4_TFTFTT{s:ByteArray}{b v105 v106:AV}{n6 n15 n28 n45 n49 n51 n90 n94 n96 n100 n104 n18:Int}{st s1 s2:St}(h1:lenA E0 9 (str s)=some (i64 n15))(h2:binA E0 .lss 3 (i64 n6) (i64 n15)=some TT)(h3:indexA E0 9 (str s) (i64 n6)=some (u8 n28))(h4:binA E0 .eql 5 (u8 n28) (u8 34)=some FF)(h5:indexA E0 9 (str s) (i64 n6)=some (u8 n45))(h6:binA E0 .eql 5 (u8 n45) (u8 92)=some TT)(h7:binA E0 .add 3 (i64 n6) (i64 3)=some (i64 n49))(h8:lenA E0 9 (str s)=some (i64 n51))(h9:binA E0 .lss 3 (i64 n49) (i64 n51)=some FF)(h10:indexA E0 9 (str s) (i64 n6)=some (u8 n90))(h11:binA E0 .eql 5 (u8 n90) (u8 92)=some TT)(h12:binA E0 .add 3 (i64 n6) (i64 1)=some (i64 n94))(h13:lenA E0 9 (str s)=some (i64 n96))(h14:binA E0 .lss 3 (i64 n94) (i64 n96)=some TT)(h15:binA E0 .add 3 (i64 n6) (i64 1)=some (i64 n100))(h16:indexA E0 9 (str s) (i64 n100)=some (u8 n104))(h17:buildSliceA E0 st 51 1 [(0,(u8 n104))]=some (v105,s1))(h18:appendA E0 s1 51 51 b v105=some (v106,s2))(h19:binA E0 .add 3 (i64 n100) (i64 1)=some (i64 n18)){T:Tm}(hT:f27L3 T (str s) b (i64 n6)):AW Tryz.prog (f27P 4) (fun ex T' st'=>ex= .normal∧f27L3 T' (str s) v106 (i64 n18)∧st'=s2) T st:=by
  obtain ⟨hn,g0,g5,g6⟩:=hT
  exact (gen_run (G:=fun T=>([T.get 0,T.get 5,T.get 6]:List AV)) hE (f27_4_TFTFTT_e s b v105 v106 n6 n15 n28 n45 n49 n51 n90 n94 n96 n100 n104 n18 st s1 s2) (Ob.ok_cons.2 ⟨h1,(Ob.ok_cons.2 ⟨h2,(Ob.ok_cons.2 ⟨h3,(Ob.ok_cons.2 ⟨h4,(Ob.ok_cons.2 ⟨h5,(Ob.ok_cons.2 ⟨h6,(Ob.ok_cons.2 ⟨h7,(Ob.ok_cons.2 ⟨h8,(Ob.ok_cons.2 ⟨h9,(Ob.ok_cons.2 ⟨h10,(Ob.ok_cons.2 ⟨h11,(Ob.ok_cons.2 ⟨h12,(Ob.ok_cons.2 ⟨h13,(Ob.ok_cons.2 ⟨h14,(Ob.ok_cons.2 ⟨h15,(Ob.ok_cons.2 ⟨h16,(Ob.ok_cons.2 ⟨h17,(Ob.ok_cons.2 ⟨h18,(Ob.ok_cons.2 ⟨h19,Ob.ok_nil⟩)⟩)⟩)⟩)⟩)⟩)⟩)⟩)⟩)⟩)⟩)⟩)⟩)⟩)⟩)⟩)⟩)⟩)⟩) hn (conz g0 (conz g5 (one g6)))).mono fun ex T' st' ⟨q1,q2,q3,q4⟩=>by simp only [List.cons.injEq,and_true] at q3;exact ⟨q1,⟨q2,q3⟩,q4⟩
theorem f27_4_TFTFTF_e(s:ByteArray)(b v23 v24:AV)(n6 n15 n28 n45 n49 n51 n90 n94 n96 n22 n18:Int)(st s1 s2:St):((evS Tryz.prog E0 noOv noS 100000 [2023,2024,2082,2083,2084,2105,2106,6028,6059,7015,7016,7018,7022,7028,7029,7034,7035,7036,7040,7041,7045,7046,7049,7051,7052,7057,7058,7059,7063,7064,7068,7069,7072,7075,7079,7081,7086,7090,7091,7094,7096,7097,7100,7104,8000] (f27P 4) ⟨107,[(0,(str s)),(5,b),(6,(i64 n6))],[]⟩ st [.av (i64 n15),.av TT,.av (u8 n28),.av FF,.av (u8 n45),.av TT,.av (i64 n49),.av (i64 n51),.av FF,.av (u8 n90),.av TT,.av (i64 n94),.av (i64 n96),.av FF,.av (u8 n22),.eff v23 (fun _=>s1),.eff v24 (fun _=>s2),.av (i64 n18)]).map fun q=>(q.1,q.2.1.n,([q.2.1.get 0,q.2.1.get 5,q.2.1.get 6]:List AV),q.2.2.1,q.2.2.2.2))=some (.normal,107,[(str s),v24,(i64 n18)],s2,[lenA E0 9 (str s)=some (i64 n15),binA E0 .lss 3 (i64 n6) (i64 n15)=some TT,indexA E0 9 (str s) (i64 n6)=some (u8 n28),binA E0 .eql 5 (u8 n28) (u8 34)=some FF,indexA E0 9 (str s) (i64 n6)=some (u8 n45),binA E0 .eql 5 (u8 n45) (u8 92)=some TT,binA E0 .add 3 (i64 n6) (i64 3)=some (i64 n49),lenA E0 9 (str s)=some (i64 n51),binA E0 .lss 3 (i64 n49) (i64 n51)=some FF,indexA E0 9 (str s) (i64 n6)=some (u8 n90),binA E0 .eql 5 (u8 n90) (u8 92)=some TT,binA E0 .add 3 (i64 n6) (i64 1)=some (i64 n94),lenA E0 9 (str s)=some (i64 n96),binA E0 .lss 3 (i64 n94) (i64 n96)=some FF,indexA E0 9 (str s) (i64 n6)=some (u8 n22),buildSliceA E0 st 51 1 [(0,(u8 n22))]=some (v23,s1),appendA E0 s1 51 51 b v23=some (v24,s2),binA E0 .add 3 (i64 n6) (i64 1)=some (i64 n18)]):=by kernel_rfl
theorem f27_4_TFTFTF{s:ByteArray}{b v23 v24:AV}{n6 n15 n28 n45 n49 n51 n90 n94 n96 n22 n18:Int}{st s1 s2:St}(h1:lenA E0 9 (str s)=some (i64 n15))(h2:binA E0 .lss 3 (i64 n6) (i64 n15)=some TT)(h3:indexA E0 9 (str s) (i64 n6)=some (u8 n28))(h4:binA E0 .eql 5 (u8 n28) (u8 34)=some FF)(h5:indexA E0 9 (str s) (i64 n6)=some (u8 n45))(h6:binA E0 .eql 5 (u8 n45) (u8 92)=some TT)(h7:binA E0 .add 3 (i64 n6) (i64 3)=some (i64 n49))(h8:lenA E0 9 (str s)=some (i64 n51))(h9:binA E0 .lss 3 (i64 n49) (i64 n51)=some FF)(h10:indexA E0 9 (str s) (i64 n6)=some (u8 n90))(h11:binA E0 .eql 5 (u8 n90) (u8 92)=some TT)(h12:binA E0 .add 3 (i64 n6) (i64 1)=some (i64 n94))(h13:lenA E0 9 (str s)=some (i64 n96))(h14:binA E0 .lss 3 (i64 n94) (i64 n96)=some FF)(h15:indexA E0 9 (str s) (i64 n6)=some (u8 n22))(h16:buildSliceA E0 st 51 1 [(0,(u8 n22))]=some (v23,s1))(h17:appendA E0 s1 51 51 b v23=some (v24,s2))(h18:binA E0 .add 3 (i64 n6) (i64 1)=some (i64 n18)){T:Tm}(hT:f27L3 T (str s) b (i64 n6)):AW Tryz.prog (f27P 4) (fun ex T' st'=>ex= .normal∧f27L3 T' (str s) v24 (i64 n18)∧st'=s2) T st:=by
  obtain ⟨hn,g0,g5,g6⟩:=hT
  exact (gen_run (G:=fun T=>([T.get 0,T.get 5,T.get 6]:List AV)) hE (f27_4_TFTFTF_e s b v23 v24 n6 n15 n28 n45 n49 n51 n90 n94 n96 n22 n18 st s1 s2) (Ob.ok_cons.2 ⟨h1,(Ob.ok_cons.2 ⟨h2,(Ob.ok_cons.2 ⟨h3,(Ob.ok_cons.2 ⟨h4,(Ob.ok_cons.2 ⟨h5,(Ob.ok_cons.2 ⟨h6,(Ob.ok_cons.2 ⟨h7,(Ob.ok_cons.2 ⟨h8,(Ob.ok_cons.2 ⟨h9,(Ob.ok_cons.2 ⟨h10,(Ob.ok_cons.2 ⟨h11,(Ob.ok_cons.2 ⟨h12,(Ob.ok_cons.2 ⟨h13,(Ob.ok_cons.2 ⟨h14,(Ob.ok_cons.2 ⟨h15,(Ob.ok_cons.2 ⟨h16,(Ob.ok_cons.2 ⟨h17,(Ob.ok_cons.2 ⟨h18,Ob.ok_nil⟩)⟩)⟩)⟩)⟩)⟩)⟩)⟩)⟩)⟩)⟩)⟩)⟩)⟩)⟩)⟩)⟩)⟩) hn (conz g0 (conz g5 (one g6)))).mono fun ex T' st' ⟨q1,q2,q3,q4⟩=>by simp only [List.cons.injEq,and_true] at q3;exact ⟨q1,⟨q2,q3⟩,q4⟩
theorem f27_4_TFFF_e(s:ByteArray)(b v23 v24:AV)(n6 n15 n28 n45 n90 n22 n18:Int)(st s1 s2:St):((evS Tryz.prog E0 noOv noS 100000 [2023,2024,2082,2083,2084,2105,2106,6028,6059,7015,7016,7018,7022,7028,7029,7034,7035,7036,7040,7041,7045,7046,7049,7051,7052,7057,7058,7059,7063,7064,7068,7069,7072,7075,7079,7081,7086,7090,7091,7094,7096,7097,7100,7104,8000] (f27P 4) ⟨107,[(0,(str s)),(5,b),(6,(i64 n6))],[]⟩ st [.av (i64 n15),.av TT,.av (u8 n28),.av FF,.av (u8 n45),.av FF,.av (u8 n90),.av FF,.av (u8 n22),.eff v23 (fun _=>s1),.eff v24 (fun _=>s2),.av (i64 n18)]).map fun q=>(q.1,q.2.1.n,([q.2.1.get 0,q.2.1.get 5,q.2.1.get 6]:List AV),q.2.2.1,q.2.2.2.2))=some (.normal,107,[(str s),v24,(i64 n18)],s2,[lenA E0 9 (str s)=some (i64 n15),binA E0 .lss 3 (i64 n6) (i64 n15)=some TT,indexA E0 9 (str s) (i64 n6)=some (u8 n28),binA E0 .eql 5 (u8 n28) (u8 34)=some FF,indexA E0 9 (str s) (i64 n6)=some (u8 n45),binA E0 .eql 5 (u8 n45) (u8 92)=some FF,indexA E0 9 (str s) (i64 n6)=some (u8 n90),binA E0 .eql 5 (u8 n90) (u8 92)=some FF,indexA E0 9 (str s) (i64 n6)=some (u8 n22),buildSliceA E0 st 51 1 [(0,(u8 n22))]=some (v23,s1),appendA E0 s1 51 51 b v23=some (v24,s2),binA E0 .add 3 (i64 n6) (i64 1)=some (i64 n18)]):=by kernel_rfl
theorem f27_4_TFFF{s:ByteArray}{b v23 v24:AV}{n6 n15 n28 n45 n90 n22 n18:Int}{st s1 s2:St}(h1:lenA E0 9 (str s)=some (i64 n15))(h2:binA E0 .lss 3 (i64 n6) (i64 n15)=some TT)(h3:indexA E0 9 (str s) (i64 n6)=some (u8 n28))(h4:binA E0 .eql 5 (u8 n28) (u8 34)=some FF)(h5:indexA E0 9 (str s) (i64 n6)=some (u8 n45))(h6:binA E0 .eql 5 (u8 n45) (u8 92)=some FF)(h7:indexA E0 9 (str s) (i64 n6)=some (u8 n90))(h8:binA E0 .eql 5 (u8 n90) (u8 92)=some FF)(h9:indexA E0 9 (str s) (i64 n6)=some (u8 n22))(h10:buildSliceA E0 st 51 1 [(0,(u8 n22))]=some (v23,s1))(h11:appendA E0 s1 51 51 b v23=some (v24,s2))(h12:binA E0 .add 3 (i64 n6) (i64 1)=some (i64 n18)){T:Tm}(hT:f27L3 T (str s) b (i64 n6)):AW Tryz.prog (f27P 4) (fun ex T' st'=>ex= .normal∧f27L3 T' (str s) v24 (i64 n18)∧st'=s2) T st:=by
  obtain ⟨hn,g0,g5,g6⟩:=hT
  exact (gen_run (G:=fun T=>([T.get 0,T.get 5,T.get 6]:List AV)) hE (f27_4_TFFF_e s b v23 v24 n6 n15 n28 n45 n90 n22 n18 st s1 s2) (Ob.ok_cons.2 ⟨h1,(Ob.ok_cons.2 ⟨h2,(Ob.ok_cons.2 ⟨h3,(Ob.ok_cons.2 ⟨h4,(Ob.ok_cons.2 ⟨h5,(Ob.ok_cons.2 ⟨h6,(Ob.ok_cons.2 ⟨h7,(Ob.ok_cons.2 ⟨h8,(Ob.ok_cons.2 ⟨h9,(Ob.ok_cons.2 ⟨h10,(Ob.ok_cons.2 ⟨h11,(Ob.ok_cons.2 ⟨h12,Ob.ok_nil⟩)⟩)⟩)⟩)⟩)⟩)⟩)⟩)⟩)⟩)⟩)⟩) hn (conz g0 (conz g5 (one g6)))).mono fun ex T' st' ⟨q1,q2,q3,q4⟩=>by simp only [List.cons.injEq,and_true] at q3;exact ⟨q1,⟨q2,q3⟩,q4⟩
def f27L4(T:Tm):Prop:=T.n=107
theorem f27_4_F_e(s:ByteArray)(b:AV)(n6 n15:Int)(st:St):((evS Tryz.prog E0 noOv noS 100000 [2023,2024,2082,2083,2084,2105,2106,6028,6059,7015,7016,7018,7022,7028,7029,7034,7035,7036,7040,7041,7045,7046,7049,7051,7052,7057,7058,7059,7063,7064,7068,7069,7072,7075,7079,7081,7086,7090,7091,7094,7096,7097,7100,7104,8000] (f27P 4) ⟨107,[(0,(str s)),(5,b),(6,(i64 n6))],[]⟩ st [.av (i64 n15),.av FF]).map fun q=>(q.1,q.2.1.n,([]:List AV),q.2.2.1,q.2.2.2.2))=some ((.exit 0),107,[],st,[lenA E0 9 (str s)=some (i64 n15),binA E0 .lss 3 (i64 n6) (i64 n15)=some FF]):=by kernel_rfl
theorem f27_4_F{s:ByteArray}{b:AV}{n6 n15:Int}{st:St}(h1:lenA E0 9 (str s)=some (i64 n15))(h2:binA E0 .lss 3 (i64 n6) (i64 n15)=some FF){T:Tm}(hT:f27L3 T (str s) b (i64 n6)):AW Tryz.prog (f27P 4) (fun ex T' st'=>ex=(.exit 0)∧f27L4 T'∧st'=st) T st:=by
  obtain ⟨hn,g0,g5,g6⟩:=hT
  exact (gen_run (G:=fun T=>([]:List AV)) hE (f27_4_F_e s b n6 n15 st) (Ob.ok_cons.2 ⟨h1,(Ob.ok_cons.2 ⟨h2,Ob.ok_nil⟩)⟩) hn (conz g0 (conz g5 (one g6)))).mono fun ex T' st' ⟨q1,q2,q3,q4⟩=>by exact ⟨q1,q2,q4⟩
theorem f27_5_e(st:St):((evS Tryz.prog E0 noOv noS 100000 [] (f27P 5) ⟨107,[],[]⟩ st []).map fun q=>(q.1,q.2.1.n,([q.2.1.get 2,q.2.1.get 3,q.2.1.get 4]:List AV),q.2.2.1,q.2.2.2.2))=some (.ret,107,[.nils,(str ⟨#[]⟩),FF],st,[]):=by kernel_rfl
theorem f27_5{st:St}{T:Tm}(hT:f27L4 T):AW Tryz.prog (f27P 5) (fun ex T' st'=>ex= .ret∧f27L1 T' .nils (str ⟨#[]⟩) FF∧st'=st) T st:=by
  have hn:T.n=107:=hT
  exact (gen_run (G:=fun T=>([T.get 2,T.get 3,T.get 4]:List AV)) hE (f27_5_e st) Ob.ok_nil hn (fun q hq=>by cases hq)).mono fun ex T' st' ⟨q1,q2,q3,q4⟩=>by simp only [List.cons.injEq,and_true] at q3;exact ⟨q1,⟨q2,q3⟩,q4⟩
end
section
set_option maxRecDepth 8000
/-! ### loops, turn by turn -/
def LoopIn(P:Program)(c:Code)(Q:Exit→Tm→St→Prop):Nat→Tm→St→Prop
  |0=>fun _ _=>False
  |k+1=>fun T st=>AW P c (thenA (LoopIn P c Q k) Q) T st
theorem AW.loopIn{P:Program}{c:Code}{Q:Exit→Tm→St→Prop}{k:Nat}{T:Tm}{st:St}(h:LoopIn P c Q k T st):AW P (.loop c) Q T st:=by
  refine AW.loop (LoopIn P c Q) k h fun n T st hI=> ?_
  cases n with
  |zero=>exact hI.elim
  |succ m=>
    refine AW.mono hI fun ex T' st' hq=> ?_
    cases ex with
    |normal=>exact ⟨m,Nat.lt_succ_self m,hq⟩
    |_=>exact hq
theorem LoopIn.go{P:Program}{c:Code}{Q:Exit→Tm→St→Prop}{k:Nat}{T:Tm}{st s:St}{L:Tm→Prop}(h:AW P c (fun ex T' z=>ex= .normal∧L T'∧z=s) T st)(hk:∀T',L T'→LoopIn P c Q k T' s):LoopIn P c Q (k+1) T st:=
  AW.mono h fun ex T' z ⟨h1,h2,h3⟩=>by subst h1;subst h3;exact hk T' h2
theorem LoopIn.out{P:Program}{c:Code}{Q:Exit→Tm→St→Prop}{k:Nat}{T:Tm}{st s:St}{L:Tm→Prop}{e:Exit}(he:e≠ .normal)(h:AW P c (fun ex T' z=>ex=e∧L T'∧z=s) T st)(hk:∀T',L T'→Q e T' s):LoopIn P c Q (k+1) T st:=
  AW.mono h fun ex T' z ⟨h1,h2,h3⟩=>by
    subst h1;subst h3
    cases ex with
    |normal=>exact absurd rfl he
    |_=>exact hk T' h2
theorem u8lt(c:UInt8):c.toNat<256:=c.toNat_lt
/-! ### Quote -/
theorem quote_turn{σ:St}{x o:AV}{b:List UInt8}{i:Nat}{c:UInt8}(hc:b[i]? =some c)(hx:BS σ x b)(ho:OwnB σ o (34::(b.take i).flatMap escB))(hw:σ.wf)(hl:σ.lock= [])(hb:b.length≤10000000000):
    ∃o' σ',(∀T,f28L2 T o x (i64 b.length) (i64 i)→AW Tryz.prog (f28P 3) (fun ex T' z=>ex= .normal∧f28L2 T' o' x (i64 b.length) (i64 ((i+1:Nat):Int))∧z=σ') T σ)∧OwnB σ' o' (34::(b.take (i+1)).flatMap escB)∧Rest σ σ' (fid o)∧∀j∈fid o',σ.next≤j:=by
  have hi:=(List.getElem?_eq_some_iff.1 hc).1
  obtain ⟨q,a1,a2⟩:=hx.at hc
  have hlen:(34::(b.take i).flatMap escB).length≤4*b.length+1:=by
    have:=esc_flat (b.take i)
    rw [List.length_take] at this
    simp only [List.length_cons];omega
  have hlt:binA E0 .lss 3 (i64 i) (i64 b.length)=some TT:=lssT (by omega)
  have hadd:binA E0 .add 3 (i64 i) (i64 1)=some (i64 ((i+1:Nat):Int)):=add3 (a:=i) (b:=1) (by omega)
  have e34:(34::(b.take (i+1)).flatMap escB)=(34::(b.take i).flatMap escB)++escB c:=by
    rw [take_succ_get hc,List.flatMap_append];simp
  have h256:=u8lt c
  have key:∀{parts:List (Nat×AV)},buildSliceA E0 σ 51 (escB c).length parts=some (.sl σ.next 1 0 (escB c).length true,σ.push (.row (bytesAV (escB c)) 5))→∃o' σ',(∃σ1 v1,buildSliceA E0 σ 51 (escB c).length parts=some (v1,σ1)∧appendA E0 σ1 51 51 o v1=some (o',σ'))∧OwnB σ' o' (34::(b.take (i+1)).flatMap escB)∧Rest σ σ' (fid o)∧∀j∈fid o',σ.next≤j:=by
    intro parts hp
    have h4:=esc_len c
    obtain ⟨st5,b1,b2,b3,b4⟩:=bapp ho hw hl (by omega) (by unfold escB;split<;>(try split)<;>simp) hp
    exact ⟨_,st5,⟨_,_,hp,b1⟩,by rw [e34];exact b2,b3,fun j hj=>by simp only [fid,List.mem_singleton] at hj;omega⟩
  by_cases h1:c.toNat<32
  · have he:escB c= [92,120,hexD (c.toNat/16),hexD (c.toNat%16)]:=by unfold escB;rw [if_pos (.inl h1)]
    obtain ⟨o',σ',⟨σ1,v1,k1,k2⟩,k3⟩:=key (parts:= [(0,u8 92),(1,u8 120),(2,u8 (hexD (c.toNat/16)).toNat),(3,u8 (hexD (c.toNat%16)).toNat)]) (by rw [he];exact b4 ..)
    rw [he] at k1
    exact ⟨o',σ',fun T hT=>f28_3_TT hlt a1 a2 (lssT (by omega)) (fun k hk=>by cases hk) (shr5 _) (hex_idx (by omega)) (and5 _ h256) (hex_idx (by omega)) k1 k2 hadd hT,k3⟩
  · by_cases h2:126<c.toNat
    · have he:escB c= [92,120,hexD (c.toNat/16),hexD (c.toNat%16)]:=by unfold escB;rw [if_pos (.inr h2)]
      obtain ⟨o',σ',⟨σ1,v1,k1,k2⟩,k3⟩:=key (parts:= [(0,u8 92),(1,u8 120),(2,u8 (hexD (c.toNat/16)).toNat),(3,u8 (hexD (c.toNat%16)).toNat)]) (by rw [he];exact b4 ..)
      rw [he] at k1
      exact ⟨o',σ',fun T hT=>f28_3_TFT hlt a1 a2 (lssF (by omega)) (gtrT (by omega)) (fun k hk=>by cases hk) (shr5 _) (hex_idx (by omega)) (and5 _ h256) (hex_idx (by omega)) k1 k2 hadd hT,k3⟩
    · have hn:¬(c.toNat<32∨126<c.toNat):=by omega
      by_cases h3:c=34
      · have he:escB c= [92,c]:=by unfold escB;rw [if_neg hn,if_pos (.inl h3)]
        obtain ⟨o',σ',⟨σ1,v1,k1,k2⟩,k3⟩:=key (parts:= [(0,u8 92),(1,u8 c.toNat)]) (by rw [he];exact b2 ..)
        rw [he] at k1
        exact ⟨o',σ',fun T hT=>f28_3_TFFT hlt a1 a2 (lssF (by omega)) (gtrF (by omega)) (eqlT (by rw [h3];rfl)) k1 k2 hadd hT,k3⟩
      · have n3:((c.toNat:Nat):Int)≠34:=fun e=>h3 (UInt8.toNat_inj.1 (by show c.toNat=34;omega))
        by_cases h4:c=92
        · have he:escB c= [92,c]:=by unfold escB;rw [if_neg hn,if_pos (.inr h4)]
          obtain ⟨o',σ',⟨σ1,v1,k1,k2⟩,k3⟩:=key (parts:= [(0,u8 92),(1,u8 c.toNat)]) (by rw [he];exact b2 ..)
          rw [he] at k1
          exact ⟨o',σ',fun T hT=>f28_3_TFFFT hlt a1 a2 (lssF (by omega)) (gtrF (by omega)) (eqlF n3) (eqlT (by rw [h4];rfl)) k1 k2 hadd hT,k3⟩
        · have n4:((c.toNat:Nat):Int)≠92:=fun e=>h4 (UInt8.toNat_inj.1 (by show c.toNat=92;omega))
          have he:escB c= [c]:=by unfold escB;rw [if_neg hn,if_neg (fun e=>e.elim h3 h4)]
          obtain ⟨o',σ',⟨σ1,v1,k1,k2⟩,k3⟩:=key (parts:= [(0,u8 c.toNat)]) (by rw [he];exact b1 ..)
          rw [he] at k1
          exact ⟨o',σ',fun T hT=>f28_3_TFFFF hlt a1 a2 (lssF (by omega)) (gtrF (by omega)) (eqlF n3) (eqlF n4) k1 k2 hadd hT,k3⟩
theorem quote_loop{st0:St}{x:AV}{b:List UInt8}(hx0:BS st0 x b)(hw0:st0.wf)(hl0:st0.lock= [])(hb:b.length≤10000000000):∀(k i:Nat) (σ:St) (o:AV),b.length- i=k→i≤b.length→Rest st0 σ []→OwnB σ o (34::(b.take i).flatMap escB)→(∀j∈fid o,st0.next≤j)→
    ∃o' sf,(∀T,f28L2 T o x (i64 b.length) (i64 i)→LoopIn Tryz.prog (f28P 3) (fun ex T' z=>ex= .exit 0∧f28L3 T' o'∧z=sf) (k+1) T σ)∧OwnB sf o' (34::b.flatMap escB)∧Rest st0 sf []∧∀j∈fid o',st0.next≤j:=by
  intro k
  induction k with
  |zero=>
    intro i σ o hk hi hr ho hf
    have e:i=b.length:=by omega
    subst e
    rw [List.take_length] at ho
    exact ⟨o,σ,fun T hT=>LoopIn.out (by simp) (f28_3_F (lssF (by omega)) hT) fun T' hT'=>⟨rfl,hT',rfl⟩,ho,hr,hf⟩
  |succ k ih=>
    intro i σ o hk hi hr ho hf
    obtain ⟨c,hc⟩:∃c,b[i]? =some c:=⟨b[i]'(by omega),List.getElem?_eq_getElem (by omega)⟩
    have hx:BS σ x b:=hx0.rest hr fun j _=>by simp
    obtain ⟨o1,σ1,t1,t2,t3,t4⟩:=quote_turn hc hx ho hr.wf (hr.lock.trans hl0) hb
    have hr1:=hr.fresh t3 hw0 hf
    obtain ⟨o',sf,u1,u2,u3,u4⟩:=ih (i+1) σ1 o1 (by omega) (by omega) hr1 t2 (fun j hj=>Nat.le_trans hr.next (t4 j hj))
    exact ⟨o',sf,fun T hT=>LoopIn.go (t1 T hT) u1,u2,u3,u4⟩
theorem quote_ok{st:St}{x:AV}{b:List UInt8}(hx:BS st x b)(hw:st.wf)(hl:st.lock= [])(hb:b.length≤10000000000):∃st',obC 28 [x] st (sb (quoteF b)) st'∧Rest st st' []:=by
  have hr1:=Rest.push hw (.row [u8 34] 5) []
  obtain ⟨o',sf,u1,u2,u3,u4⟩:=quote_loop hx hw hl hb b.length 0 (st.push (.row [u8 34] 5)) (.sl st.next 1 0 1 true) (by omega) (by omega) hr1 (.inr ⟨rfl,_,_,rfl,by rw [St.get_push,if_pos rfl];rfl⟩) (fun j hj=>by simp only [fid,List.mem_singleton] at hj;omega)
  have hl34:(34::b.flatMap escB).length≤4*b.length+1:=by have:=esc_flat b;simp only [List.length_cons];omega
  obtain ⟨s5,v1,v2,v3,v4⟩:=bapp (c:= [34]) u2 u3.wf (u3.lock.trans hl) (by simp only [List.length_singleton];omega) (by simp) (b1 sf 34)
  have hr5:=u3.fresh v3 hw u4
  refine ⟨s5,?_,hr5⟩
  refine ACalls.body (E:=E0) hE Tryz.func28 f28body ?_
  refine AW.andThen (f28_0 (x:=x) ⟨rfl,rfl⟩) fun T1 q1=> ?_
  refine AW.andThen (f28_1 (b1 st 34) q1) fun T2 q2=> ?_
  refine AW.andThen (L:=fun T=>f28L3 T o') (s:=sf) (AW.andThen (f28_2 hx.len q2) fun T3 q3=>AW.block ((AW.loopIn (u1 T3 q3)).mono fun ex T' z ⟨h1,h2,h3⟩=> ?_)) fun T4 q4=> ?_
  · subst h1;exact ⟨rfl,h2,h3⟩
  · refine AW.atRet (f28_4 (b1 sf 34) v1 v2.bs.str q4) fun T5 q5=> ?_
    exact ⟨[T5.get 2],rfl,q5.2,rfl⟩
end
section
set_option maxRecDepth 8000
/-! ### Unquote -/
theorem prefix_ok(st:St)(s t:List UInt8)(hs:s.length≤9000000000000000000):obC 58 [sb s,sb t] st (if t.length≤s.length∧s.take t.length=t then TT else FF) st:=by
  by_cases h1:t.length≤s.length
  · have hs2:=slice_hi st (l:=s) h1
    by_cases h2:s.take t.length=t
    · rw [if_pos ⟨h1,h2⟩]
      have h16:obC 74 [sb s,sb t] st (bo true) st:=f74_TT (len_sb s) (len_sb t) (geqT (by omega)) (len_sb t) hs2 (eq_sbT h2)
      exact f58 (b7:=true) h16
    · rw [if_neg (fun e=>h2 e.2)]
      have h16:obC 74 [sb s,sb t] st (bo false) st:=f74_TF (len_sb s) (len_sb t) (geqT (by omega)) (len_sb t) hs2 (eq_sbF h2)
      exact f58 (b7:=false) h16
  · rw [if_neg (fun e=>h1 e.1)]
    have h16:obC 74 [sb s,sb t] st (bo false) st:=f74_F (len_sb s) (len_sb t) (geqF (by omega))
    exact f58 (b7:=false) h16
def digV(c:UInt8):Option Nat:=if 48≤c.toNat∧c.toNat≤57 then some (c.toNat- 48) else if 97≤c.toNat∧c.toNat≤102 then some (c.toNat- 87) else none
def digI(o:Option Nat):Int:=match o with|some n=>n|none=> -1
theorem dig_at:∀n:Fin 256,Lib.indexByte hexs (UInt8.ofNat n.val)=digI (digV (UInt8.ofNat n.val)):=by decide
theorem dig_ok(st:St)(c:UInt8):obC 59 [str ⟨#[48,49,50,51,52,53,54,55,56,57,97,98,99,100,101,102]⟩,u8 c.toNat] st (i64 (digI (digV c))) st:=by
  have h:=ib_ok ⟨#[48,49,50,51,52,53,54,55,56,57,97,98,99,100,101,102]⟩ c.toNat st
  have e1:((c.toNat:Nat):Int).toNat.toUInt8=c:=by simp
  have e2:=dig_at ⟨c.toNat,u8lt c⟩
  simp only [UInt8.ofNat_toNat] at e2
  have e3:Lib.indexByte ((⟨#[48,49,50,51,52,53,54,55,56,57,97,98,99,100,101,102]⟩:ByteArray).data.toList) c=digI (digV c):=e2
  rw [e1,e3] at h
  exact f59 h
theorem digV_lt{c:UInt8}{n:Nat}(h:digV c=some n):n<16:=by
  unfold digV at h
  split at h
  · cases h;omega
  · split at h
    · cases h;omega
    · cases h
theorem shl3:∀h:Nat,h<16→binA E0 .shl 3 (i64 h) (u64 4)=some (i64 ((h*16:Nat):Int))
  |0,_=>rfl
  |1,_=>rfl
  |2,_=>rfl
  |3,_=>rfl
  |4,_=>rfl
  |5,_=>rfl
  |6,_=>rfl
  |7,_=>rfl
  |8,_=>rfl
  |9,_=>rfl
  |10,_=>rfl
  |11,_=>rfl
  |12,_=>rfl
  |13,_=>rfl
  |14,_=>rfl
  |15,_=>rfl
  |n+16,h=>by omega
theorem or3{h l:Nat}(hh:h<16)(hl:l<16):binA E0 .or 3 (i64 ((h*16:Nat):Int)) (i64 l)=some (i64 ((16*h+l:Nat):Int)):=by
  show some (AV.val (.int .i64 (IntKind.i64.wrap (((BitVec.ofInt 64 ((h*16:Nat):Int))|||(BitVec.ofInt 64 (l:Int))).toNat:Int))))=_
  rw [BitVec.ofInt_natCast,BitVec.ofInt_natCast,BitVec.toNat_or,BitVec.toNat_ofNat,BitVec.toNat_ofNat,Nat.mod_eq_of_lt (by omega),Nat.mod_eq_of_lt (by omega)]
  have e:h*16|||l=16*h+l:=by
    have:=Nat.shiftLeft_add_eq_or_of_lt (b:=l) (i:=4) (by omega) h
    rw [Nat.shiftLeft_eq] at this
    rw [←this];omega
  rw [e,IntWalk.i64_in _ (by omega)]
theorem conv35(st:St)(k:Nat)(h:k<256):convO E0 st 3 5 (i64 k)=some (u8 (k:Nat),st):=by
  have:convO E0 st 3 5 (i64 k)=some (u8 (IntKind.u8.wrap (k:Int)),st):=by kernel_rfl
  rw [this]
  have hw:IntKind.u8.wrap (k:Int)=k:=by
    show (k:Int)%256=k
    omega
  rw [hw]
def scanP:Nat→List UInt8→List UInt8→Option (List UInt8×List UInt8)
  |0,_,_=>none
  |_+1,[],_=>none
  |n+1,c::t,B=>if c=34 then some (B,t) else if c=92 then (match t with
      | []=>scanP n [] (B++ [92])
      |d::t1=>if d=120 then (match t1 with
          |x::y::t2=>(match digV x,digV y with
            |some p,some q=>scanP n t2 (B++ [UInt8.ofNat (16*p+q)])
            |_,_=>none)
          |_=>scanP n t1 (B++ [120]))
        else scanP n t1 (B++ [d]))
    else scanP n t (B++ [c])
def QU(o:Option (AV×List UInt8))(sf:St):Exit→Tm→St→Prop:=fun ex T z=>z=sf∧match o with
  |none=>(ex= .exit 0∧f27L4 T)∨(ex= .ret∧f27L1 T .nils (str ⟨#[]⟩) FF)
  |some (v,r)=>ex= .ret∧f27L1 T v (sb r) TT
/-- what the loop is to come to -/
def OutU(s:List UInt8)(n0:Nat)(R:Option (List UInt8×List UInt8))(o:Option (AV×List UInt8))(sf:St):Prop:=match R with
  |some (B,r)=>if quoteF B++r=s then∃v,o=some (v,r)∧OwnB sf v B∧∀j∈fid v,n0≤j else o=none
  |none=>o=none
theorem drop_cons{l:List UInt8}{a:Nat}{c:UInt8}{t:List UInt8}(h:c::t=l.drop a):l[a]? =some c∧t=l.drop (a+1)∧a+1+t.length=l.length:=by
  have h1:(l.drop a)[0]? =some c:=by rw [←h];rfl
  rw [List.getElem?_drop,Nat.add_zero] at h1
  have h2:t=l.drop (a+1):=by
    have:=congrArg (List.drop 1) h
    rw [List.drop_drop] at this
    simpa [Nat.add_comm] using this
  have h3:=(List.getElem?_eq_some_iff.1 h1).1
  exact ⟨h1,h2,by rw [h2,List.length_drop];omega⟩
theorem unq_loop{s:List UInt8}{st0:St}(hw0:st0.wf)(hl0:st0.lock= [])(hs:s.length≤2000000000):∀(n:Nat) (t:List UInt8) (a:Nat) (σ:St) (v:AV) (B:List UInt8),t=s.drop a→t.length<n→Rest st0 σ []→OwnB σ v B→(∀j∈fid v,st0.next≤j)→B.length≤a→a≤s.length→
    ∃o sf,OutU s st0.next (scanP n t B) o sf∧Rest st0 sf []∧∀T,f27L3 T (sb s) v (i64 a)→LoopIn Tryz.prog (f27P 4) (QU o sf) n T σ:=by
  intro n
  induction n with
  |zero=>intro t a σ v B ht hn;omega
  |succ n ih=>
    intro t a σ v B ht hn hr ho hf hB ha
    have hlen:=len_sb s
    cases t with
    |nil=>
      have e:a=s.length:=by
        have:=congrArg List.length ht
        rw [List.length_drop] at this
        simp at this;omega
      exact ⟨none,σ,rfl,hr,fun T hT=>LoopIn.out (by simp) (f27_4_F hlen (lssF (by omega)) hT) fun T' hT'=>⟨rfl,.inl ⟨rfl,hT'⟩⟩⟩
    |cons c t=>
      obtain ⟨hc,ht1,htl⟩:=drop_cons ht
      have hi:=idx_sb hc
      have hlt:binA E0 .lss 3 (i64 a) (i64 s.length)=some TT:=lssT (by omega)
      have a1:binA E0 .add 3 (i64 a) (i64 1)=some (i64 ((a+1:Nat):Int)):=add3 (a:=a) (b:=1) (by omega)
      have a3:binA E0 .add 3 (i64 a) (i64 3)=some (i64 ((a+3:Nat):Int)):=add3 (a:=a) (b:=3) (by omega)
      have ap:∀x:UInt8,∃v' σ',(∃σ1 v1,buildSliceA E0 σ 51 1 [(0,u8 x.toNat)]=some (v1,σ1)∧appendA E0 σ1 51 51 v v1=some (v',σ'))∧OwnB σ' v' (B++ [x])∧Rest st0 σ' []∧∀j∈fid v',st0.next≤j:=fun x=>by
        obtain ⟨s5,p1,p2,p3,p4⟩:=bapp (c:= [x]) ho hr.wf (hr.lock.trans hl0) (by simp only [List.length_singleton];omega) (by simp) (b1 σ x.toNat)
        exact ⟨_,s5,⟨_,_,b1 σ x.toNat,p1⟩,p2,hr.fresh p3 hw0 hf,fun j hj=>by simp only [fid,List.mem_singleton] at hj;have:=hr.next;omega⟩
      by_cases h34:c=34
      · obtain ⟨s1,k1,k2⟩:=quote_ok ho.bs hr.wf (hr.lock.trans hl0) (by omega)
        have hr1:=hr.fresh k2 hw0 (fun i hi=>by cases hi)
        have c34:binA E0 .eql 5 (u8 c.toNat) (u8 34)=some TT:=eqlT (by rw [h34];rfl)
        have hsl:=slice_hi σ (l:=s) (k:=a+1) (by omega)
        have hsr:=slice_lo s1 (l:=s) (k:=a+1) (by omega)
        have e0:scanP (n+1) (c::t) B=some (B,t):=by simp only [scanP];rw [if_pos h34]
        have hsp:s=s.take (a+1)++t:=by rw [ht1,List.take_append_drop]
        by_cases hq:quoteF B=s.take (a+1)
        · refine ⟨some (v,s.drop (a+1)),s1,?_,hr1,fun T hT=>LoopIn.out (by simp) (f27_4_TTF hlen hlt hi c34 (fun k hk=>by cases hk) a1 hsl k1 (ne_sbF hq) (fun k hk=>by cases hk) a1 hsr hT) fun T' hT'=>⟨rfl,rfl,hT'⟩⟩
          rw [e0]
          simp only [OutU]
          rw [if_pos (by rw [hq,←hsp])]
          exact ⟨v,by rw [ht1],ho.rest k2 (fun i _=>by simp),hf⟩
        · refine ⟨none,s1,?_,hr1,fun T hT=>LoopIn.out (by simp) (f27_4_TTT hlen hlt hi c34 (fun k hk=>by cases hk) a1 hsl k1 (ne_sbT hq) hT) fun T' hT'=>⟨rfl,.inr ⟨rfl,hT'⟩⟩⟩
          rw [e0]
          simp only [OutU]
          rw [if_neg (fun e=>hq (List.append_cancel_right (e.trans hsp)))]
          trivial
      · have c34:binA E0 .eql 5 (u8 c.toNat) (u8 34)=some FF:=eqlF (fun e=>h34 (UInt8.toNat_inj.1 (by show c.toNat=34;omega)))
        by_cases h92:c=92
        · have c92:binA E0 .eql 5 (u8 c.toNat) (u8 92)=some TT:=eqlT (by rw [h92];rfl)
          cases t with
          |nil=>
            have e0:scanP (n+1) [c] B=scanP n [] (B++ [c]):=by simp only [scanP];rw [if_neg h34,if_pos h92,h92]
            obtain ⟨v',σ',⟨σ1,v1,p1,p2⟩,p3,p4,p5⟩:=ap c
            simp only [List.length_nil] at htl
            obtain ⟨o,sf,q1,q2,q3⟩:=ih [] (a+1) σ' v' (B++ [c]) ht1 (by simp at hn⊢;omega) p4 p3 p5 (by simp;omega) (by omega)
            exact ⟨o,sf,by rw [e0];exact q1,q2,fun T hT=>LoopIn.go (f27_4_TFTFTF hlen hlt hi c34 hi c92 a3 hlen (lssF (by omega)) hi c92 a1 hlen (lssF (by omega)) hi p1 p2 a1 hT) q3⟩
          |cons d t1=>
            obtain ⟨hd,ht2,htl2⟩:=drop_cons ht1
            have hi1:indexA E0 9 (sb s) (i64 ((a+1:Nat):Int))=some (u8 d.toNat):=idx_sb hd
            have a11:binA E0 .add 3 (i64 ((a+1:Nat):Int)) (i64 1)=some (i64 ((a+2:Nat):Int)):=add3 (a:=a+1) (b:=1) (by omega)
            have lt1:binA E0 .lss 3 (i64 ((a+1:Nat):Int)) (i64 s.length)=some TT:=lssT (by omega)
            have plain:(scanP (n+1) (c::d::t1) B=scanP n t1 (B++ [d]))→(d≠120∨t1.length<2)→∃o sf,OutU s st0.next (scanP (n+1) (c::d::t1) B) o sf∧Rest st0 sf []∧∀T,f27L3 T (sb s) v (i64 a)→LoopIn Tryz.prog (f27P 4) (QU o sf) (n+1) T σ:=by
              intro e0 hcase
              obtain ⟨v',σ',⟨σ1,v1,p1,p2⟩,p3,p4,p5⟩:=ap d
              obtain ⟨o,sf,q1,q2,q3⟩:=ih t1 (a+2) σ' v' (B++ [d]) ht2 (by simp at hn⊢;omega) p4 p3 p5 (by simp;omega) (by omega)
              refine ⟨o,sf,by rw [e0];exact q1,q2,fun T hT=> ?_⟩
              by_cases hl3:a+3<s.length
              · have hd120:d≠120:=hcase.elim id (fun e=>by omega)
                exact LoopIn.go (f27_4_TFTTFTT hlen hlt hi c34 hi c92 a3 hlen (lssT (by omega)) a1 hi1 (eqlF (fun e=>hd120 (UInt8.toNat_inj.1 (by show d.toNat=120;omega)))) hi c92 a1 hlen lt1 a1 hi1 p1 p2 a11 hT) q3
              · exact LoopIn.go (f27_4_TFTFTT hlen hlt hi c34 hi c92 a3 hlen (lssF (by omega)) hi c92 a1 hlen lt1 a1 hi1 p1 p2 a11 hT) q3
            by_cases h120:d=120
            · match t1,ht2,htl2,plain with
              | [],ht2,htl2,plain=>exact plain (by simp only [scanP];rw [if_neg h34,if_pos h92,if_pos h120,h120]) (.inr (by simp))
              | [x],ht2,htl2,plain=>exact plain (by simp only [scanP];rw [if_neg h34,if_pos h92,if_pos h120,h120]) (.inr (by simp))
              |x::y::t2,ht2,htl2,plain=>
                obtain ⟨hx,ht3,htl3⟩:=drop_cons ht2
                obtain ⟨hy,ht4,htl4⟩:=drop_cons ht3
                have a2:binA E0 .add 3 (i64 a) (i64 2)=some (i64 ((a+2:Nat):Int)):=add3 (a:=a) (b:=2) (by omega)
                have hi2:indexA E0 9 (sb s) (i64 ((a+2:Nat):Int))=some (u8 x.toNat):=idx_sb hx
                have hi3:indexA E0 9 (sb s) (i64 ((a+3:Nat):Int))=some (u8 y.toNat):=idx_sb hy
                have lt3:binA E0 .lss 3 (i64 ((a+3:Nat):Int)) (i64 s.length)=some TT:=lssT (by omega)
                have d120:binA E0 .eql 5 (u8 d.toNat) (u8 120)=some TT:=eqlT (by rw [h120];rfl)
                have e0:scanP (n+1) (c::d::x::y::t2) B=(match digV x,digV y with
                    |some p,some q=>scanP n t2 (B++ [UInt8.ofNat (16*p+q)])
                    |_,_=>none):=by simp only [scanP];rw [if_neg h34,if_pos h92,if_pos h120]
                have dx:=dig_ok σ x
                have dy:=dig_ok σ y
                cases hvx:digV x with
                |none=>
                  rw [hvx] at dx
                  refine ⟨none,σ,by rw [e0,hvx];rfl,hr,fun T hT=>LoopIn.out (by simp) (f27_4_TFTTTT hlen hlt hi c34 hi c92 a3 hlen lt3 a1 hi1 d120 (fun k hk=>by cases hk) a2 hi2 a3 hi3 dx dy (lssT (by decide)) hT) fun T' hT'=>⟨rfl,.inr ⟨rfl,hT'⟩⟩⟩
                |some p=>
                  rw [hvx] at dx
                  have hp:=digV_lt hvx
                  cases hvy:digV y with
                  |none=>
                    rw [hvy] at dy
                    refine ⟨none,σ,by rw [e0,hvx,hvy];rfl,hr,fun T hT=>LoopIn.out (by simp) (f27_4_TFTTTFT hlen hlt hi c34 hi c92 a3 hlen lt3 a1 hi1 d120 (fun k hk=>by cases hk) a2 hi2 a3 hi3 dx dy (lssF (by simp [digI])) (lssT (by decide)) hT) fun T' hT'=>⟨rfl,.inr ⟨rfl,hT'⟩⟩⟩
                  |some q=>
                    rw [hvy] at dy
                    have hq:=digV_lt hvy
                    obtain ⟨v',σ',⟨σ1,v1,p1,p2⟩,p3,p4,p5⟩:=ap (UInt8.ofNat (16*p+q))
                    have e8:(UInt8.ofNat (16*p+q)).toNat=16*p+q:=by
                      rw [UInt8.toNat_ofNat'];exact Nat.mod_eq_of_lt (by omega)
                    rw [e8] at p1
                    obtain ⟨o,sf,q1,q2,q3⟩:=ih t2 (a+4) σ' v' (B++ [UInt8.ofNat (16*p+q)]) ht4 (by simp at hn⊢;omega) p4 p3 p5 (by simp;omega) (by omega)
                    have a31:binA E0 .add 3 (i64 ((a+3:Nat):Int)) (i64 1)=some (i64 ((a+4:Nat):Int)):=add3 (a:=a+3) (b:=1) (by omega)
                    exact ⟨o,sf,by rw [e0,hvx,hvy];exact q1,q2,fun T hT=>LoopIn.go (f27_4_TFTTTFF hlen hlt hi c34 hi c92 a3 hlen lt3 a1 hi1 d120 (fun k hk=>by cases hk) a2 hi2 a3 hi3 dx dy (lssF (by simp [digI])) (lssF (by simp [digI])) (shl3 p hp) (or3 hp hq) (conv35 σ (16*p+q) (by omega)) p1 p2 a3 a31 hT) q3⟩
            · exact plain (by simp only [scanP];rw [if_neg h34,if_pos h92,if_neg h120]) (.inl h120)
        · have c92:binA E0 .eql 5 (u8 c.toNat) (u8 92)=some FF:=eqlF (fun e=>h92 (UInt8.toNat_inj.1 (by show c.toNat=92;omega)))
          have e0:scanP (n+1) (c::t) B=scanP n t (B++ [c]):=by simp only [scanP];rw [if_neg h34,if_neg h92]
          obtain ⟨v',σ',⟨σ1,v1,p1,p2⟩,p3,p4,p5⟩:=ap c
          obtain ⟨o,sf,q1,q2,q3⟩:=ih t (a+1) σ' v' (B++ [c]) ht1 (by simp at hn⊢;omega) p4 p3 p5 (by simp;omega) (by omega)
          exact ⟨o,sf,by rw [e0];exact q1,q2,fun T hT=>LoopIn.go (f27_4_TFFF hlen hlt hi c34 hi c92 hi c92 hi p1 p2 a1 hT) q3⟩
/-- what the word is, by the scan -/
def unqP(s:List UInt8):Option (List UInt8×List UInt8):=match s with
  |34::t=>(match scanP (t.length+1) t [] with
    |some (B,r)=>if quoteF B++r=s then some (B,r) else none
    |none=>none)
  |_=>none
theorem unquote_ok{st:St}{s:List UInt8}(hw:st.wf)(hl:st.lock= [])(hs:s.length≤2000000000):
    ∃st' r,obC 27 [sb s] st r st'∧Rest st st' []∧match unqP s with
      |some (B,rest)=>∃v,r= .tup [v,sb rest,TT]∧OwnB st' v B∧∀j∈fid v,st.next≤j
      |none=>r= .tup [.nils,str ⟨#[]⟩,FF]:=by
  have hp:=prefix_ok st s [34] (by omega)
  have fin:∀{T:Tm} {a b c:AV} {z:St},f27L1 T a b c→endA E0 Tryz.f27 (fun r s=>r= .tup [a,b,c]∧s=z) .ret T z:=fun {T a b c z} q=>⟨[T.get 2,T.get 3,T.get 4],rfl,by obtain ⟨_,q1,q2,q3⟩:=q;rw [q1,q2,q3];rfl,rfl⟩
  have no:(∀t,s≠34::t)→∃st' r,obC 27 [sb s] st r st'∧Rest st st' []∧match unqP s with
      |some (B,rest)=>∃v,r= .tup [v,sb rest,TT]∧OwnB st' v B∧∀j∈fid v,st.next≤j
      |none=>r= .tup [.nils,str ⟨#[]⟩,FF]:=by
    intro hne
    have e0:unqP s=none:=by
      unfold unqP
      split
      · rename_i t;exact absurd rfl (hne t)
      · rfl
    rw [e0]
    rw [if_neg] at hp
    · refine ⟨st,_,?_,.refl hw _,rfl⟩
      refine ACalls.body (E:=E0) hE Tryz.func27 f27body ?_
      refine AW.andThen (f27_0 (s:=⟨s.toArray⟩) ⟨rfl,rfl⟩) fun T1 q1=> ?_
      exact AW.retThen (f27_1_F hp q1) fun T2 q2=>fin q2
    · rintro ⟨h1,h2⟩
      cases s with
      |nil=>simp at h1
      |cons c t=>exact hne t (by simpa using h2)
  by_cases hx:∃t,s=34::t
  · obtain ⟨t,rfl⟩:=hx
    rw [if_pos ⟨by simp,by simp⟩] at hp
    have hr1:=Rest.push hw (.row [] 5) []
    obtain ⟨o,sf,q1,q2,q3⟩:=unq_loop (s:=34::t) hw hl hs (t.length+1) t 1 (st.push (.row [] 5)) (.sl st.next 1 0 0 true) [] rfl (by omega) hr1 (.inr ⟨rfl,_,_,rfl,by rw [St.get_push,if_pos rfl];rfl⟩) (fun j hj=>by simp only [fid,List.mem_singleton] at hj;omega) (by simp) (by simp)
    have main:∀(r:AV),(∀T ex,(QU o sf ex T sf)→(ex= .exit 0∧r= .tup [.nils,str ⟨#[]⟩,FF]∧f27L4 T)∨(ex= .ret∧endA E0 Tryz.f27 (fun r' s=>r'=r∧s=sf) .ret T sf))→obC 27 [sb (34::t)] st r sf:=by
      intro r hr
      refine ACalls.body (E:=E0) hE Tryz.func27 f27body ?_
      refine AW.andThen (f27_0 (s:=⟨(34::t).toArray⟩) ⟨rfl,rfl⟩) fun T1 p1=> ?_
      refine AW.andThen (f27_1_T hp p1) fun T2 p2=> ?_
      refine AW.andThen (f27_2 (b0 st) p2) fun T3 p3=> ?_
      refine .seq (.seq ((f27_3 p3).mono fun ex T4 z ⟨h1,h2,h3⟩=> ?_))
      subst h1;subst h3
      refine AW.block ((AW.loopIn (q3 T4 h2)).mono fun ex T5 z hq=> ?_)
      have hz:z=sf:=hq.1
      subst hz
      rcases hr T5 ex hq with ⟨rfl,h4,h5⟩|⟨rfl,h4⟩
      · simp only [blockA,if_true]
        exact AW.atRet (f27_5 h5) fun T6 p6=>h4▸fin p6
      · exact h4
    have e0:unqP (34::t)=(match scanP (t.length+1) t [] with
        |some (B,r)=>if quoteF B++r=34::t then some (B,r) else none
        |none=>none):=rfl
    have bad:o=none→∃r,obC 27 [sb (34::t)] st r sf∧r= .tup [.nils,str ⟨#[]⟩,FF]:=fun h=>⟨_,main _ (fun T ex hq=>by
      subst h
      rcases hq.2 with ⟨rfl,h2⟩|⟨rfl,h2⟩
      · exact .inl ⟨rfl,rfl,h2⟩
      · exact .inr ⟨rfl,fin h2⟩),rfl⟩
    rw [e0]
    cases hsc:scanP (t.length+1) t [] with
    |none=>
      rw [hsc] at q1
      obtain ⟨r,h1,h2⟩:=bad q1
      exact ⟨sf,r,h1,q2,h2⟩
    |some p=>
      obtain ⟨B,r⟩:=p
      rw [hsc] at q1
      simp only [OutU] at q1
      by_cases hq:quoteF B++r=34::t
      · rw [if_pos hq] at q1
        obtain ⟨v,rfl,h2,h3⟩:=q1
        simp only [if_pos hq]
        exact ⟨sf,_,main _ (fun T ex hq=>by
          obtain ⟨_,rfl,h⟩:=hq
          exact .inr ⟨rfl,fin h⟩),q2,v,rfl,h2,h3⟩
      · rw [if_neg hq] at q1
        obtain ⟨r',h1,h2⟩:=bad q1
        simp only [if_neg hq]
        exact ⟨sf,r',h1,q2,h2⟩
  · exact no fun t e=>hx ⟨t,e⟩
end
section
set_option maxRecDepth 100000
theorem f44_e(st s1:St)(s:ByteArray)(a1:Nat):evCallS Tryz.prog E0 noOv (fun _=> [2001]) 100000 44 [(str s)] st [.eff (.ptr a1 0) (fun _=>s1)]=some ((.fn (.func 67) [] [(.ptr a1 0)]),s1,[],[boxA st 9 (str s)=some ((.ptr a1 0),s1)]):=by kernel_rfl
theorem f44{st s1:St}{s:ByteArray}{a1:Nat}(h1:boxA st 9 (str s)=some ((.ptr a1 0),s1)):obC 44 [(str s)] st (.fn (.func 67) [] [(.ptr a1 0)]) s1:=ACalls.run hE noOv_ok (f44_e st s1 s a1) (Ob.ok_cons.2 ⟨h1,Ob.ok_nil⟩)
theorem f35_e(st s1 s2 s3:St)(d:Nat)(s:ByteArray)(v12 v14:AV)(n18:Int):evCallS Tryz.prog E0 noOv (fun _=> [2012,2014,5000,6063,7018]) 100000 35 [(.ptr d 0),(str s)] st [.eff (.tup []) (fun _=>s1),.eff v12 id,.eff v14 (fun _=>s2),.eff .undef (fun _=>s3),.av (i64 n18)]=some ((.tup [(i64 n18),.nili]),s3,[],[obC 63 [(.ptr d 0)] st (.tup []) s1,loadA E0 s1 51 (.ptr d 1)=some v12∧s1=s1,appendA E0 s1 51 9 v12 (str s)=some (v14,s2),storeA E0 s2 51 (.ptr d 1) v14=some s3,lenA E0 9 (str s)=some (i64 n18)]):=by kernel_rfl
theorem f35{st s1 s2 s3:St}{d:Nat}{s:ByteArray}{v12 v14:AV}{n18:Int}(h1:obC 63 [(.ptr d 0)] st (.tup []) s1)(h2:loadA E0 s1 51 (.ptr d 1)=some v12)(h3:appendA E0 s1 51 9 v12 (str s)=some (v14,s2))(h4:storeA E0 s2 51 (.ptr d 1) v14=some s3)(h5:lenA E0 9 (str s)=some (i64 n18)):obC 35 [(.ptr d 0),(str s)] st (.tup [(i64 n18),.nili]) s3:=ACalls.run hE noOv_ok (f35_e st s1 s2 s3 d s v12 v14 n18) (Ob.ok_cons.2 ⟨h1,(Ob.ok_cons.2 ⟨⟨h2,rfl⟩,(Ob.ok_cons.2 ⟨h3,(Ob.ok_cons.2 ⟨h4,(Ob.ok_cons.2 ⟨h5,Ob.ok_nil⟩)⟩)⟩)⟩)⟩)
theorem f36_e(st:St)(d:Nat)(v6:AV)(n7:Int):evCallS Tryz.prog E0 noOv (fun _=> [2006,7007]) 100000 36 [(.ptr d 0)] st [.eff v6 id,.av (i64 n7)]=some ((i64 n7),st,[],[loadA E0 st 51 (.ptr d 1)=some v6∧st=st,lenA E0 51 v6=some (i64 n7)]):=by kernel_rfl
theorem f36{st:St}{d:Nat}{v6:AV}{n7:Int}(h1:loadA E0 st 51 (.ptr d 1)=some v6)(h2:lenA E0 51 v6=some (i64 n7)):obC 36 [(.ptr d 0)] st (i64 n7) st:=ACalls.run hE noOv_ok (f36_e st d v6 n7) (Ob.ok_cons.2 ⟨⟨h1,rfl⟩,(Ob.ok_cons.2 ⟨h2,Ob.ok_nil⟩)⟩)
theorem f10_e(st s1:St)(s:ByteArray)(v6a:AV)(n6b n6c:Int):evCallS Tryz.prog E0 noOv (fun _=> [6023]) 100000 10 [(str s)] st [.eff (.tup [v6a,(i64 n6b),(i64 n6c)]) (fun _=>s1)]=some ((.tup [v6a,(i64 n6b),(i64 n6c)]),s1,[],[obC 23 [(str s),(.fn (.func 24) [] [])] st (.tup [v6a,(i64 n6b),(i64 n6c)]) s1]):=by kernel_rfl
theorem f10{st s1:St}{s:ByteArray}{v6a:AV}{n6b n6c:Int}(h1:obC 23 [(str s),(.fn (.func 24) [] [])] st (.tup [v6a,(i64 n6b),(i64 n6c)]) s1):obC 10 [(str s)] st (.tup [v6a,(i64 n6b),(i64 n6c)]) s1:=ACalls.run hE noOv_ok (f10_e st s1 s v6a n6b n6c) (Ob.ok_cons.2 ⟨h1,Ob.ok_nil⟩)
theorem f7_e(st s1:St)(x:AV)(w5a:ByteArray)(n5b:Int):evCallS Tryz.prog E0 noOv (fun _=> [6020]) 100000 7 [x] st [.eff (.tup [(str w5a),(i64 n5b)]) (fun _=>s1)]=some ((.tup [(str w5a),(i64 n5b)]),s1,[],[obC 20 [x,(.fn (.func 21) [] [])] st (.tup [(str w5a),(i64 n5b)]) s1]):=by kernel_rfl
theorem f7{st s1:St}{x:AV}{w5a:ByteArray}{n5b:Int}(h1:obC 20 [x,(.fn (.func 21) [] [])] st (.tup [(str w5a),(i64 n5b)]) s1):obC 7 [x] st (.tup [(str w5a),(i64 n5b)]) s1:=ACalls.run hE noOv_ok (f7_e st s1 x w5a n5b) (Ob.ok_cons.2 ⟨h1,Ob.ok_nil⟩)
theorem f14_e(st s1:St)(x:AV)(w5a:ByteArray)(n5b:Int):evCallS Tryz.prog E0 noOv (fun _=> [6029]) 100000 14 [x] st [.eff (.tup [(str w5a),(i64 n5b)]) (fun _=>s1)]=some ((.tup [(str w5a),(i64 n5b)]),s1,[],[obC 29 [x,(.fn (.func 30) [] [])] st (.tup [(str w5a),(i64 n5b)]) s1]):=by kernel_rfl
theorem f14{st s1:St}{x:AV}{w5a:ByteArray}{n5b:Int}(h1:obC 29 [x,(.fn (.func 30) [] [])] st (.tup [(str w5a),(i64 n5b)]) s1):obC 14 [x] st (.tup [(str w5a),(i64 n5b)]) s1:=ACalls.run hE noOv_ok (f14_e st s1 x w5a n5b) (Ob.ok_cons.2 ⟨h1,Ob.ok_nil⟩)
noncomputable def f23P(i:Nat):Code:=match Tryz.f23.body with
  |some (.seq x0 (.seq x1 (.seq x2 (.seq (.seq x3 (.block 0 (.rangeFunc _ _ x4 x5))) x6))))=> [x0,x1,x2,x3,x4,x5,x6].getD i .skip
  |_=> .skip
theorem f23body:Tryz.f23.body=some (.seq (f23P 0) (.seq (f23P 1) (.seq (f23P 2) (.seq (.seq (f23P 3) (.block 0 (.rangeFunc (.tmp 17) #[18] (f23P 4) (f23P 5)))) (f23P 6))))):=by kernel_rfl
def f23L0(T:Tm)(a0 a1:AV):Prop:=T.n=44∧T.get 0=a0∧T.get 1=a1
def f23L1(T:Tm)(a0 a3 a4 a5 a6:AV):Prop:=T.n=44∧T.get 0=a0∧T.get 3=a3∧T.get 4=a4∧T.get 5=a5∧T.get 6=a6
theorem f23_0_e(w0:ByteArray)(st s1 s2 s3 s4:St)(a3 a4 a5 a6:Nat):((evS Tryz.prog E0 noOv noS 100000 [2003,2004,2005,2006] (f23P 0) ⟨44,[(0,(str w0)),(1,(.fn (.func 24) [] []))],[]⟩ st [.eff (.ptr a3 0) (fun _=>s1),.eff (.ptr a4 0) (fun _=>s2),.eff (.ptr a5 0) (fun _=>s3),.eff (.ptr a6 0) (fun _=>s4)]).map fun q=>(q.1,q.2.1.n,([q.2.1.get 0,q.2.1.get 3,q.2.1.get 4,q.2.1.get 5,q.2.1.get 6]:List AV),q.2.2.1,q.2.2.2.2))=some (.normal,44,[(str w0),(.ptr a3 0),(.ptr a4 0),(.ptr a5 0),(.ptr a6 0)],s4,[boxA st 60 (.fn (.func 24) [] [])=some ((.ptr a3 0),s1),allocA E0 s1 22=some ((.ptr a4 0),s2),allocA E0 s2 3=some ((.ptr a5 0),s3),allocA E0 s3 23=some ((.ptr a6 0),s4)]):=by kernel_rfl
theorem f23_0{w0:ByteArray}{st s1 s2 s3 s4:St}{a3 a4 a5 a6:Nat}(h1:boxA st 60 (.fn (.func 24) [] [])=some ((.ptr a3 0),s1))(h2:allocA E0 s1 22=some ((.ptr a4 0),s2))(h3:allocA E0 s2 3=some ((.ptr a5 0),s3))(h4:allocA E0 s3 23=some ((.ptr a6 0),s4)){T:Tm}(hT:f23L0 T (str w0) (.fn (.func 24) [] [])):AW Tryz.prog (f23P 0) (fun ex T' st'=>ex= .normal∧f23L1 T' (str w0) (.ptr a3 0) (.ptr a4 0) (.ptr a5 0) (.ptr a6 0)∧st'=s4) T st:=by
  obtain ⟨hn,g0,g1⟩:=hT
  exact (gen_run (G:=fun T=>([T.get 0,T.get 3,T.get 4,T.get 5,T.get 6]:List AV)) hE (f23_0_e w0 st s1 s2 s3 s4 a3 a4 a5 a6) (Ob.ok_cons.2 ⟨h1,(Ob.ok_cons.2 ⟨h2,(Ob.ok_cons.2 ⟨h3,(Ob.ok_cons.2 ⟨h4,Ob.ok_nil⟩)⟩)⟩)⟩) hn (conz g0 (one g1))).mono fun ex T' st' ⟨q1,q2,q3,q4⟩=>by simp only [List.cons.injEq,and_true] at q3;exact ⟨q1,⟨q2,q3⟩,q4⟩
def f23L2(T:Tm)(a4 a5 a6:AV):Prop:=T.n=44∧T.get 4=a4∧T.get 5=a5∧T.get 6=a6
theorem f23_1_T_e(w0:ByteArray)(p3 p4 p5 p6:Nat)(st s1 s2 s3:St)(n14:Int):((evS Tryz.prog E0 noOv noS 100000 [5000,7014,7015] (f23P 1) ⟨44,[(0,(str w0)),(3,(.ptr p3 0)),(4,(.ptr p4 0)),(5,(.ptr p5 0)),(6,(.ptr p6 0))],[]⟩ st [.av (i64 n14),.av TT,.eff .undef (fun _=>s1),.eff .undef (fun _=>s2),.eff .undef (fun _=>s3)]).map fun q=>(q.1,q.2.1.n,([q.2.1.get 4,q.2.1.get 5,q.2.1.get 6]:List AV),q.2.2.1,q.2.2.2.2))=some (.ret,44,[(.ptr p4 0),(.ptr p5 0),(.ptr p6 0)],s3,[lenA E0 9 (str w0)=some (i64 n14),binA E0 .gtr 3 (i64 n14) (i64 65536)=some TT,storeA E0 st 22 (.ptr p4 0) .nils=some s1,storeA E0 s1 3 (.ptr p5 0) (i64 0)=some s2,storeA E0 s2 23 (.ptr p6 0) (i64 3)=some s3]):=by kernel_rfl
theorem f23_1_T{w0:ByteArray}{p3 p4 p5 p6:Nat}{st s1 s2 s3:St}{n14:Int}(h1:lenA E0 9 (str w0)=some (i64 n14))(h2:binA E0 .gtr 3 (i64 n14) (i64 65536)=some TT)(h3:storeA E0 st 22 (.ptr p4 0) .nils=some s1)(h4:storeA E0 s1 3 (.ptr p5 0) (i64 0)=some s2)(h5:storeA E0 s2 23 (.ptr p6 0) (i64 3)=some s3){T:Tm}(hT:f23L1 T (str w0) (.ptr p3 0) (.ptr p4 0) (.ptr p5 0) (.ptr p6 0)):AW Tryz.prog (f23P 1) (fun ex T' st'=>ex= .ret∧f23L2 T' (.ptr p4 0) (.ptr p5 0) (.ptr p6 0)∧st'=s3) T st:=by
  obtain ⟨hn,g0,g3,g4,g5,g6⟩:=hT
  exact (gen_run (G:=fun T=>([T.get 4,T.get 5,T.get 6]:List AV)) hE (f23_1_T_e w0 p3 p4 p5 p6 st s1 s2 s3 n14) (Ob.ok_cons.2 ⟨h1,(Ob.ok_cons.2 ⟨h2,(Ob.ok_cons.2 ⟨h3,(Ob.ok_cons.2 ⟨h4,(Ob.ok_cons.2 ⟨h5,Ob.ok_nil⟩)⟩)⟩)⟩)⟩) hn (conz g0 (conz g3 (conz g4 (conz g5 (one g6)))))).mono fun ex T' st' ⟨q1,q2,q3,q4⟩=>by simp only [List.cons.injEq,and_true] at q3;exact ⟨q1,⟨q2,q3⟩,q4⟩
theorem f23_1_F_e(w0:ByteArray)(p3 p4 p5 p6:Nat)(st:St)(n14:Int):((evS Tryz.prog E0 noOv noS 100000 [5000,7014,7015] (f23P 1) ⟨44,[(0,(str w0)),(3,(.ptr p3 0)),(4,(.ptr p4 0)),(5,(.ptr p5 0)),(6,(.ptr p6 0))],[]⟩ st [.av (i64 n14),.av FF]).map fun q=>(q.1,q.2.1.n,([q.2.1.get 0,q.2.1.get 3,q.2.1.get 4,q.2.1.get 5,q.2.1.get 6]:List AV),q.2.2.1,q.2.2.2.2))=some (.normal,44,[(str w0),(.ptr p3 0),(.ptr p4 0),(.ptr p5 0),(.ptr p6 0)],st,[lenA E0 9 (str w0)=some (i64 n14),binA E0 .gtr 3 (i64 n14) (i64 65536)=some FF]):=by kernel_rfl
theorem f23_1_F{w0:ByteArray}{p3 p4 p5 p6:Nat}{st:St}{n14:Int}(h1:lenA E0 9 (str w0)=some (i64 n14))(h2:binA E0 .gtr 3 (i64 n14) (i64 65536)=some FF){T:Tm}(hT:f23L1 T (str w0) (.ptr p3 0) (.ptr p4 0) (.ptr p5 0) (.ptr p6 0)):AW Tryz.prog (f23P 1) (fun ex T' st'=>ex= .normal∧f23L1 T' (str w0) (.ptr p3 0) (.ptr p4 0) (.ptr p5 0) (.ptr p6 0)∧st'=st) T st:=by
  obtain ⟨hn,g0,g3,g4,g5,g6⟩:=hT
  exact (gen_run (G:=fun T=>([T.get 0,T.get 3,T.get 4,T.get 5,T.get 6]:List AV)) hE (f23_1_F_e w0 p3 p4 p5 p6 st n14) (Ob.ok_cons.2 ⟨h1,(Ob.ok_cons.2 ⟨h2,Ob.ok_nil⟩)⟩) hn (conz g0 (conz g3 (conz g4 (conz g5 (one g6)))))).mono fun ex T' st' ⟨q1,q2,q3,q4⟩=>by simp only [List.cons.injEq,and_true] at q3;exact ⟨q1,⟨q2,q3⟩,q4⟩
def f23L3(T:Tm)(a0 a3 a4 a5 a6 a7:AV):Prop:=T.n=44∧T.get 0=a0∧T.get 3=a3∧T.get 4=a4∧T.get 5=a5∧T.get 6=a6∧T.get 7=a7
theorem f23_2_e(w0:ByteArray)(p3 p4 p5 p6 a7:Nat)(st s1:St):((evS Tryz.prog E0 noOv noS 100000 [2007] (f23P 2) ⟨44,[(0,(str w0)),(3,(.ptr p3 0)),(4,(.ptr p4 0)),(5,(.ptr p5 0)),(6,(.ptr p6 0))],[]⟩ st [.eff (.ptr a7 0) (fun _=>s1)]).map fun q=>(q.1,q.2.1.n,([q.2.1.get 0,q.2.1.get 3,q.2.1.get 4,q.2.1.get 5,q.2.1.get 6,q.2.1.get 7]:List AV),q.2.2.1,q.2.2.2.2))=some (.normal,44,[(str w0),(.ptr p3 0),(.ptr p4 0),(.ptr p5 0),(.ptr p6 0),(.ptr a7 0)],s1,[allocA E0 st 22=some ((.ptr a7 0),s1)]):=by kernel_rfl
theorem f23_2{w0:ByteArray}{p3 p4 p5 p6 a7:Nat}{st s1:St}(h1:allocA E0 st 22=some ((.ptr a7 0),s1)){T:Tm}(hT:f23L1 T (str w0) (.ptr p3 0) (.ptr p4 0) (.ptr p5 0) (.ptr p6 0)):AW Tryz.prog (f23P 2) (fun ex T' st'=>ex= .normal∧f23L3 T' (str w0) (.ptr p3 0) (.ptr p4 0) (.ptr p5 0) (.ptr p6 0) (.ptr a7 0)∧st'=s1) T st:=by
  obtain ⟨hn,g0,g3,g4,g5,g6⟩:=hT
  exact (gen_run (G:=fun T=>([T.get 0,T.get 3,T.get 4,T.get 5,T.get 6,T.get 7]:List AV)) hE (f23_2_e w0 p3 p4 p5 p6 a7 st s1) (Ob.ok_cons.2 ⟨h1,Ob.ok_nil⟩) hn (conz g0 (conz g3 (conz g4 (conz g5 (one g6)))))).mono fun ex T' st' ⟨q1,q2,q3,q4⟩=>by simp only [List.cons.injEq,and_true] at q3;exact ⟨q1,⟨q2,q3⟩,q4⟩
def f23L4(T:Tm)(a3 a4 a5 a6 a7 a17:AV):Prop:=T.n=44∧T.get 3=a3∧T.get 4=a4∧T.get 5=a5∧T.get 6=a6∧T.get 7=a7∧T.get 17=a17
theorem f23_3_e(w0:ByteArray)(p3 p4 p5 p6 p7 p:Nat)(st s1:St):((evS Tryz.prog E0 noOv noS 100000 [6044] (f23P 3) ⟨44,[(0,(str w0)),(3,(.ptr p3 0)),(4,(.ptr p4 0)),(5,(.ptr p5 0)),(6,(.ptr p6 0)),(7,(.ptr p7 0))],[]⟩ st [.eff (.fn (.func 67) [] [(.ptr p 0)]) (fun _=>s1)]).map fun q=>(q.1,q.2.1.n,([q.2.1.get 3,q.2.1.get 4,q.2.1.get 5,q.2.1.get 6,q.2.1.get 7,q.2.1.get 17]:List AV),q.2.2.1,q.2.2.2.2))=some (.normal,44,[(.ptr p3 0),(.ptr p4 0),(.ptr p5 0),(.ptr p6 0),(.ptr p7 0),(.fn (.func 67) [] [(.ptr p 0)])],s1,[obC 44 [(str w0)] st (.fn (.func 67) [] [(.ptr p 0)]) s1]):=by kernel_rfl
theorem f23_3{w0:ByteArray}{p3 p4 p5 p6 p7 p:Nat}{st s1:St}(h1:obC 44 [(str w0)] st (.fn (.func 67) [] [(.ptr p 0)]) s1){T:Tm}(hT:f23L3 T (str w0) (.ptr p3 0) (.ptr p4 0) (.ptr p5 0) (.ptr p6 0) (.ptr p7 0)):AW Tryz.prog (f23P 3) (fun ex T' st'=>ex= .normal∧f23L4 T' (.ptr p3 0) (.ptr p4 0) (.ptr p5 0) (.ptr p6 0) (.ptr p7 0) (.fn (.func 67) [] [(.ptr p 0)])∧st'=s1) T st:=by
  obtain ⟨hn,g0,g3,g4,g5,g6,g7⟩:=hT
  exact (gen_run (G:=fun T=>([T.get 3,T.get 4,T.get 5,T.get 6,T.get 7,T.get 17]:List AV)) hE (f23_3_e w0 p3 p4 p5 p6 p7 p st s1) (Ob.ok_cons.2 ⟨h1,Ob.ok_nil⟩) hn (conz g0 (conz g3 (conz g4 (conz g5 (conz g6 (one g7))))))).mono fun ex T' st' ⟨q1,q2,q3,q4⟩=>by simp only [List.cons.injEq,and_true] at q3;exact ⟨q1,⟨q2,q3⟩,q4⟩
def f23L5(T:Tm)(a3 a4 a5 a6 a7 a18:AV):Prop:=T.n=44∧T.get 3=a3∧T.get 4=a4∧T.get 5=a5∧T.get 6=a6∧T.get 7=a7∧T.get 18=a18
def f23L6(T:Tm)(a3 a4 a5 a6 a7 a8:AV):Prop:=T.n=44∧T.get 3=a3∧T.get 4=a4∧T.get 5=a5∧T.get 6=a6∧T.get 7=a7∧T.get 8=a8
theorem f23_4_e(p3 p4 p5 p6 p7:Nat)(ln:ByteArray)(st:St):((evR Tryz.prog E0 noOv noS 100000 [] (f23P 4) ⟨44,[(3,(.ptr p3 0)),(4,(.ptr p4 0)),(5,(.ptr p5 0)),(6,(.ptr p6 0)),(7,(.ptr p7 0)),(18,(str ln))],[]⟩ st []).map fun q=>(q.1,q.2.1.n,([q.2.1.get 3,q.2.1.get 4,q.2.1.get 5,q.2.1.get 6,q.2.1.get 7,q.2.1.get 8]:List AV),q.2.2.1,q.2.2.2.2))=some (.normal,44,[(.ptr p3 0),(.ptr p4 0),(.ptr p5 0),(.ptr p6 0),(.ptr p7 0),(str ln)],st,[]):=by kernel_rfl
theorem f23_4{p3 p4 p5 p6 p7:Nat}{ln:ByteArray}{st:St}{T:Tm}{ro:Option Nat}(hT:f23L5 T (.ptr p3 0) (.ptr p4 0) (.ptr p5 0) (.ptr p6 0) (.ptr p7 0) (str ln)):AWR ro Tryz.prog (f23P 4) (fun ex T' st'=>ex= .normal∧f23L6 T' (.ptr p3 0) (.ptr p4 0) (.ptr p5 0) (.ptr p6 0) (.ptr p7 0) (str ln)∧st'=st) T st:=by
  obtain ⟨hn,g3,g4,g5,g6,g7,g18⟩:=hT
  exact (gen_runR (G:=fun T=>([T.get 3,T.get 4,T.get 5,T.get 6,T.get 7,T.get 8]:List AV)) hE (f23_4_e p3 p4 p5 p6 p7 ln st) Ob.ok_nil hn (conz g3 (conz g4 (conz g5 (conz g6 (conz g7 (one g18))))))).mono fun ex T' st' ⟨q1,q2,q3,q4⟩=>by simp only [List.cons.injEq,and_true] at q3;exact ⟨q1,⟨q2,q3⟩,q4⟩
def f23L7(T:Tm):Prop:=T.n=44
theorem f23_5_TT_e(p3 p4 p5 p6 p7 a11:Nat)(ln w21a:ByteArray)(st s1 s2 s3 s4 s5 s6 s7:St)(v27a v39 v40 v41 v42:AV):((evR Tryz.prog E0 noOv noS 100000 [2011,2025,2039,2040,2041,2042,5000,6024,6045,7037,7038,8000] (f23P 5) ⟨44,[(3,(.ptr p3 0)),(4,(.ptr p4 0)),(5,(.ptr p5 0)),(6,(.ptr p6 0)),(7,(.ptr p7 0)),(8,(str ln))],[]⟩ st [.eff (.tup [(str w21a),TT]) (fun _=>s1),.eff (.fn (.func 24) [] []) id,.eff (.tup [v27a,TT]) (fun _=>s2),.eff (.ptr a11 0) (fun _=>s3),.eff .undef (fun _=>s4),.eff v39 id,.eff v40 id,.eff v41 (fun _=>s5),.eff v42 (fun _=>s6),.eff .undef (fun _=>s7)]).map fun q=>(q.1,q.2.1.n,([]:List AV),q.2.2.1,q.2.2.2.2))=some (.normal,44,[],s7,[obC 45 [(str ln),(str ⟨#[10]⟩)] st (.tup [(str w21a),TT]) s1,loadA E0 s1 60 (.ptr p3 0)=some (.fn (.func 24) [] [])∧s1=s1,obC 24 [(str w21a)] s1 (.tup [v27a,TT]) s2,allocA E0 s2 54=some ((.ptr a11 0),s3),storeA E0 s3 54 (.ptr a11 0) v27a=some s4,loadA E0 s4 22 (.ptr p7 0)=some v39∧s4=s4,loadA E0 s4 54 (.ptr a11 0)=some v40∧s4=s4,buildSliceA E0 s4 22 1 [(0,v40)]=some (v41,s5),appendA E0 s5 22 22 v39 v41=some (v42,s6),storeA E0 s6 22 (.ptr p7 0) v42=some s7]):=by kernel_rfl
theorem f23_5_TT{p3 p4 p5 p6 p7 a11:Nat}{ln w21a:ByteArray}{st s1 s2 s3 s4 s5 s6 s7:St}{v27a v39 v40 v41 v42:AV}(h1:obC 45 [(str ln),(str ⟨#[10]⟩)] st (.tup [(str w21a),TT]) s1)(h2:loadA E0 s1 60 (.ptr p3 0)=some (.fn (.func 24) [] []))(h3:obC 24 [(str w21a)] s1 (.tup [v27a,TT]) s2)(h4:allocA E0 s2 54=some ((.ptr a11 0),s3))(h5:storeA E0 s3 54 (.ptr a11 0) v27a=some s4)(h6:loadA E0 s4 22 (.ptr p7 0)=some v39)(h7:loadA E0 s4 54 (.ptr a11 0)=some v40)(h8:buildSliceA E0 s4 22 1 [(0,v40)]=some (v41,s5))(h9:appendA E0 s5 22 22 v39 v41=some (v42,s6))(h10:storeA E0 s6 22 (.ptr p7 0) v42=some s7){T:Tm}{ro:Option Nat}(hT:f23L6 T (.ptr p3 0) (.ptr p4 0) (.ptr p5 0) (.ptr p6 0) (.ptr p7 0) (str ln)):AWR ro Tryz.prog (f23P 5) (fun ex T' st'=>ex= .normal∧f23L7 T'∧st'=s7) T st:=by
  obtain ⟨hn,g3,g4,g5,g6,g7,g8⟩:=hT
  exact (gen_runR (G:=fun T=>([]:List AV)) hE (f23_5_TT_e p3 p4 p5 p6 p7 a11 ln w21a st s1 s2 s3 s4 s5 s6 s7 v27a v39 v40 v41 v42) (Ob.ok_cons.2 ⟨h1,(Ob.ok_cons.2 ⟨⟨h2,rfl⟩,(Ob.ok_cons.2 ⟨h3,(Ob.ok_cons.2 ⟨h4,(Ob.ok_cons.2 ⟨h5,(Ob.ok_cons.2 ⟨⟨h6,rfl⟩,(Ob.ok_cons.2 ⟨⟨h7,rfl⟩,(Ob.ok_cons.2 ⟨h8,(Ob.ok_cons.2 ⟨h9,(Ob.ok_cons.2 ⟨h10,Ob.ok_nil⟩)⟩)⟩)⟩)⟩)⟩)⟩)⟩)⟩)⟩) hn (conz g3 (conz g4 (conz g5 (conz g6 (conz g7 (one g8))))))).mono fun ex T' st' ⟨q1,q2,q3,q4⟩=>by exact ⟨q1,q2,q4⟩
theorem f23_5_TF_e(p3 p4 p5 p6 p7 a11:Nat)(ln w21a:ByteArray)(st s1 s2 s3 s4 s5 s6 s7:St)(v27a v36:AV)(n37 n38:Int):((evR Tryz.prog E0 noOv noS 100000 [2011,2025,2039,2040,2041,2042,5000,6024,6045,7037,7038,8000] (f23P 5) ⟨44,[(3,(.ptr p3 0)),(4,(.ptr p4 0)),(5,(.ptr p5 0)),(6,(.ptr p6 0)),(7,(.ptr p7 0)),(8,(str ln))],[]⟩ st [.eff (.tup [(str w21a),TT]) (fun _=>s1),.eff (.fn (.func 24) [] []) id,.eff (.tup [v27a,FF]) (fun _=>s2),.eff (.ptr a11 0) (fun _=>s3),.eff .undef (fun _=>s4),.eff v36 id,.eff (i64 n37) id,.eff (i64 n38) id,.eff (.tup []) (fun _=>s5),.eff (.tup []) (fun _=>s6),.eff (.tup []) (fun _=>s7)]).map fun q=>(q.1,q.2.1.n,([]:List AV),q.2.2.1,q.2.2.2.2))=some (.ret,44,[],s7,[obC 45 [(str ln),(str ⟨#[10]⟩)] st (.tup [(str w21a),TT]) s1,loadA E0 s1 60 (.ptr p3 0)=some (.fn (.func 24) [] [])∧s1=s1,obC 24 [(str w21a)] s1 (.tup [v27a,FF]) s2,allocA E0 s2 54=some ((.ptr a11 0),s3),storeA E0 s3 54 (.ptr a11 0) v27a=some s4,∀k∈ [p7],k<s4.next,[p7].contains p7=true∧loadA E0 s4 22 (.ptr p7 0)=some v36,lenA E0 22 v36=some (i64 n37),binA E0 .add 3 (i64 n37) (i64 1)=some (i64 n38),(true=true→ [p7].all (fun k=>(s4.get k).isSome)=true),storeA E0 (s4.hide [p7]) 22 (.ptr p4 0) .nils=some s5,(false=true→ [p7].all (fun k=>((s5.show s4 [p7]).get k).isSome)=true),storeA E0 (s5.show s4 [p7]) 3 (.ptr p5 0) (i64 n38)=some s6,(false=true→ [p7].all (fun k=>(s6.get k).isSome)=true),storeA E0 s6 23 (.ptr p6 0) (i64 5)=some s7]):=by kernel_rfl
theorem f23_5_TF{p3 p4 p5 p6 p7 a11:Nat}{ln w21a:ByteArray}{st s1 s2 s3 s4 s5 s6 s7:St}{v27a v36:AV}{n37 n38:Int}(h1:obC 45 [(str ln),(str ⟨#[10]⟩)] st (.tup [(str w21a),TT]) s1)(h2:loadA E0 s1 60 (.ptr p3 0)=some (.fn (.func 24) [] []))(h3:obC 24 [(str w21a)] s1 (.tup [v27a,FF]) s2)(h4:allocA E0 s2 54=some ((.ptr a11 0),s3))(h5:storeA E0 s3 54 (.ptr a11 0) v27a=some s4)(h6:∀k∈ [p7],k<s4.next)(h7:loadA E0 s4 22 (.ptr p7 0)=some v36)(h8:lenA E0 22 v36=some (i64 n37))(h9:binA E0 .add 3 (i64 n37) (i64 1)=some (i64 n38))(h10: [p7].all (fun k=>(s4.get k).isSome)=true)(h11:storeA E0 (s4.hide [p7]) 22 (.ptr p4 0) .nils=some s5)(h12:storeA E0 (s5.show s4 [p7]) 3 (.ptr p5 0) (i64 n38)=some s6)(h13:storeA E0 s6 23 (.ptr p6 0) (i64 5)=some s7){T:Tm}{ro:Option Nat}(hT:f23L6 T (.ptr p3 0) (.ptr p4 0) (.ptr p5 0) (.ptr p6 0) (.ptr p7 0) (str ln)):AWR ro Tryz.prog (f23P 5) (fun ex T' st'=>ex= .ret∧f23L7 T'∧st'=s7) T st:=by
  obtain ⟨hn,g3,g4,g5,g6,g7,g8⟩:=hT
  exact (gen_runR (G:=fun T=>([]:List AV)) hE (f23_5_TF_e p3 p4 p5 p6 p7 a11 ln w21a st s1 s2 s3 s4 s5 s6 s7 v27a v36 n37 n38) (Ob.ok_cons.2 ⟨h1,(Ob.ok_cons.2 ⟨⟨h2,rfl⟩,(Ob.ok_cons.2 ⟨h3,(Ob.ok_cons.2 ⟨h4,(Ob.ok_cons.2 ⟨h5,(Ob.ok_cons.2 ⟨h6,(Ob.ok_cons.2 ⟨⟨by simp,h7⟩,(Ob.ok_cons.2 ⟨h8,(Ob.ok_cons.2 ⟨h9,(Ob.ok_cons.2 ⟨(fun _=>h10),(Ob.ok_cons.2 ⟨h11,(Ob.ok_cons.2 ⟨(fun h=>by cases h),(Ob.ok_cons.2 ⟨h12,(Ob.ok_cons.2 ⟨(fun h=>by cases h),(Ob.ok_cons.2 ⟨h13,Ob.ok_nil⟩)⟩)⟩)⟩)⟩)⟩)⟩)⟩)⟩)⟩)⟩)⟩)⟩)⟩)⟩) hn (conz g3 (conz g4 (conz g5 (conz g6 (conz g7 (one g8))))))).mono fun ex T' st' ⟨q1,q2,q3,q4⟩=>by exact ⟨q1,q2,q4⟩
theorem f23_5_F_e(p3 p4 p5 p6 p7 a11:Nat)(ln w21a:ByteArray)(st s1 s2 s3 s4 s5 s6 s7:St)(v27a v36:AV)(b27b:Bool)(n37 n38:Int):((evR Tryz.prog E0 noOv noS 100000 [2011,2025,2039,2040,2041,2042,5000,6024,6045,7037,7038,8000] (f23P 5) ⟨44,[(3,(.ptr p3 0)),(4,(.ptr p4 0)),(5,(.ptr p5 0)),(6,(.ptr p6 0)),(7,(.ptr p7 0)),(8,(str ln))],[]⟩ st [.eff (.tup [(str w21a),FF]) (fun _=>s1),.eff (.fn (.func 24) [] []) id,.eff (.tup [v27a,(bo b27b)]) (fun _=>s2),.eff (.ptr a11 0) (fun _=>s3),.eff .undef (fun _=>s4),.eff v36 id,.eff (i64 n37) id,.eff (i64 n38) id,.eff (.tup []) (fun _=>s5),.eff (.tup []) (fun _=>s6),.eff (.tup []) (fun _=>s7)]).map fun q=>(q.1,q.2.1.n,([]:List AV),q.2.2.1,q.2.2.2.2))=some (.ret,44,[],s7,[obC 45 [(str ln),(str ⟨#[10]⟩)] st (.tup [(str w21a),FF]) s1,loadA E0 s1 60 (.ptr p3 0)=some (.fn (.func 24) [] [])∧s1=s1,obC 24 [(str w21a)] s1 (.tup [v27a,(bo b27b)]) s2,allocA E0 s2 54=some ((.ptr a11 0),s3),storeA E0 s3 54 (.ptr a11 0) v27a=some s4,∀k∈ [p7],k<s4.next,[p7].contains p7=true∧loadA E0 s4 22 (.ptr p7 0)=some v36,lenA E0 22 v36=some (i64 n37),binA E0 .add 3 (i64 n37) (i64 1)=some (i64 n38),(true=true→ [p7].all (fun k=>(s4.get k).isSome)=true),storeA E0 (s4.hide [p7]) 22 (.ptr p4 0) .nils=some s5,(false=true→ [p7].all (fun k=>((s5.show s4 [p7]).get k).isSome)=true),storeA E0 (s5.show s4 [p7]) 3 (.ptr p5 0) (i64 n38)=some s6,(false=true→ [p7].all (fun k=>(s6.get k).isSome)=true),storeA E0 s6 23 (.ptr p6 0) (i64 5)=some s7]):=by kernel_rfl
theorem f23_5_F{p3 p4 p5 p6 p7 a11:Nat}{ln w21a:ByteArray}{st s1 s2 s3 s4 s5 s6 s7:St}{v27a v36:AV}{b27b:Bool}{n37 n38:Int}(h1:obC 45 [(str ln),(str ⟨#[10]⟩)] st (.tup [(str w21a),FF]) s1)(h2:loadA E0 s1 60 (.ptr p3 0)=some (.fn (.func 24) [] []))(h3:obC 24 [(str w21a)] s1 (.tup [v27a,(bo b27b)]) s2)(h4:allocA E0 s2 54=some ((.ptr a11 0),s3))(h5:storeA E0 s3 54 (.ptr a11 0) v27a=some s4)(h6:∀k∈ [p7],k<s4.next)(h7:loadA E0 s4 22 (.ptr p7 0)=some v36)(h8:lenA E0 22 v36=some (i64 n37))(h9:binA E0 .add 3 (i64 n37) (i64 1)=some (i64 n38))(h10: [p7].all (fun k=>(s4.get k).isSome)=true)(h11:storeA E0 (s4.hide [p7]) 22 (.ptr p4 0) .nils=some s5)(h12:storeA E0 (s5.show s4 [p7]) 3 (.ptr p5 0) (i64 n38)=some s6)(h13:storeA E0 s6 23 (.ptr p6 0) (i64 5)=some s7){T:Tm}{ro:Option Nat}(hT:f23L6 T (.ptr p3 0) (.ptr p4 0) (.ptr p5 0) (.ptr p6 0) (.ptr p7 0) (str ln)):AWR ro Tryz.prog (f23P 5) (fun ex T' st'=>ex= .ret∧f23L7 T'∧st'=s7) T st:=by
  obtain ⟨hn,g3,g4,g5,g6,g7,g8⟩:=hT
  exact (gen_runR (G:=fun T=>([]:List AV)) hE (f23_5_F_e p3 p4 p5 p6 p7 a11 ln w21a st s1 s2 s3 s4 s5 s6 s7 v27a v36 b27b n37 n38) (Ob.ok_cons.2 ⟨h1,(Ob.ok_cons.2 ⟨⟨h2,rfl⟩,(Ob.ok_cons.2 ⟨h3,(Ob.ok_cons.2 ⟨h4,(Ob.ok_cons.2 ⟨h5,(Ob.ok_cons.2 ⟨h6,(Ob.ok_cons.2 ⟨⟨by simp,h7⟩,(Ob.ok_cons.2 ⟨h8,(Ob.ok_cons.2 ⟨h9,(Ob.ok_cons.2 ⟨(fun _=>h10),(Ob.ok_cons.2 ⟨h11,(Ob.ok_cons.2 ⟨(fun h=>by cases h),(Ob.ok_cons.2 ⟨h12,(Ob.ok_cons.2 ⟨(fun h=>by cases h),(Ob.ok_cons.2 ⟨h13,Ob.ok_nil⟩)⟩)⟩)⟩)⟩)⟩)⟩)⟩)⟩)⟩)⟩)⟩)⟩)⟩)⟩) hn (conz g3 (conz g4 (conz g5 (conz g6 (conz g7 (one g8))))))).mono fun ex T' st' ⟨q1,q2,q3,q4⟩=>by exact ⟨q1,q2,q4⟩
def f23L8(T:Tm)(a4 a5 a6 a7:AV):Prop:=T.n=44∧T.get 4=a4∧T.get 5=a5∧T.get 6=a6∧T.get 7=a7
theorem f23_6_e(p4 p5 p6 p7:Nat)(st s1 s2 s3:St)(v43:AV):((evG Tryz.prog E0 noOv noS 100000 [2043,5000] (f23P 6) ⟨44,[(4,(.ptr p4 0)),(5,(.ptr p5 0)),(6,(.ptr p6 0)),(7,(.ptr p7 0))],[]⟩ st [.eff v43 id,.eff .undef (fun _=>s1),.eff .undef (fun _=>s2),.eff .undef (fun _=>s3)]).map fun q=>(q.1,q.2.1.n,([q.2.1.get 4,q.2.1.get 5,q.2.1.get 6]:List AV),q.2.2.1,q.2.2.2.2))=some (.ret,44,[(.ptr p4 0),(.ptr p5 0),(.ptr p6 0)],s3,[loadA E0 st 22 (.ptr p7 0)=some v43∧st=st,storeA E0 st 22 (.ptr p4 0) v43=some s1,storeA E0 s1 3 (.ptr p5 0) (i64 0)=some s2,storeA E0 s2 23 (.ptr p6 0) (i64 0)=some s3]):=by kernel_rfl
theorem f23_6{p4 p5 p6 p7:Nat}{st s1 s2 s3:St}{v43:AV}(h1:loadA E0 st 22 (.ptr p7 0)=some v43)(h2:storeA E0 st 22 (.ptr p4 0) v43=some s1)(h3:storeA E0 s1 3 (.ptr p5 0) (i64 0)=some s2)(h4:storeA E0 s2 23 (.ptr p6 0) (i64 0)=some s3){T:Tm}{ro:Option Nat}(hT:f23L8 T (.ptr p4 0) (.ptr p5 0) (.ptr p6 0) (.ptr p7 0)):AWG ro Tryz.prog (f23P 6) (fun ex T' st'=>ex= .ret∧f23L2 T' (.ptr p4 0) (.ptr p5 0) (.ptr p6 0)∧st'=s3) T st:=by
  obtain ⟨hn,g4,g5,g6,g7⟩:=hT
  exact (gen_runG (G:=fun T=>([T.get 4,T.get 5,T.get 6]:List AV)) hE (f23_6_e p4 p5 p6 p7 st s1 s2 s3 v43) (Ob.ok_cons.2 ⟨⟨h1,rfl⟩,(Ob.ok_cons.2 ⟨h2,(Ob.ok_cons.2 ⟨h3,(Ob.ok_cons.2 ⟨h4,Ob.ok_nil⟩)⟩)⟩)⟩) hn (conz g4 (conz g5 (conz g6 (one g7))))).mono fun ex T' st' ⟨q1,q2,q3,q4⟩=>by simp only [List.cons.injEq,and_true] at q3;exact ⟨q1,⟨q2,q3⟩,q4⟩
noncomputable def f67P(i:Nat):Code:=match Tryz.f67.body with
  |some (.block 0 (.loop (.seq x0 (.block 1 (.seq x1 (.seq x2 (.seq x3 x4)))))))=> [x0,x1,x2,x3,x4].getD i .skip
  |_=> .skip
theorem f67body:Tryz.f67.body=some (.block 0 (.loop (.seq (f67P 0) (.block 1 (.seq (f67P 1) (.seq (f67P 2) (.seq (f67P 3) (f67P 4)))))))):=by kernel_rfl
def f67L0(T:Tm)(a0 a1:AV):Prop:=T.n=25∧T.get 0=a0∧T.get 1=a1
theorem f67_0_T_e(yf:AV)(p:Nat)(st:St)(w5:ByteArray)(n6:Int):((evS Tryz.prog E0 noOv noS 100000 [2005,7006,7007] (f67P 0) ⟨25,[(0,yf),(1,(.ptr p 0))],[]⟩ st [.eff (str w5) id,.av (i64 n6),.av TT]).map fun q=>(q.1,q.2.1.n,([q.2.1.get 0,q.2.1.get 1]:List AV),q.2.2.1,q.2.2.2.2))=some (.normal,25,[yf,(.ptr p 0)],st,[loadA E0 st 9 (.ptr p 0)=some (str w5)∧st=st,lenA E0 9 (str w5)=some (i64 n6),binA E0 .gtr 3 (i64 n6) (i64 0)=some TT]):=by kernel_rfl
theorem f67_0_T{yf:AV}{p:Nat}{st:St}{w5:ByteArray}{n6:Int}(h1:loadA E0 st 9 (.ptr p 0)=some (str w5))(h2:lenA E0 9 (str w5)=some (i64 n6))(h3:binA E0 .gtr 3 (i64 n6) (i64 0)=some TT){T:Tm}(hT:f67L0 T yf (.ptr p 0)):AW Tryz.prog (f67P 0) (fun ex T' st'=>ex= .normal∧f67L0 T' yf (.ptr p 0)∧st'=st) T st:=by
  obtain ⟨hn,g0,g1⟩:=hT
  exact (gen_run (G:=fun T=>([T.get 0,T.get 1]:List AV)) hE (f67_0_T_e yf p st w5 n6) (Ob.ok_cons.2 ⟨⟨h1,rfl⟩,(Ob.ok_cons.2 ⟨h2,(Ob.ok_cons.2 ⟨h3,Ob.ok_nil⟩)⟩)⟩) hn (conz g0 (one g1))).mono fun ex T' st' ⟨q1,q2,q3,q4⟩=>by simp only [List.cons.injEq,and_true] at q3;exact ⟨q1,⟨q2,q3⟩,q4⟩
def f67L1(T:Tm):Prop:=T.n=25
theorem f67_0_F_e(yf:AV)(p:Nat)(st:St)(w5:ByteArray)(n6:Int):((evS Tryz.prog E0 noOv noS 100000 [2005,7006,7007] (f67P 0) ⟨25,[(0,yf),(1,(.ptr p 0))],[]⟩ st [.eff (str w5) id,.av (i64 n6),.av FF]).map fun q=>(q.1,q.2.1.n,([]:List AV),q.2.2.1,q.2.2.2.2))=some ((.exit 0),25,[],st,[loadA E0 st 9 (.ptr p 0)=some (str w5)∧st=st,lenA E0 9 (str w5)=some (i64 n6),binA E0 .gtr 3 (i64 n6) (i64 0)=some FF]):=by kernel_rfl
theorem f67_0_F{yf:AV}{p:Nat}{st:St}{w5:ByteArray}{n6:Int}(h1:loadA E0 st 9 (.ptr p 0)=some (str w5))(h2:lenA E0 9 (str w5)=some (i64 n6))(h3:binA E0 .gtr 3 (i64 n6) (i64 0)=some FF){T:Tm}(hT:f67L0 T yf (.ptr p 0)):AW Tryz.prog (f67P 0) (fun ex T' st'=>ex=(.exit 0)∧f67L1 T'∧st'=st) T st:=by
  obtain ⟨hn,g0,g1⟩:=hT
  exact (gen_run (G:=fun T=>([]:List AV)) hE (f67_0_F_e yf p st w5 n6) (Ob.ok_cons.2 ⟨⟨h1,rfl⟩,(Ob.ok_cons.2 ⟨h2,(Ob.ok_cons.2 ⟨h3,Ob.ok_nil⟩)⟩)⟩) hn (conz g0 (one g1))).mono fun ex T' st' ⟨q1,q2,q3,q4⟩=>by exact ⟨q1,q2,q4⟩
theorem f67_1_e(yf:AV)(p:Nat)(st:St):((evS Tryz.prog E0 noOv noS 100000 [] (f67P 1) ⟨25,[(0,yf),(1,(.ptr p 0))],[]⟩ st []).map fun q=>(q.1,q.2.1.n,([q.2.1.get 0,q.2.1.get 1]:List AV),q.2.2.1,q.2.2.2.2))=some (.normal,25,[yf,(.ptr p 0)],st,[]):=by kernel_rfl
theorem f67_1{yf:AV}{p:Nat}{st:St}{T:Tm}(hT:f67L0 T yf (.ptr p 0)):AW Tryz.prog (f67P 1) (fun ex T' st'=>ex= .normal∧f67L0 T' yf (.ptr p 0)∧st'=st) T st:=by
  obtain ⟨hn,g0,g1⟩:=hT
  exact (gen_run (G:=fun T=>([T.get 0,T.get 1]:List AV)) hE (f67_1_e yf p st) Ob.ok_nil hn (conz g0 (one g1))).mono fun ex T' st' ⟨q1,q2,q3,q4⟩=>by simp only [List.cons.injEq,and_true] at q3;exact ⟨q1,⟨q2,q3⟩,q4⟩
def f67L2(T:Tm)(a0 a1 a3:AV):Prop:=T.n=25∧T.get 0=a0∧T.get 1=a1∧T.get 3=a3
theorem f67_2_T_e(yf:AV)(p:Nat)(st s1 s2:St)(w8 w12 w15 w16 w19:ByteArray)(n9 n14 n18:Int):((evS Tryz.prog E0 noOv noS 100000 [2008,2020,5000,6059,7011,7014,7015,7018,7019,8000] (f67P 2) ⟨25,[(0,yf),(1,(.ptr p 0))],[]⟩ st [.eff (str w8) id,.eff (i64 n9) (fun _=>s1),.av TT,.eff (str w12) id,.eff (i64 n14) id,.eff (str w15) id,.eff (str w16) id,.eff (i64 n18) id,.eff (str w19) id,.eff (.tup []) (fun _=>s2)]).map fun q=>(q.1,q.2.1.n,([q.2.1.get 0,q.2.1.get 1,q.2.1.get 3]:List AV),q.2.2.1,q.2.2.2.2))=some (.normal,25,[yf,(.ptr p 0),(str w15)],s2,[loadA E0 st 9 (.ptr p 0)=some (str w8)∧st=st,obC 59 [(str w8),(u8 10)] st (i64 n9) s1,binA E0 .geq 3 (i64 n9) (i64 0)=some TT,∀k∈ [p,p],k<s1.next,[p,p].contains p=true∧loadA E0 s1 9 (.ptr p 0)=some (str w12),binA E0 .add 3 (i64 n9) (i64 1)=some (i64 n14),sliceA E0 s1 9 (str w12) none (some (i64 n14)) none=some (str w15),[p,p].contains p=true∧loadA E0 s1 9 (.ptr p 0)=some (str w16),binA E0 .add 3 (i64 n9) (i64 1)=some (i64 n18),sliceA E0 s1 9 (str w16) (some (i64 n18)) none none=some (str w19),(false=true→ [p,p].all (fun k=>(s1.get k).isSome)=true),storeA E0 s1 9 (.ptr p 0) (str w19)=some s2]):=by kernel_rfl
theorem f67_2_T{yf:AV}{p:Nat}{st s1 s2:St}{w8 w12 w15 w16 w19:ByteArray}{n9 n14 n18:Int}(h1:loadA E0 st 9 (.ptr p 0)=some (str w8))(h2:obC 59 [(str w8),(u8 10)] st (i64 n9) s1)(h3:binA E0 .geq 3 (i64 n9) (i64 0)=some TT)(h4:∀k∈ [p,p],k<s1.next)(h5:loadA E0 s1 9 (.ptr p 0)=some (str w12))(h6:binA E0 .add 3 (i64 n9) (i64 1)=some (i64 n14))(h7:sliceA E0 s1 9 (str w12) none (some (i64 n14)) none=some (str w15))(h8:loadA E0 s1 9 (.ptr p 0)=some (str w16))(h9:binA E0 .add 3 (i64 n9) (i64 1)=some (i64 n18))(h10:sliceA E0 s1 9 (str w16) (some (i64 n18)) none none=some (str w19))(h11:storeA E0 s1 9 (.ptr p 0) (str w19)=some s2){T:Tm}(hT:f67L0 T yf (.ptr p 0)):AW Tryz.prog (f67P 2) (fun ex T' st'=>ex= .normal∧f67L2 T' yf (.ptr p 0) (str w15)∧st'=s2) T st:=by
  obtain ⟨hn,g0,g1⟩:=hT
  exact (gen_run (G:=fun T=>([T.get 0,T.get 1,T.get 3]:List AV)) hE (f67_2_T_e yf p st s1 s2 w8 w12 w15 w16 w19 n9 n14 n18) (Ob.ok_cons.2 ⟨⟨h1,rfl⟩,(Ob.ok_cons.2 ⟨h2,(Ob.ok_cons.2 ⟨h3,(Ob.ok_cons.2 ⟨h4,(Ob.ok_cons.2 ⟨⟨by simp,h5⟩,(Ob.ok_cons.2 ⟨h6,(Ob.ok_cons.2 ⟨h7,(Ob.ok_cons.2 ⟨⟨by simp,h8⟩,(Ob.ok_cons.2 ⟨h9,(Ob.ok_cons.2 ⟨h10,(Ob.ok_cons.2 ⟨(fun h=>by cases h),(Ob.ok_cons.2 ⟨h11,Ob.ok_nil⟩)⟩)⟩)⟩)⟩)⟩)⟩)⟩)⟩)⟩)⟩)⟩) hn (conz g0 (one g1))).mono fun ex T' st' ⟨q1,q2,q3,q4⟩=>by simp only [List.cons.injEq,and_true] at q3;exact ⟨q1,⟨q2,q3⟩,q4⟩
theorem f67_2_F_e(yf:AV)(p:Nat)(st s1 s2:St)(w8 w20:ByteArray)(n9:Int):((evS Tryz.prog E0 noOv noS 100000 [2008,2020,5000,6059,7011,7014,7015,7018,7019,8000] (f67P 2) ⟨25,[(0,yf),(1,(.ptr p 0))],[]⟩ st [.eff (str w8) id,.eff (i64 n9) (fun _=>s1),.av FF,.eff (str w20) id,.eff .undef (fun _=>s2)]).map fun q=>(q.1,q.2.1.n,([q.2.1.get 0,q.2.1.get 1,q.2.1.get 3]:List AV),q.2.2.1,q.2.2.2.2))=some (.normal,25,[yf,(.ptr p 0),(str w20)],s2,[loadA E0 st 9 (.ptr p 0)=some (str w8)∧st=st,obC 59 [(str w8),(u8 10)] st (i64 n9) s1,binA E0 .geq 3 (i64 n9) (i64 0)=some FF,loadA E0 s1 9 (.ptr p 0)=some (str w20)∧s1=s1,storeA E0 s1 9 (.ptr p 0) (str ⟨#[]⟩)=some s2]):=by kernel_rfl
theorem f67_2_F{yf:AV}{p:Nat}{st s1 s2:St}{w8 w20:ByteArray}{n9:Int}(h1:loadA E0 st 9 (.ptr p 0)=some (str w8))(h2:obC 59 [(str w8),(u8 10)] st (i64 n9) s1)(h3:binA E0 .geq 3 (i64 n9) (i64 0)=some FF)(h4:loadA E0 s1 9 (.ptr p 0)=some (str w20))(h5:storeA E0 s1 9 (.ptr p 0) (str ⟨#[]⟩)=some s2){T:Tm}(hT:f67L0 T yf (.ptr p 0)):AW Tryz.prog (f67P 2) (fun ex T' st'=>ex= .normal∧f67L2 T' yf (.ptr p 0) (str w20)∧st'=s2) T st:=by
  obtain ⟨hn,g0,g1⟩:=hT
  exact (gen_run (G:=fun T=>([T.get 0,T.get 1,T.get 3]:List AV)) hE (f67_2_F_e yf p st s1 s2 w8 w20 n9) (Ob.ok_cons.2 ⟨⟨h1,rfl⟩,(Ob.ok_cons.2 ⟨h2,(Ob.ok_cons.2 ⟨h3,(Ob.ok_cons.2 ⟨⟨h4,rfl⟩,(Ob.ok_cons.2 ⟨h5,Ob.ok_nil⟩)⟩)⟩)⟩)⟩) hn (conz g0 (one g1))).mono fun ex T' st' ⟨q1,q2,q3,q4⟩=>by simp only [List.cons.injEq,and_true] at q3;exact ⟨q1,⟨q2,q3⟩,q4⟩
def f67L3(T:Tm)(a0 a1 a24:AV):Prop:=T.n=25∧T.get 0=a0∧T.get 1=a1∧T.get 24=a24
theorem f67_4_T_e(yf:AV)(p:Nat)(st:St):((evS Tryz.prog E0 noOv noS 100000 [] (f67P 4) ⟨25,[(0,yf),(1,(.ptr p 0)),(24,TT)],[]⟩ st []).map fun q=>(q.1,q.2.1.n,([]:List AV),q.2.2.1,q.2.2.2.2))=some (.ret,25,[],st,[]):=by kernel_rfl
theorem f67_4_T{yf:AV}{p:Nat}{st:St}{T:Tm}(hT:f67L3 T yf (.ptr p 0) TT):AW Tryz.prog (f67P 4) (fun ex T' st'=>ex= .ret∧f67L1 T'∧st'=st) T st:=by
  obtain ⟨hn,g0,g1,g24⟩:=hT
  exact (gen_run (G:=fun T=>([]:List AV)) hE (f67_4_T_e yf p st) Ob.ok_nil hn (conz g0 (conz g1 (one g24)))).mono fun ex T' st' ⟨q1,q2,q3,q4⟩=>by exact ⟨q1,q2,q4⟩
theorem f67_4_F_e(yf:AV)(p:Nat)(st:St):((evS Tryz.prog E0 noOv noS 100000 [] (f67P 4) ⟨25,[(0,yf),(1,(.ptr p 0)),(24,FF)],[]⟩ st []).map fun q=>(q.1,q.2.1.n,([q.2.1.get 0,q.2.1.get 1]:List AV),q.2.2.1,q.2.2.2.2))=some (.normal,25,[yf,(.ptr p 0)],st,[]):=by kernel_rfl
theorem f67_4_F{yf:AV}{p:Nat}{st:St}{T:Tm}(hT:f67L3 T yf (.ptr p 0) FF):AW Tryz.prog (f67P 4) (fun ex T' st'=>ex= .normal∧f67L0 T' yf (.ptr p 0)∧st'=st) T st:=by
  obtain ⟨hn,g0,g1,g24⟩:=hT
  exact (gen_run (G:=fun T=>([T.get 0,T.get 1]:List AV)) hE (f67_4_F_e yf p st) Ob.ok_nil hn (conz g0 (conz g1 (one g24)))).mono fun ex T' st' ⟨q1,q2,q3,q4⟩=>by simp only [List.cons.injEq,and_true] at q3;exact ⟨q1,⟨q2,q3⟩,q4⟩
end
section
set_option maxRecDepth 100000
/-! ### strings.Lines: the iterator -/
theorem AWY.temps{y:YK}{P:Program}{b:Option Code}{c:Code}{Q:Option Code→Exit→Tm→St→Prop}{T0 T:Tm}{st:St}(h:AWY y P b c Q T0 st)(hn:T.n=T0.n)(hT:∀t,T0.get t= .undef∨T.get t=T0.get t)(hgl:T0.gl= []):AWY y P b c Q T st:=
  fun g0 st0 w0 g w a hs hl hg hr hTR=>h g0 st0 w0 g w a hs hl hg hr (hTR.temps hn hT hgl)
noncomputable def ops6:Array Oper:=match f67P 3 with| .region _ ops _=>ops|_=> #[]
noncomputable def op6(i:Nat):Oper:=ops6.toList.getD i default
noncomputable def ts6:Array TypeId:=match (op6 2).op with| .call ⟨_,_,ts⟩=>ts|_=> #[]
theorem f67P3:f67P 3= .region 6 ops6 false:=by kernel_rfl
theorem ops6_eq:ops6.toList= [op6 0,op6 1]++op6 2:: [op6 3]:=by kernel_rfl
theorem op6_2:(op6 2).op= .call ⟨.value (.tmp 21), #[.tmp 22],ts6⟩:=by kernel_rfl
theorem op6_g:(op6 2).guard=none:=by kernel_rfl
theorem op6_d:(op6 2).dst=some 23:=by kernel_rfl
def T6(yf pa ln:AV):Tm:=⟨25,[(0,yf),(1,pa),(3,ln)],[]⟩
theorem pre6(yf pa ln:AV)(st:St):evOpsS Tryz.prog E0 noOv noS 1000 [] ops6 [op6 0,op6 1] (T6 yf pa ln) st []=some (((T6 yf pa ln).put (some 21) yf).put (some 22) ln,st,[],[]):=by kernel_rfl
theorem post6T(yf pa ln:AV)(st:St):evOpsS Tryz.prog E0 noOv noS 1000 [] ops6 [op6 3] ((((T6 yf pa ln).put (some 21) yf).put (some 22) ln).put (some 23) TT) st []=some (((((T6 yf pa ln).put (some 21) yf).put (some 22) ln).put (some 23) TT).put (some 24) FF,st,[],[]):=by kernel_rfl
theorem post6F(yf pa ln:AV)(st:St):evOpsS Tryz.prog E0 noOv noS 1000 [] ops6 [op6 3] ((((T6 yf pa ln).put (some 21) yf).put (some 22) ln).put (some 23) FF) st []=some (((((T6 yf pa ln).put (some 21) yf).put (some 22) ln).put (some 23) FF).put (some 24) TT,st,[],[]):=by kernel_rfl
theorem yield6{y:YK}{T0 T:Tm}{st:St}{p:Nat}{ln:ByteArray}{K:Option Code→St→Prop}(hT:f67L2 T (.fn (.yield y.l) [] []) (.ptr p 0) (str ln))(hT0:TR y.gE T0 ⟨y.tmps,[]⟩)(hR:RoundA Tryz.prog y.p y.assign y.body T0 (str ln) st K):
    AWY y Tryz.prog none (f67P 3) (fun b ex T' z=>ex= .normal∧f67L3 T' (.fn (.yield y.l) [] []) (.ptr p 0) (bo b.isSome)∧K b z) T st:=by
  rw [f67P3]
  obtain ⟨hn,h0,h1,h3⟩:=hT
  refine AWY.temps (T0:=T6 (.fn (.yield y.l) [] []) (.ptr p 0) (str ln)) ?_ hn (fun t=>look_or T _ (fun q hq=> ?_) t) rfl
  · refine AWY.yield hE ops6_eq op6_2 op6_g hT0 ?_
    refine AOps.mono ?_ _ ((evS_ok hE noOv_ok 1000).ops _ _ _ _ _ _ _ _ _ _ (pre6 _ _ _ _) Ob.ok_nil)
    rintro e T1 z ⟨rfl,rfl,rfl⟩
    refine ⟨rfl,by rw [op6_d];rfl,K,hR,fun b st2 hK=> ?_⟩
    rw [op6_d]
    cases b with
    |none=>
      refine AOps.mono ?_ _ ((evS_ok hE noOv_ok 1000).ops _ _ _ _ _ _ _ _ _ _ (post6T _ _ _ _) Ob.ok_nil)
      rintro e T2 z2 ⟨rfl,rfl,rfl⟩
      exact ⟨rfl,⟨rfl,rfl,rfl,rfl⟩,hK⟩
    |some c=>
      refine AOps.mono ?_ _ ((evS_ok hE noOv_ok 1000).ops _ _ _ _ _ _ _ _ _ _ (post6F _ _ _ _) Ob.ok_nil)
      rintro e T2 z2 ⟨rfl,rfl,rfl⟩
      exact ⟨rfl,⟨rfl,rfl,rfl,rfl⟩,hK⟩
  · simp only [T6,List.mem_cons,List.mem_nil_iff,or_false] at hq
    rcases hq with rfl|rfl|rfl
    · exact h0
    · exact h1
    · exact h3
/-! the loop, turn by turn -/
def LoopY(y:YK)(P:Program)(c:Code)(Q:Option Code→Exit→Tm→St→Prop):Nat→Option Code→Tm→St→Prop
  |0=>fun _ _ _=>False
  |k+1=>fun b T st=>AWY y P b c (fun b'=>thenA (fun T st=>LoopY y P c Q k b' T st) (Q b')) T st
theorem AWY.loopY{y:YK}{P:Program}{c:Code}{Q:Option Code→Exit→Tm→St→Prop}{k:Nat}{b:Option Code}{T:Tm}{st:St}(h:LoopY y P c Q k b T st):AWY y P b (.loop c) Q T st:=by
  refine AWY.loop (LoopY y P c Q) k h fun n b T st hI=> ?_
  cases n with
  |zero=>exact hI.elim
  |succ m=>
    refine AWY.mono hI fun b' ex T' st' hq=> ?_
    cases ex with
    |normal=>exact ⟨m,Nat.lt_succ_self m,hq⟩
    |_=>exact hq
/-- the first line, and whether it is ended; the rest -/
def lineOf(s:List UInt8):List UInt8×Bool×List UInt8:=if 10∈s then (s.takeWhile (· ≠10),true,(s.dropWhile (· ≠10)).drop 1) else (s,false,[])
/-- the line as the iterator gives it -/
def lineB(s:List UInt8):List UInt8:=if 10∈s then s.takeWhile (· ≠10)++ [10] else s
theorem ib_ten:∀s:List UInt8,Lib.indexByte s 10=if 10∈s then ((s.takeWhile (· ≠10)).length:Int) else-1
  | []=>rfl
  |c::r=>by
    unfold Lib.indexByte
    by_cases hc:c=10
    · subst hc
      simp
    · have h1:(c==10)=false:=by simpa using hc
      rw [h1,ib_ten r]
      have h2:(10∈c::r)↔10∈r:=by rw [List.mem_cons];exact ⟨fun e=>e.resolve_left (fun q=>hc q.symm),.inr⟩
      by_cases hr:10∈r
      · rw [if_pos hr,if_pos (h2.2 hr)]
        simp [hc]
      · rw [if_neg hr,if_neg (fun e=>hr (h2.1 e))]
        simp
theorem split_ten{s:List UInt8}(h:10∈s):s=s.takeWhile (· ≠10)++10::(s.dropWhile (· ≠10)).drop 1:=by
  induction s with
  |nil=>cases h
  |cons c r ih=>
    by_cases hc:c=10
    · subst hc;simp
    · have hr:10∈r:=(List.mem_cons.1 h).resolve_left (fun q=>hc q.symm)
      have:=ih hr
      simp [hc]
      simpa using this
/-- the way to yield: the cell is cut -/
theorem lines_cut{σ:St}{p:Nat}{s:List UInt8}(hp:σ.get p=some (.row [sb s] 9))(hw:σ.wf)(hl:p∉σ.lock)(hs:s≠ [])(hb:s.length≤2000000000){yf:AV}{T:Tm}(hT:f67L0 T yf (.ptr p 0)):
    AW Tryz.prog (f67P 2) (fun ex T' z=>ex= .normal∧f67L2 T' yf (.ptr p 0) (sb (lineB s))∧z=σ.set p (.row [sb (lineOf s).2.2] 9)) T σ:=by
  have t9:(E0.ty 9).map (fun i=>isAggD i.desc)=some false:=by rw [ty9];rfl
  have ld:loadA E0 σ 9 (.ptr p 0)=some (sb s):=by simp only [loadA,hp];exact plainT t9 rfl
  have hsz:tySize E0 9=some 1:=by kernel_rfl
  have sto:∀w:ByteArray,storeA E0 σ 9 (.ptr p 0) (str w)=some (σ.set p (.row [str w] 9)):=fun w=>by
    show (match σ.wget p with|some (.row vs ty)=>if tySize E0 9=some 1∧0+1≤vs.length then some (σ.set p (.row (vs.take 0++ [str w]++vs.drop (0+1)) ty)) else none|_=>none)=_
    rw [St.wget_of hp hl]
    simp only [hsz]
    rfl
  have hib:obC 59 [sb s,u8 10] σ (i64 (Lib.indexByte s 10)) σ:=f59 (ib_ok ⟨s.toArray⟩ 10 σ)
  have q1:=hT
  by_cases h10:10∈s
  · have e:s=s.takeWhile (· ≠10)++10::(s.dropWhile (· ≠10)).drop 1:=split_ten h10
    rw [ib_ten,if_pos h10] at hib
    generalize hu:s.takeWhile (· ≠10)=u at hib e
    generalize hv:(s.dropWhile (· ≠10)).drop 1=v at e
    have hlen:s.length=u.length+1+v.length:=by rw [e];simp;omega
    have a1:binA E0 .add 3 (i64 u.length) (i64 1)=some (i64 ((u.length+1:Nat):Int)):=add3 (a:=u.length) (b:=1) (by omega)
    have eB:lineB s=s.take (u.length+1):=by
      unfold lineB;rw [if_pos h10,hu]
      rw [e]
      rw [show u++10::v=(u++ [10])++v by simp,List.take_left' (by simp)]
    have eR:(lineOf s).2.2=s.drop (u.length+1):=by
      unfold lineOf;rw [if_pos h10]
      show (s.dropWhile (· ≠10)).drop 1=_
      rw [hv,e,show u++10::v=(u++ [10])++v by simp,List.drop_left' (by simp)]
    rw [eB,eR]
    have hlt:p<σ.next:=hw _ _ hp
    exact f67_2_T ld hib (geqT (by omega)) (fun k hk=>by simp at hk;omega) ld a1 (slice_hi σ (by omega)) ld a1 (slice_lo σ (by omega)) (sto _) q1
  · rw [ib_ten,if_neg h10] at hib
    have eB:lineB s=s:=by unfold lineB;rw [if_neg h10]
    have eR:(lineOf s).2.2= []:=by unfold lineOf;rw [if_neg h10]
    rw [eB,eR]
    exact f67_2_F ld hib (geqF (by decide)) ld (sto _) q1
end
end Go.Proofs.YtnknfheabnogaaaGreatDoor.E

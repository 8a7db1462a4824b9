import Derived.Test.YtknchlpcpgflkaaGreatDoorJs
import Derived.Test.YtknchlpcpgflkaaGreatDoorKGAE
import Derived.Lib.SmallJoins
import Derived.Lib.AppendIntMem
import Derived.Lib.Atoi
import Derived.Lib.ItoaNum
import Derived.WalkSpells
import Derived.IntWalk
import Derived.Shelf.Strings.Builder1
import Derived.Test.YtknchlpcpgflkaaGreatDoorKGAA
import Derived.Maps.Own
import Derived.Maps.RangeRun
import Derived.MapKept
import Derived.Test.YtknchlpcpgflkaaGreatDoorKGAD
set_option maxRecDepth 100000
set_option maxHeartbeats 16000000
namespace Go.Proofs.YtknchlpcpgflkaaGreatDoor
open Go.RowKit Go.Shelf
def bs (l:List UInt8):ByteArray:=⟨l.toArray⟩
theorem bs_list (l:List UInt8):(bs l).data.toList=l:=rfl
theorem bs_size (l:List UInt8):(bs l).size=l.length:=by show l.toArray.size=_;simp
theorem of_bs (s:ByteArray):bs s.data.toList=s:=rfl
theorem len_bytes (s:ByteArray):s.data.toList.length=s.size:=by rw [Array.length_toList];rfl
theorem bs_extract (l:List UInt8) (a b:Nat):(bs l).extract a b=bs ((l.drop a).take (b - a)):=by
 apply ByteArray.ext;apply Array.ext';rw [ByteArray.data_extract];show ((l.toArray).extract a b).toList=(l.drop a).take (b - a);rw [Array.toList_extract]
theorem bs_append (a b:List UInt8):bs a++bs b=bs (a++b):=by
 apply ByteArray.ext;apply Array.ext';rw [ByteArray.data_append,Array.toList_append];rfl
structure Tbs (w:World):Prop where
 tab : Lib.TabIs Tryz.prog w "internal/strconv.uint64pow10" .u64 Lib.pow10Tab
 max:∃ m,w.cell? ⟨5,0,none⟩=some (.int .i64 m)
 syn:∃ ev,w.cell? ⟨1,0,none⟩=some ev∧(ev = .nilIface∨∃ te pe,ev = .iface te pe)
 rng:∃ ev,w.cell? ⟨2,0,none⟩=some ev∧(ev = .nilIface∨∃ te pe,ev = .iface te pe)
theorem Tbs.below {w w':World} (h:Tbs w) (hb:Below w.heap.size w w'):Tbs w' where
 tab:=Lib.tabBelow_of_tabIs h.tab w' hb
 max:=by obtain ⟨m,hm⟩:=h.max;exact ⟨m,(hb.cell (World.block_lt_of_cell? _ _ hm)).trans hm⟩
 syn:=by obtain ⟨m,hm,h2⟩:=h.syn;exact ⟨m,(hb.cell (World.block_lt_of_cell? _ _ hm)).trans hm,h2⟩
 rng:=by obtain ⟨m,hm,h2⟩:=h.rng;exact ⟨m,(hb.cell (World.block_lt_of_cell? _ _ hm)).trans hm,h2⟩
theorem sum_bs (a b:List UInt8) (h:a.length+b.length≤9223372036854775807) (W:World):(Op.stringOp .add (bs a) (bs b)).run Tryz.prog W = .ok (.string (bs (a++b))) W:=by
 rw [run_string_add_sum (P:=Tryz.prog) W (bs a) (bs b) (by rw [bs_size,bs_size];exact h),bs_append]
theorem beq_bs {a b:List UInt8} (h:a≠b):((bs a).toList == (bs b).toList)=false:=by
 rw [Lib.toList_data,Lib.toList_data];exact beq_eq_false_iff_ne.2 h
theorem sl_mid (l:List UInt8) (a b:Nat) (h:a≤b) (h2:b≤l.length) (W:World):(Instr.slice 9 (.string (bs l)) (some (.int .i64 (a:Int))) (some (.int .i64 (b:Int))) none).run Tryz.prog W = .ok (.string (bs ((l.drop a).take (b - a)))) W:=by
 rw [run_slice_string (P:=Tryz.prog) (w:=W) 9 _ .i64 .i64 (a:Int) (b:Int) (by kernel_rfl) (by omega) (by omega) (by rw [bs_size];omega)];rw [Int.toNat_natCast,Int.toNat_natCast,bs_extract]
theorem Tryz.infoStr:(Tryz.prog.info? 9).map (fun i=>(i.zero,i.size,i.bytes))=some (some (Value.string ⟨#[]⟩),1,16):=by kernel_rfl
def sv (l:List UInt8):Value:=.string (bs l)
def OwnStrs (w:World) (base:Nat) (v:Value) (l:List (List UInt8)):Prop:=w.ownsRow base 9 1 v l.length (l.map sv)
theorem OwnStrs.nil (w:World) (base:Nat):OwnStrs w base (.slice none 0 0) []:=World.ownsRow_nil _ _ _ _
theorem OwnStrs.form {w:World} {base:Nat} {v:Value} {l:List (List UInt8)} (h:OwnStrs w base v l):∃ A c,v = .slice A l.length c:=by
 rcases h.2 with ⟨hv,h0⟩ | ⟨g,cap,cur,hv,_⟩
 · exact ⟨none,0,by rw [hv,h0]⟩
 · exact ⟨_,_,hv⟩
def StrsAt (w:World) (B:Nat) (A:Option Addr) (l:List (List UInt8)):Prop:=
 ∀ (i:Nat) (s:List UInt8),l[i]? = some s→∃ g off,A=some ⟨g,off,none⟩∧g<B∧w.cell? ⟨g,off+i,none⟩=some (.string (bs s))
theorem StrsAt.below {w w':World} {B:Nat} {A:Option Addr} {l:List (List UInt8)} (h:StrsAt w B A l) (hb:Below B w w'):StrsAt w' B A l:=fun i s hi=>by
 obtain ⟨g,off,hA,hg,hc⟩:=h i s hi;exact ⟨g,off,hA,hg,(hb.cell (p:=⟨g,off+i,none⟩) hg).trans hc⟩
theorem StrsAt.nil (w:World) (B:Nat) (A:Option Addr):StrsAt w B A []:=fun i s hi=>by simp at hi
theorem StrsAt.wide {w:World} {B B':Nat} {A:Option Addr} {l:List (List UInt8)} (h:StrsAt w B A l) (hB:B≤B'):StrsAt w B' A l:=fun i s hi=>by
 obtain ⟨g,off,hA,hg,hc⟩:=h i s hi;exact ⟨g,off,hA,by omega,hc⟩
theorem below_dN {B:Nat} {w w1:World} (h:Below B w w1) (n:Nat):Below B w (w1.drewN n):=⟨h.os,h.tape,h.output,h.size,h.block⟩
def Bld (B b:Nat) (l:List UInt8) (w:World):Prop:=Lib.IsBuilder 124 5 B b (Lib.byteCells l) w
theorem Bld.fresh {B b:Nat} {w:World} (hB:B≤b) (h:Blk w b 124 #[.pointer none,.slice none 0 0]):Bld B b [] w:=
 .inl ⟨hB,_,h,World.ownsRow_nil _ _ _ _,by simp [Value.ownBlock]⟩
theorem BuilderAt.below {B b:Nat} {p:Value} {l:List Value} {w w':World} (h:Lib.BuilderAt 124 5 B b p l w) (hb:Below w.heap.size w w'):Lib.BuilderAt 124 5 B b p l w':=by
 obtain ⟨hB,v,hbk,hown,hne⟩:=h
 have hlt:b<w.heap.size:=by
  rcases Nat.lt_or_ge b w.heap.size with h' | h'
  · exact h'
  · simp [Array.getElem?_eq_none h'] at hbk
 exact ⟨hB,v,(hb.block b hlt).trans hbk,(Only.of_below hb (fun _=>False)).owns hown (fun _ _ h=>h),hne⟩
theorem Bld.below {B b:Nat} {l:List UInt8} {w w':World} (h:Bld B b l w) (hb:Below w.heap.size w w'):Bld B b l w':=
 h.imp (fun x=>BuilderAt.below x hb) (fun x=>BuilderAt.below x hb)
theorem sizeBuilder:(Tryz.prog.info? 124).map (·.size)=some 2:=by kernel_rfl
theorem liesBuilder:liesAt Tryz.prog Tryz.prog.depth 124 (2 / Tryz.prog.cellsOf 124) 0 124 1=true:=by kernel_rfl
theorem Tryz.infoByte:(Tryz.prog.info? 5).map (fun i=>(i.zero,i.size,i.bytes))=some (some (.int .u8 0),1,1):=by kernel_rfl
theorem copyCheck_used (b:Nat) (w:World) (h0:w.cell? ⟨b,0,none⟩=some (.pointer (some ⟨b,0,none⟩))) :
 Calls Tryz.prog 132 #[.pointer (some ⟨b,0,none⟩)] w fun e w'=>e = .returned (.tuple #[])∧w'=w:=by
 obtain ⟨j,hj,_⟩:=Option.map_eq_some_iff.1 sizeBuilder;go_enter Tryz.func132,Tryz.ntmps132
 go_wp2
 rw [Lib.run_neq_ptr_same w _ Tryz.underlying121 hj];go_wp2
 go_end0
 exact ⟨rfl,rfl⟩
theorem copyCheck_fresh (b:Nat) (w:World) (h0:w.cell? ⟨b,0,none⟩=some (.pointer none)) (hsh:w.shape? b=some (124,2)) (hfz:w.frozen? ⟨b,0,none⟩=false) :
 Calls Tryz.prog 132 #[.pointer (some ⟨b,0,none⟩)] w fun e w'=>e = .returned (.tuple #[])∧w'=w.setCell ⟨b,0,none⟩ (.pointer (some ⟨b,0,none⟩)):=by
 obtain ⟨j,hj,hjs⟩:=Option.map_eq_some_iff.1 sizeBuilder;go_enter Tryz.func132,Tryz.ntmps132
 go_wp2
 rw [Lib.run_to_unsafe w ⟨b,0,none⟩ Tryz.underlying121 Tryz.underlying196 hj (by rw [hjs];decide) hsh (Nat.zero_lt_succ 1)];simp only [Result.andThen];rw [Oper.upon_value];go_wp2
 rw [run_callFunc_extern Tryz.func154 (by kernel_rfl) (by kernel_rfl) (by kernel_rfl) (e:=Extern.AbiNoEscape.same) (by kernel_rfl)];rw [Lib.run_noEscape];simp only [Result.andThen];rw [Oper.upon_value];go_wp2
 rw [Lib.run_from_unsafe w ⟨b,0,none⟩ Tryz.underlying196 Tryz.underlying121 hj hsh liesBuilder];simp only [Result.andThen];rw [Oper.upon_value];go_wp2
 go_end0
 exact ⟨rfl,rfl⟩
theorem string_any (B b:Nat) (l:List UInt8) (w:World) (h:Bld B b l w) (hBw:B≤w.heap.size) :
 Calls Tryz.prog 78 #[.pointer (some ⟨b,0,none⟩)] w fun e w'=>e = .returned (.string (bs l))∧Below B w w':=sh_Builder_String_any B b l w h hBw
theorem itoa_int (w:World) (ht:Tbs w) (n:Int) (h0 : -9223372036854775808≤n) (h1:n≤9223372036854775807):Calls Tryz.prog 76 #[.int .i64 n] w fun e w'=>e = .returned (.string (bs (Lib.itoa n)))∧Below w.heap.size w w':=
 (sh_strconv_Itoa n h0 h1 w ht.tab).mono fun _ _ ⟨he,k,os,hw⟩=>⟨he,hw▸Lib.below_grow _ _ (Nat.le_refl _) k os⟩
open Go.RowKit Go.MapKept Go.ChangeMaps
structure Kys (P:Program) (k:TypeId) (G:Value→Prop):Prop where
 check:∀ (w:World) (em:Bool) {v:Value},G v→(Instr.checkKey em 10000 k v).run P w = .ok () w
 find:∀ (w:World) {x:Value},G x→∀ es:List MapEntry,(∀ e∈es,G e.key) →
  ((Instr.findKey k x es).run P w = .ok none w∧∀ e∈es,e.key≠x)∨∃ (j:Nat) (e:MapEntry),(Instr.findKey k x es).run P w = .ok (some (j,e.val)) w∧es[j]? = some e∧e.key=x
 stays:∀ (w:World) {v:Value},G v→(Instr.keyThatStays v v).run P w = .ok v w
def kvOf (e:MapEntry):Value×Value:=(e.key,e.val)
def MapV (w:World) (b:Nat) (L:List (Value×Value)):Prop:=∃ es clock,w.heap[b]? = some (.map es clock)∧es.toList.map kvOf=L∧Stamped es clock
open Classical in
noncomputable def upV (x v:Value) (p:Value×Value):Value×Value:=if p.1=x then (x,v) else p
theorem upV_pos {x v:Value} {p:Value×Value} (h:p.1=x):upV x v p=(x,v):=if_pos h
theorem upV_neg {x v:Value} {p:Value×Value} (h:¬ p.1=x):upV x v p=p:=if_neg h
section
variable {P : Program} {k e t : TypeId} {G : Value → Prop} {w w' : World} {b : Nat} {L : List (Value × Value)}
theorem MapV.lt (h:MapV w b L):b<w.heap.size:=by
 obtain ⟨es,clock,hb,_⟩:=h;exact (Array.getElem?_eq_some_iff.1 hb).1
theorem MapV.of_block (h:MapV w b L) (hb:w'.heap[b]? = w.heap[b]?):MapV w' b L:=by
 obtain ⟨es,clock,h1,h2⟩:=h;exact ⟨es,clock,hb.trans h1,h2⟩
theorem MapV.below {B:Nat} (h:MapV w b L) (hb:Below B w w') (hlt:b<B):MapV w' b L:=h.of_block (hb.block b hlt)
theorem MapV.grown {row:Option Nat} (h:MapV w b L) (hg:w.grownBy w' row) (hne:some b≠row):MapV w' b L:=h.of_block (hg.block b h.lt hne)
theorem MapV.alloc (h:MapV w b L) (o:Obj):MapV (w.alloc o) b L:=h.grown (World.grownBy_alloc w o none) (by simp)
theorem MapV.made (w:World):MapV (w.alloc (.map #[] 0)) w.heap.size []:=⟨#[],0,(MapKept.heap_alloc w _).1,by simp,stamped_empty 0⟩
theorem setBlock_grown {es:Array MapEntry} {clock:Nat} (hb:w.heap[b]? = some (.map es clock)) (o:Obj):w.grownBy (setBlock w b o) (some b):=
 ⟨rfl,rfl,rfl,by simp [setBlock],fun i _ hi=>heap_setBlock_other hb _ (fun e=>hi (by rw [e]))⟩
theorem MapV.look_some (h:MapV w b L) (K:Kys P k G) (ht:P.underlying t=some (.map k e)) (hG:∀ p∈L,G p.1) {x v:Value} (hm:(x,v)∈L) (c:Bool) :
 (Instr.lookup t (.map (some b)) x c).run P w = .ok (if c then .tuple #[v,.bool true] else v) w:=by
 obtain ⟨es,clock,hb,rfl,hst⟩:=h;obtain ⟨_,hn,hk⟩:=(stamped_iff es clock).1 hst;have hGe:∀ e∈es.toList,G e.key:=fun e he=>hG _ (List.mem_map.2 ⟨e,he,rfl⟩);obtain ⟨e0,he0,h0⟩:=List.mem_map.1 hm;have hx:e0.key=x:=congrArg Prod.fst h0;have hv:e0.val=v:=congrArg Prod.snd h0;have hgx:G x:=hx▸hGe e0 he0;rcases K.find w hgx es.toList hGe with ⟨_,h2⟩ | ⟨j,e1,h1,h2,h3⟩
 · exact absurd hx (h2 e0 he0)
 · have:e1=e0:=entry_eq_of_key hk (List.mem_of_getElem? h2) he0 (h3.trans hx.symm)
   subst this;simp [Instr.lookup,run_underlying ht,MapKept.run_getObj_map hb,K.check w _ hgx,h1,Result.andThen,hv]
theorem MapV.look_none (h:MapV w b L) (K:Kys P k G) (ht:P.underlying t=some (.map k e)) (hG:∀ p∈L,G p.1) {x z:Value} (hx:G x) (hm:∀ p∈L,p.1≠x) (hz:(zeroValue e).run P w = .ok z w) (c:Bool) :
 (Instr.lookup t (.map (some b)) x c).run P w = .ok (if c then .tuple #[z,.bool false] else z) w:=by
 obtain ⟨es,clock,hb,rfl,hst⟩:=h;have hGe:∀ e∈es.toList,G e.key:=fun e he=>hG _ (List.mem_map.2 ⟨e,he,rfl⟩);rcases K.find w hx es.toList hGe with ⟨h1,_⟩ | ⟨j,e1,h1,h2,h3⟩
 · simp [Instr.lookup,run_underlying ht,MapKept.run_getObj_map hb,K.check w _ hx,h1,hz,Result.andThen]
 · exact absurd h3 (hm _ (List.mem_map.2 ⟨e1,List.mem_of_getElem? h2,rfl⟩))
theorem modify_kv {es:Array MapEntry} {clock j:Nat} {e0:MapEntry} {x v:Value} (hst:Stamped es clock) (h2:es.toList[j]? = some e0) (h3:e0.key=x) :
 (es.modify j fun e' => { e' with key:=x,val:=v }).toList.map kvOf=(es.toList.map kvOf).map (upV x v)∧Stamped (es.modify j fun e' => { e' with key:=x,val:=v }) clock:=by
 have hj:es[j]? = some e0:=by simpa using h2
 obtain ⟨_,_,hk⟩:=(stamped_iff es clock).1 hst;refine ⟨?_,stamped_modify hst _ _ (fun _ _=>rfl) (fun e' _ he'=>by rw [hj] at he';cases he';exact h3.symm)⟩;rw [Array.toList_modify,modify_eq_set _ _ _ _ h2];apply List.ext_getElem?;intro i;rw [List.getElem?_map,List.getElem?_map,List.getElem?_map,List.getElem?_set];by_cases hij:j=i
 · subst hij
   have hlt:=(List.getElem?_eq_some_iff.1 h2).1;rw [if_pos rfl,if_pos hlt,h2];simp [kvOf,upV,h3]
 · rw [if_neg hij]
   cases hi:es.toList[i]? with
   | none=>rfl
   | some y=>
    have hne:y.key≠x:=fun e1=>by
     have hy:=List.mem_of_getElem? hi;have h0:=List.mem_of_getElem? h2;have:=entry_eq_of_key hk hy h0 (e1.trans h3.symm);subst this;have hnd:es.toList.Nodup:=hk.imp fun h e=>h (by rw [e]);exact hij ((List.getElem?_inj (List.getElem?_eq_some_iff.1 h2).1 hnd).1 (h2.trans hi.symm))
    simp [kvOf,upV,hne]
theorem MapV.upd_some (h:MapV w b L) (K:Kys P k G) (ht:P.underlying t=some (.map k e)) (hG:∀ p∈L,G p.1) {x v0:Value} (hm:(x,v0)∈L) (v:Value) :
 ∃ w',(Instr.mapUpdate t (.map (some b)) x v).run P w = .ok () w'∧MapV w' b (L.map (upV x v))∧w.grownBy w' (some b):=by
 obtain ⟨es,clock,hb,rfl,hst⟩:=h;have hGe:∀ e∈es.toList,G e.key:=fun e he=>hG _ (List.mem_map.2 ⟨e,he,rfl⟩);obtain ⟨e0,he0,h0⟩:=List.mem_map.1 hm;have hx:e0.key=x:=congrArg Prod.fst h0;have hgx:G x:=hx▸hGe e0 he0;rcases K.find w hgx es.toList hGe with ⟨_,h2⟩ | ⟨j,e1,h1,h2,h3⟩
 · exact absurd hx (h2 e0 he0)
 · have hj:es[j]? = some e1:=by simpa using h2
   obtain ⟨k1,k2⟩:=modify_kv (v:=v) hst h2 h3;refine ⟨setBlock w b (.map (es.modify j fun e' => { e' with key:=x,val:=v }) clock),?_,⟨_,clock,heap_setBlock_same hb _,k1,k2⟩,setBlock_grown hb _⟩;simp [Instr.mapUpdate,run_underlying ht,MapKept.run_getObj_map hb,K.check w false hgx,h1,hj,h3,K.stays w hgx,MapKept.run_setObj_map _ hb,Result.andThen,setBlock]
theorem MapV.upd_none (h:MapV w b L) (K:Kys P k G) (ht:P.underlying t=some (.map k e)) (hG:∀ p∈L,G p.1) {x:Value} (hx:G x) (hm:∀ p∈L,p.1≠x) (v:Value) :
 ∃ w',(Instr.mapUpdate t (.map (some b)) x v).run P w = .ok () w'∧MapV w' b (L++[(x,v)])∧w.grownBy w' (some b):=by
 obtain ⟨es,clock,hb,rfl,hst⟩:=h;have hGe:∀ e∈es.toList,G e.key:=fun e he=>hG _ (List.mem_map.2 ⟨e,he,rfl⟩);rcases K.find w hx es.toList hGe with ⟨h1,h2⟩ | ⟨j,e1,h1,h2,h3⟩
 · refine ⟨setBlock w b (.map (es.push ⟨x,v,clock⟩) (clock+1)),?_,⟨_,_,heap_setBlock_same hb _,by simp [kvOf],stamped_push hst h2⟩,setBlock_grown hb _⟩
   simp [Instr.mapUpdate,run_underlying ht,MapKept.run_getObj_map hb,K.check w false hx,h1,MapKept.run_setObj_map _ hb,Result.andThen,setBlock]
 · exact absurd h3 (hm _ (List.mem_map.2 ⟨e1,List.mem_of_getElem? h2,rfl⟩))
def IterV (w:World) (b r:Nat) (L T:List (Value×Value)):Prop:=∃ es clock since seen c0,w.heap[b]? = some (.map es clock)∧es.toList.map kvOf=L∧Stamped es clock∧w.heap[r]? = some (.mapIter (some b) since seen c0) ∧
 (∀ x∈es.toList,x.born<since)∧since≤c0∧c0=clock∧(es.toList.filter fun e => !seen.contains e.born).map kvOf=T
theorem IterV.map {r:Nat} {T:List (Value×Value)} (h:IterV w b r L T):MapV w b L:=by
 obtain ⟨es,clock,_,_,_,h1,h2,h3,_⟩:=h;exact ⟨es,clock,h1,h2,h3⟩
theorem IterV.ne {r:Nat} {T:List (Value×Value)} (h:IterV w b r L T):r≠b:=by
 obtain ⟨es,clock,since,seen,c0,h1,h2,h3,h4,h5⟩:=h;intro e;rw [e,h1] at h4
 cases h4
theorem MapV.range (h:MapV w b L) (ht:P.underlying t=some (.map k e)) :
 ∃ o,(Instr.range t (.map (some b))).run P w = .ok (.pointer (some ⟨w.heap.size,0,none⟩)) (w.alloc o)∧IterV (w.alloc o) b w.heap.size L L:=by
 obtain ⟨es,clock,hb,hL,hst⟩:=h;obtain ⟨h1,_,_⟩:=(stamped_iff es clock).1 hst;have hlt:=(Array.getElem?_eq_some_iff.1 hb).1;refine ⟨.mapIter (some b) clock #[] clock,?_,es,clock,clock,#[],clock,?_,hL,hst,(MapKept.heap_alloc w _).1,h1,Nat.le_refl _,rfl,?_⟩
 · exact run_range_map w t k e b es clock ht hb
 · exact (Below.heap_alloc w _ b hlt).trans hb
 · rw [← hL]
   congr 1
   simp
theorem IterV.next {r:Nat} {T:List (Value×Value)} (h:IterV w b r L T) (ty:TypeId) :
 (T=[]∧(Instr.next (.pointer (some ⟨r,0,none⟩)) false ty).run P w = .ok (.tuple #[.bool false]) w) ∨
 ∃ (A B:List (Value×Value)) (x v:Value) (w':World),T=A++(x,v)::B∧(x,v)∈L∧(Instr.next (.pointer (some ⟨r,0,none⟩)) false ty).run P w = .ok (.tuple #[.bool true,x,v]) w'∧w.grownBy w' (some r)∧IterV w' b r L (A++B) ∧
  ∀ W:World,W.heap[b]? = w'.heap[b]?→W.heap[r]? = w'.heap[r]?→(Instr.entry (.pointer (some ⟨r,0,none⟩))).run P W = .ok (.tuple #[x,v]) W:=by
 have hne:=h.ne;obtain ⟨es,clock,since,seen,c0,hb,hL,hst,hr,hold,hsc,hcc,hT⟩:=h;obtain ⟨_,hn,hk⟩:=(stamped_iff es clock).1 hst;rcases run_next_at (P:=P) w ty r b since c0 seen es clock hr hb hold hsc with ⟨h0,hrun⟩ | ⟨e0,he0,w1,hw1,hrun⟩
 · refine .inl ⟨?_,hrun⟩
   rw [← hT];have:(leftOf es seen).toList=[]:=by simpa using h0
   unfold leftOf at this;rw [Array.toList_filter] at this;rw [this];rfl
 · right
   unfold leftOf at he0;rw [Array.toList_filter] at he0;obtain ⟨A,B,hAB⟩:=List.append_of_mem he0;have hmem:=(List.mem_filter.1 he0).1;have hb1:w1.heap[b]? = some (.map es clock):=by rcases hw1 with rfl | rfl <;> exact hb
   have hr1:w1.heap[r]? = some (.mapIter (some b) since seen c0):=by rcases hw1 with rfl | rfl <;> exact hr
   have hrlt:=(Array.getElem?_eq_some_iff.1 hr1).1
   have hsame:(setBlock w1 r (.mapIter (some b) since (seen.push e0.born) clock)).heap[r]? = some (.mapIter (some b) since (seen.push e0.born) clock):=by
    simp [setBlock,hrlt]
   have hoth:∀ i,i≠r→(setBlock w1 r (.mapIter (some b) since (seen.push e0.born) clock)).heap[i]? = w1.heap[i]?:=fun i hi=>by
    simp [setBlock,Ne.symm hi]
   have hg:w.grownBy (setBlock w1 r (.mapIter (some b) since (seen.push e0.born) clock)) (some r):=by
    rcases hw1 with rfl | rfl
    · exact ⟨rfl,rfl,rfl,by simp [setBlock],fun i _ hi=>hoth i fun e=>hi (by rw [e])⟩
    · exact ⟨rfl,rfl,rfl,by show _≤(w.heap.setIfInBounds r _).size;rw [Array.size_setIfInBounds];exact Nat.le_refl _,fun i _ hi=>hoth i fun e=>hi (by rw [e])⟩
   refine ⟨A.map kvOf,B.map kvOf,e0.key,e0.val,_,?_,?_,hrun,hg,?_,fun W hWb hWr=>?_⟩
   · rw [← hT,hAB,List.map_append,List.map_cons];rfl
   · rw [← hL];exact List.mem_map.2 ⟨e0,hmem,rfl⟩
   · refine ⟨es,clock,since,seen.push e0.born,clock,?_,hL,hst,hsame,hold,by omega,rfl,?_⟩
     · rw [hoth b (Ne.symm hne)];exact hb1
     · have e1:(es.toList.filter fun e => !(seen.push e0.born).contains e.born)=(es.toList.filter fun e => !seen.contains e.born).filter fun e => !(e.born == e0.born):=by
        rw [List.filter_filter];refine List.filter_congr fun x _=>?_;by_cases hx:x.born=e0.born
        · simp [hx]
        · simp [hx]
       have hns:((es.toList.filter fun e => !seen.contains e.born).map (·.born)).Nodup:=(List.Sublist.map _ List.filter_sublist).nodup hn;rw [e1,hAB,List.filter_append,List.filter_cons_of_neg (by simp)];rw [hAB,List.map_append,List.map_cons] at hns;have hd:=List.nodup_append.1 hns
       have hA:A.filter (fun e => !(e.born == e0.born))=A:=List.filter_eq_self.2 fun x hx=>by
        have:=hd.2.2 x.born (List.mem_map.2 ⟨x,hx,rfl⟩) e0.born List.mem_cons_self;simpa using this
       have hB:B.filter (fun e => !(e.born == e0.born))=B:=List.filter_eq_self.2 fun x hx=>by
        have:=(List.nodup_cons.1 hd.2.1).1;have hne2:x.born≠e0.born:=fun e=>this (e▸List.mem_map.2 ⟨x,hx,rfl⟩);simpa using hne2
       rw [hA,hB,List.map_append]
   · have q1:=hWr.trans hsame
     have q2:=hWb.trans ((hoth b (Ne.symm hne)).trans hb1);exact run_entry_at (P:=P) W r b since seen es clock e0 q1 q2 hmem hn
end
abbrev Rt:=ByteArray×Int
abbrev I2:=Int×Int
structure Pc where
 name:ByteArray
 ss:List ByteArray
 ms:List I2
structure Fc where
 name:ByteArray
 kind:Int
 lo:Int
 hi:Int
structure Mt where
 id:ByteArray
 o:Int
 cs:List Int
 pr:ByteArray
 st:Int
 mv:List Int
 rs:List Rt
 ls:List Lm
def Mt.zero:Mt:=⟨⟨#[]⟩,0,[],⟨#[]⟩,0,[],[],[]⟩
def nameB (s:ByteArray):Bool:=nmB s.data.toList
section
variable {α κ : Type} {key : α → κ} {good : α → Bool} {l : List α}
def difTo (key:α→κ) (good:α→Bool) (l:List α) (k:Nat):Prop:=(l.take k).all good=true∧((l.take k).map key).Nodup
theorem difTo_zero:difTo key good l 0:=⟨rfl,by simp⟩
theorem take_snoc' {k:Nat} {x:α} (h:l[k]? = some x):l.take (k+1)=l.take k++[x]:=by
 obtain ⟨hk,hx⟩:=List.getElem?_eq_some_iff.1 h;rw [List.take_succ_eq_append_getElem hk,hx]
theorem difTo_next {k:Nat} {x:α} (h:difTo key good l k) (hx:l[k]? = some x) (hg:good x=true) (hn:key x∉(l.take k).map key):difTo key good l (k+1):=by
 unfold difTo;rw [take_snoc' hx];refine ⟨by rw [List.all_append,h.1];simp [hg],?_⟩;rw [List.map_append,List.nodup_append];refine ⟨h.2,by simp,fun a ha b hb=>?_⟩;have:b=key x:=by simpa using hb
 subst this;rintro rfl;exact hn ha
variable [DecidableEq κ]
def difB (key:α→κ) (good:α→Bool) (l:List α):Bool:=l.all good && (decide ((l.map key).Nodup) && decide (l.length≤60))
theorem difB_iff:difB key good l=true↔(∀ x∈l,good x=true)∧(l.map key).Nodup∧l.length≤60:=by
 unfold difB;simp only [Bool.and_eq_true,decide_eq_true_eq,List.all_eq_true]
theorem difB_bad {k:Nat} {x:α} (hx:l[k]? = some x) (hg:good x=false):difB key good l=false:=by
 have:l.all good=false:=by rw [List.all_eq_false];exact ⟨x,List.mem_of_getElem? hx,by rw [hg];simp⟩
 unfold difB;rw [this,Bool.false_and]
theorem difB_twice {k:Nat} {x:α} (hx:l[k]? = some x) (hn:key x∈(l.take k).map key):difB key good l=false:=by
 have:¬ (l.map key).Nodup:=fun h=>by
  have e:l=(l.take k++[x])++l.drop (k+1):=by rw [← take_snoc' hx,List.take_append_drop]
  rw [e,List.map_append,List.nodup_append] at h;have h2:=h.1;rw [List.map_append,List.nodup_append] at h2;exact h2.2.2 _ hn _ (by simp) rfl
 unfold difB;rw [decide_eq_false this,Bool.false_and,Bool.and_false]
theorem difB_end (h:difTo key good l l.length):difB key good l=decide (l.length≤60):=by
 obtain ⟨h1,h2⟩:=h;rw [List.take_length] at h1 h2;unfold difB;rw [h1,decide_eq_true h2,Bool.true_and,Bool.true_and]
end
def mvB (n:Nat) (m:I2):Bool:=decide (m.1≠m.2∧0≤min m.1 m.2∧max m.1 m.2<(n:Int))
def pcB (p:Pc):Bool:=nameB p.name && (decide (0<p.ss.length) && (difB id nameB p.ss && difB id (mvB p.ss.length) p.ms))
def upB:Int→List Int→Bool
 | _,[]=>true
 | a,x::xs=>decide (a≤x∧x≤1000000) && upB x xs
def rtB (o:Int) (r:Rt):Bool:=nameB r.1 && (decide (o≤r.2) && isB r.2)
def fmB (m:Mt):Bool:=nameB m.id && (nameB m.pr && (isB m.o && (decide (0≤m.st∧m.st<60) && (m.cs.all isB && (decide (m.cs.length≤60) && (upB m.o m.mv && (decide (m.mv.length≤60) && (difB (·.1) (rtB m.o) m.rs && difB (·.id) prB m.ls))))))))
theorem fmB_iff {m:Mt} : fmB m=true↔nameB m.id=true∧nameB m.pr=true∧isB m.o=true∧(0≤m.st∧m.st<60)∧(∀ x∈m.cs,isB x=true)∧m.cs.length≤60∧upB m.o m.mv=true∧m.mv.length≤60∧difB (·.1) (rtB m.o) m.rs=true∧difB (·.id) prB m.ls=true:=by
 unfold fmB;simp only [Bool.and_eq_true,decide_eq_true_eq,List.all_eq_true]
def lastI (o:Int) (l:List Int):Int:=l.getLast?.getD o
def srtB:List Int→Bool
 | []=>true
 | x::xs=>(match xs with | []=>true | y::_=>decide (x≤y)) && srtB xs
theorem upB_srt:∀ (l:List Int) (a:Int),upB a l=true↔srtB l=true∧(l=[]∨(∃ x,l.head? = some x∧a≤x)∧∃ y,l.getLast? = some y∧y≤1000000)
 | [],a=>by simp [upB,srtB]
 | [x],a=>by simp [upB,srtB]
 | x::y::xs,a=>by
  have ih:=upB_srt (y::xs) x;have e1:upB a (x::y::xs)=(decide (a≤x∧x≤1000000) && upB x (y::xs)):=rfl;have e2:srtB (x::y::xs)=(decide (x≤y) && srtB (y::xs)):=rfl
  have up2:srtB (y::xs)=true→∀ z,(y::xs).getLast? = some z→y≤z:=by
   have key:∀ (l:List Int) (u:Int),srtB (u::l)=true→∀ z,(u::l).getLast? = some z→u≤z:=by
    intro l
    induction l with
    | nil=>intro u _ z hz;simp at hz;omega
    | cons v l ih2=>
     intro u hs z hz;have e:srtB (u::v::l)=(decide (u≤v) && srtB (v::l)):=rfl;rw [e,Bool.and_eq_true,decide_eq_true_eq] at hs;have:=ih2 v hs.2 z (by rw [List.getLast?_cons_cons] at hz;exact hz);omega
   exact key xs y
  rw [e1,e2,Bool.and_eq_true,Bool.and_eq_true,decide_eq_true_eq,decide_eq_true_eq,ih];simp only [reduceCtorEq,false_or,List.head?_cons,Option.some.injEq,exists_eq_left',List.getLast?_cons_cons];constructor
  · rintro ⟨⟨h1,h2⟩,h3,h4,z,h5,h6⟩
    exact ⟨⟨h4,h3⟩,h1,z,h5,h6⟩
  · rintro ⟨⟨h4,h3⟩,h1,z,h5,h6⟩
    have:=up2 h3 z h5;exact ⟨⟨h1,by omega⟩,h3,h4,z,h5,h6⟩
theorem upB_app:∀ (l:List Int) (a d:Int),upB a (l++[d])=(upB a l && decide (lastI a l≤d∧d≤1000000))
 | [],a,d=>by simp only [upB,lastI,List.nil_append,List.getLast?_nil,Option.getD_none,Bool.and_true,Bool.true_and];exact decide_eq_decide.2 Iff.rfl
 | x::xs,a,d=>by
  show (decide (a≤x∧x≤1000000) && upB x (xs++[d]))=((decide (a≤x∧x≤1000000) && upB x xs) && _);rw [upB_app xs x d,Bool.and_assoc]
  have:lastI a (x::xs)=lastI x xs:=by
   unfold lastI
   cases xs with
   | nil=>rfl
   | cons y ys=>
    rw [List.getLast?_cons_cons]
    cases h:(y::ys).getLast? with
    | none=>simp at h
    | some z=>rfl
  rw [this]
end Go.Proofs.YtknchlpcpgflkaaGreatDoor

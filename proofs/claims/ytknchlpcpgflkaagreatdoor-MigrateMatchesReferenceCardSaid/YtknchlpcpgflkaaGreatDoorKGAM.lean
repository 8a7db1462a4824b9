import Derived.Test.YtknchlpcpgflkaaGreatDoorKGAL
set_option maxRecDepth 100000
set_option maxHeartbeats 16000000
namespace Go.Proofs.YtknchlpcpgflkaaGreatDoor
open Go.RowKit Go.Shelf
def FcsAt (w:World) (B:Nat) (A:Option Addr) (l:List Fc):Prop:=
 ∀ (i:Nat) (x:Fc),l[i]? = some x→∃ g off,A=some ⟨g,off,none⟩∧g<B∧w.cell? ⟨g,off+i*4,none⟩=some (.string x.name)∧w.cell? ⟨g,off+i*4+1,none⟩=some (.int .i64 x.kind)∧w.cell? ⟨g,off+i*4+2,none⟩=some (.int .i64 x.lo)∧w.cell? ⟨g,off+i*4+3,none⟩=some (.int .i64 x.hi)
theorem FcsAt.below {w w':World} {B:Nat} {A:Option Addr} {l:List Fc} (h:FcsAt w B A l) (hb:Below B w w'):FcsAt w' B A l:=fun i s hi=>by
 obtain ⟨g,off,hA,hg,c0,c1,c2,c3⟩:=h i s hi;exact ⟨g,off,hA,hg,(hb.cell (p:=⟨g,off+i*4,none⟩) hg).trans c0,(hb.cell (p:=⟨g,off+i*4+1,none⟩) hg).trans c1,(hb.cell (p:=⟨g,off+i*4+2,none⟩) hg).trans c2,(hb.cell (p:=⟨g,off+i*4+3,none⟩) hg).trans c3⟩
theorem FcsAt.wide {w:World} {B B':Nat} {A:Option Addr} {l:List Fc} (h:FcsAt w B A l) (hB:B≤B'):FcsAt w B' A l:=fun i s hi=>by
 obtain ⟨g,off,hA,hg,c0⟩:=h i s hi;exact ⟨g,off,hA,by omega,c0⟩
theorem str_no {a b:ByteArray} (h:¬ a=b):(a.toList == b.toList)=false:=by rw [str_beq];exact decide_eq_false h
theorem Tryz.infoRight:(Tryz.prog.info? 56).map (fun i=>(i.zero,i.size,i.bytes))=some (some (.agg #[.string ⟨#[]⟩,.int .i64 0]),2,24):=by kernel_rfl
theorem Tryz.infoInt:(Tryz.prog.info? 3).map (fun i=>(i.zero,i.size,i.bytes))=some (some (Value.int .i64 0),1,8):=by kernel_rfl
def encR2 (s:Rt):List Value:=[.string s.1,.int .i64 s.2]
def rtCells (S:List Rt):List Value:=S.flatMap encR2
theorem rtCells_len (S:List Rt):(rtCells S).length=S.length*2:=by
 induction S with
 | nil=>rfl
 | cons s S ih=>show (encR2 s++rtCells S).length=_;rw [List.length_append,ih];simp [encR2];omega
theorem rtCells_app (J K:List Rt):rtCells (J++K)=rtCells J++rtCells K:=by simp [rtCells]
theorem rtCells_at:∀ (S:List Rt) (i:Nat) (s:Rt),S[i]? = some s→(rtCells S)[i*2]? = some (.string s.1)∧(rtCells S)[i*2+1]? = some (.int .i64 s.2)
 | [],i,s,h=>by simp at h
 | t::S,0,s,h=>by
  have:t=s:=by simpa using h
  subst this;exact ⟨rfl,rfl⟩
 | t::S,i+1,s,h=>by
  have h':S[i]? = some s:=by simpa using h
  obtain ⟨h1,h2⟩:=rtCells_at S i s h';have e1:(i+1)*2=i*2+1+1:=by omega
  refine ⟨?_,?_⟩
  · rw [e1];show (rtCells S)[i*2]? = _;exact h1
  · rw [e1];show (rtCells S)[i*2+1]? = _;exact h2
theorem rtCells_one (S:List Rt):∀ u∈rtCells S,u.oneCell'=true:=by
 intro u hu;obtain ⟨s,_,hs⟩:=List.mem_flatMap.1 hu;simp [encR2] at hs;rcases hs with rfl | rfl <;> rfl
theorem RtsAt.of_row {w:World} {base cap n:Nat} {A:Option Addr} {S:List Rt} (hl:S.length=n) (h:w.ownsRow base 56 2 (.slice A n cap) n (rtCells S)):RtsAt w w.heap.size A S:=by
 intro i s hi;have hil:=(List.getElem?_eq_some_iff.1 hi).1;rcases h.2 with ⟨_,h0⟩ | ⟨g,cap',cur,hv,_,hh,_,_,_,h4⟩
 · omega
 · injection hv with hv _ _
   have at_:∀ j v,(rtCells S)[j]? = some v→w.cell? ⟨g,0+j,none⟩=some v:=fun j v hj=>by
    rw [Nat.zero_add,cell_of_row w g j cur _ _ hh]
    have hj4:j<n*2:=by
     have:=(List.getElem?_eq_some_iff.1 hj).1;rw [rtCells_len,hl] at this;exact this
    have h5:=congrArg (fun l:List Value=>l[j]?) h4;simp only [List.getElem?_take,if_pos hj4] at h5;rw [hj] at h5;simpa using h5
   obtain ⟨q0,q1⟩:=rtCells_at S i s hi;exact ⟨g,0,hv,(Array.getElem?_eq_some_iff.1 hh).1,at_ _ _ q0,at_ _ _ q1⟩
def intCells (S:List Int):List Value:=S.map fun n=>.int .i64 n
theorem intCells_len (S:List Int):(intCells S).length=S.length*1:=by simp [intCells]
theorem intCells_app (J K:List Int):intCells (J++K)=intCells J++intCells K:=by simp [intCells]
theorem intCells_one (S:List Int):∀ u∈intCells S,u.oneCell'=true:=by
 intro u hu;obtain ⟨s,_,rfl⟩:=List.mem_map.1 hu;rfl
theorem intCells_news {w:World} {B:Nat} {A:Option Addr} {S:List Int} (h:IntsAt w B A S):∀ j u,(intCells S)[j]? = some u→∃ ad,A=some ad∧w.cell? (ad.add j)=some u:=fun j u hj=>by
 unfold intCells at hj;rw [List.getElem?_map] at hj;obtain ⟨v,hv,rfl⟩:=Option.map_eq_some_iff.1 hj;obtain ⟨g,off,hA,_,c0⟩:=h j v hv;refine ⟨_,hA,?_⟩;have hadd:(⟨g,off,none⟩:Addr).add j=⟨g,off+j,none⟩:=by unfold Addr.add;split <;> simp_all
 rw [hadd];exact c0
theorem IntsAt.of_row {w:World} {base cap n:Nat} {A:Option Addr} {S:List Int} (hl:S.length=n) (h:w.ownsRow base 3 1 (.slice A n cap) n (intCells S)):IntsAt w w.heap.size A S:=by
 intro i s hi;have hil:=(List.getElem?_eq_some_iff.1 hi).1;rcases h.2 with ⟨_,h0⟩ | ⟨g,cap',cur,hv,_,hh,_,_,_,h4⟩
 · omega
 · injection hv with hv _ _
   have at_:∀ j v,(intCells S)[j]? = some v→w.cell? ⟨g,0+j,none⟩=some v:=fun j v hj=>by
    rw [Nat.zero_add,cell_of_row w g j cur _ _ hh]
    have hj4:j<n*1:=by
     have:=(List.getElem?_eq_some_iff.1 hj).1;rw [intCells_len,hl] at this;exact this
    have h5:=congrArg (fun l:List Value=>l[j]?) h4;simp only [List.getElem?_take,if_pos hj4] at h5;rw [hj] at h5;simpa using h5
   exact ⟨g,0,hv,(Array.getElem?_eq_some_iff.1 hh).1,at_ _ _ (by unfold intCells;rw [List.getElem?_map,hi];rfl)⟩
def ClonePostI (w:World) (S:List Int) (e:Ending) (w':World):Prop:=
 ∃ A' c',e = .returned (.slice A' S.length c')∧w'.ownsRow w.heap.size 3 1 (.slice A' S.length c') S.length (intCells S)∧Below w.heap.size w w'
theorem cloneI_any (w:World) (B:Nat) (A:Option Addr) (S:List Int) (c:Nat) (h:IntsAt w B A S) (hB:B≤w.heap.size) (hl:S.length≤1000000) :
 Calls Tryz.prog 58 #[.slice A S.length c] w (ClonePostI w S):=by
 obtain ⟨i0,hi0,hz0,hz1,hz2⟩:=info_parts Tryz.infoInt;have hw0:w.ownsRow w.heap.size 3 1 (.slice none 0 0) 0 []:=World.ownsRow_nil _ _ _ _
 cases A with
 | none=>
  have hS:S=[]:=by
   match S,h with
   | [],_=>rfl
   | s::S,h=>obtain ⟨_,_,hA,_⟩:=h 0 s rfl;cases hA
  subst hS;clear h hl;have hnil:=fun (W:World) (n c:Nat)=>Lib.run_eql_slice_nil (P:=Tryz.prog) W 22 3 none n c 0 0 Tryz.underlying22;go_enter Tryz.func58,Tryz.ntmps58
  go_wp2
  go_ret
  exact ⟨none,0,rfl,hw0,Below.refl _ _⟩
 | some ad=>
  have own:=World.ownsRow_lit (base:=w.heap.size) (e:=3) (size:=1) w #[] 0 (Nat.le_refl _) (by unfold maxLen;omega) rfl;have hst:=h.below ((Below.refl B w).alloc hB (.cells #[] 3));have hbb:=(Below.refl w.heap.size w).alloc (Nat.le_refl _) (.cells #[] 3);clear hw0 h;have hnil:=fun (W:World) (n c:Nat)=>Lib.run_eql_slice_nil (P:=Tryz.prog) W 22 3 (some ad) n c 0 0 Tryz.underlying22;go_enter Tryz.func58,Tryz.ntmps58
  go_wp2_with (at_builtin;refine wpList_append_any rfl _ _ 22 rfl w.heap.size 3 i0 _ 1 8 Tryz.underlying22 hi0 hz0 hz1 hz2 rfl (by omega) (.slice (some ⟨w.heap.size,0,none⟩) 0 0) 0 [] rfl own (some ad) S.length c (intCells S) rfl (intCells_len S) (intCells_news hst) (intCells_one S) (by unfold maxLen;omega) (by omega) (by simp) ?_;intro v4 w1 own4 gr4 l4)
  simp only [Nat.zero_add,List.nil_append] at own4;have hb4:=hbb.grown gr4 (by simp) (fun x hx=>(own.lt x hx).1)
  have hv:∃ A' c',v4 = .slice A' S.length c':=by
   rcases own4.2 with ⟨hv,h0⟩ | ⟨g,cap,cur,hv,_⟩
   · exact ⟨none,0,by rw [hv,h0]⟩
   · exact ⟨_,_,hv⟩
  obtain ⟨A',c',rfl⟩:=hv;clear own hst hbb gr4 l4;go_wp2
  go_ret
  exact ⟨A',c',rfl,own4,hb4⟩
def xz:MtX:=⟨none,0,none,0,none,0,none,0,[]⟩
theorem mt_zero (w:World) (B:Nat):MtAt w B Mt.zero xz:=⟨fun i v h=>by simp [Mt.zero] at h,fun i v h=>by simp [Mt.zero] at h,RtsAt.nil _ _ _,LmsAt.nil _ _ _,rfl,by decide,by decide,fun r h=>by simp [Mt.zero] at h⟩
theorem one8 {a f:ByteArray} {b g:Int} {A1 A2 A3 A4:Option Addr} {n1 n2 n3 n4 c1 c2 c3 c4:Nat} : (#[.string a,.int .i64 b,.slice A1 n1 c1,.string f,.int .i64 g,.slice A2 n2 c2,.slice A3 n3 c3,.slice A4 n4 c4]:Array Value).all (·.oneCell')=true:=by simp [Value.oneCell']
theorem wp_row {ops:Array Oper} {rest:List Oper} {o:Oper} {a:Act} {W:World} {Q:Exit→Act→World→Prop} (hgd:o.guard=none) (x y:Operand) (ho:o.op = .store 27 x y) (g:Nat) (C:Array Value)
 (hx:a.eval x = .pointer (some ⟨g,0,none⟩)) (hy:a.eval y = .agg C) (hC:C.size=8) (h1:C.all (·.oneCell')=true) {old:Array Value} (hold:old.size=8) (hb:Blk W g 27 old)
 (h:wpList Tryz.prog ops Q rest (a.put o.dst undef) (W.setRow g C)):wpList Tryz.prog ops Q (o::rest) a W:=
 wpList_store_row hgd 27 x y ho g C hx hy 27 old hb (by rw [hC];kernel_rfl) (by rw [hC,hold]) h1 h
def MtPost (w:World) (E:Int) (m:Mt) (e:Ending) (w':World):Prop:=∃ x,e = .returned (.tuple #[.agg (mtC m x),.int .i64 E])∧MtAt w' w'.heap.size m x∧Below w.heap.size w w'
theorem mt_err {w w':World} {E:Int} (h:Below w.heap.size w w'):MtPost w E Mt.zero (.returned (.tuple #[.agg (mtC Mt.zero xz),.int .i64 E])) w':=⟨xz,rfl,mt_zero _ _,h⟩
theorem row_load {W:World} {g:Nat} {old:Array Value} (h:Blk W g 27 old) (cells:Array Value) (hs:cells.size=8) :
 (loadVar 27 ⟨g,0,none⟩).run Tryz.prog (W.setRow g cells) = .ok (.agg cells) (W.setRow g cells):=
 run_loadVar_row (P:=Tryz.prog) _ g 27 27 cells (0,0) _ (setRow_heap W g old cells _ _ h) Tryz.underlying27 rfl (by rw [hs];kernel_rfl)
theorem below_row {B g:Nat} {w W:World} (h:Below B w W) (hg:B≤g) (cells:Array Value):Below B w (W.setRow g cells):=
 ⟨h.os,h.tape,h.output,by rw [size_setRow];exact h.size,fun i hi=>(setRow_other W g i cells (by omega)).trans (h.block i hi)⟩
section
variable {m : Mt} {n : ByteArray} {day : Int}
end
end Go.Proofs.YtknchlpcpgflkaaGreatDoor

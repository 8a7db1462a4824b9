import Derived.Test.YtknchlpcpgflkaaGreatDoorKGAM
import Derived.Test.YtknchlpcpgflkaaGreatDoorKGAH
import Derived.Test.YtknchlpcpgflkaaGreatDoorKGAO
import Derived.Laws.EntriesVeiled
import Derived.Test.YtknchlpcpgflkaaGreatDoorKGAB
set_option maxRecDepth 100000
set_option maxHeartbeats 16000000
namespace Go.Proofs.YtknchlpcpgflkaaGreatDoor
open Go.RowKit Go.Shelf
theorem Tryz.infoLimit:(Tryz.prog.info? 44).map (fun i=>(i.zero,i.size,i.bytes))=some (some (.agg #[.string ⟨#[]⟩,.int .i64 0,.int .i64 0,.int .i64 0,.slice none 0 0]),5,64):=by kernel_rfl
def encL (x:LmV):List Value:=[.string x.1.id,.int .i64 x.1.n,.int .i64 x.1.u,.int .i64 x.1.f,.slice x.2.1 x.1.S.length x.2.2]
def lmCells (l:List LmV):List Value:=l.flatMap encL
theorem lmCells_len (l:List LmV):(lmCells l).length=l.length*5:=by
 induction l with
 | nil=>rfl
 | cons s l ih=>show (encL s++lmCells l).length=_;rw [List.length_append,ih];simp [encL];omega
theorem lmCells_app (J K:List LmV):lmCells (J++K)=lmCells J++lmCells K:=by simp [lmCells]
theorem lmCells_at:∀ (l:List LmV) (i:Nat) (x:LmV),l[i]? = some x→∀ j v,(encL x)[j]? = some v→(lmCells l)[i*5+j]? = some v
 | [],i,x,h,_,_,_=>by simp at h
 | y::l,0,x,h,j,v,hj=>by
  simp at h;subst h;show (encL y++lmCells l)[0*5+j]? = _;have hl:j<(encL y).length:=(List.getElem?_eq_some_iff.1 hj).1;rw [show 0*5+j=j by omega,List.getElem?_append_left hl];exact hj
 | y::l,i+1,x,h,j,v,hj=>by
  have ih:=lmCells_at l i x (by simpa using h) j v hj;show (encL y++lmCells l)[(i+1)*5+j]? = _;rw [List.getElem?_append_right (by show 5≤_;omega)];have e:(i+1)*5+j - (encL y).length=i*5+j:=by show (i+1)*5+j - 5=_;omega
  rw [e];exact ih
theorem encL_one (x:LmV):∀ u∈encL x,u.oneCell'=true:=by
 intro u hu;simp only [encL,List.mem_cons,List.not_mem_nil,or_false] at hu;rcases hu with rfl | rfl | rfl | rfl | rfl <;> rfl
theorem lmCells_one (l:List LmV):∀ u∈lmCells l,u.oneCell'=true:=by
 intro u hu;obtain ⟨x,_,hx⟩:=List.mem_flatMap.1 hu;exact encL_one x u hx
theorem lmCells_news {w:World} {B:Nat} {A:Option Addr} {l:List LmV} (h:LmsAt w B A l):∀ j u,(lmCells l)[j]? = some u→∃ ad,A=some ad∧w.cell? (ad.add j)=some u:=fun j u hj=>by
 have hjl:j<l.length*5:=by rw [← lmCells_len];exact (List.getElem?_eq_some_iff.1 hj).1
 obtain ⟨x,hx⟩:∃ x,l[j / 5]? = some x:=⟨_,List.getElem?_eq_getElem (by omega)⟩;obtain ⟨g,off,hA,_,c0,c1,c2,c3,c4,-⟩:=h (j / 5) x hx;refine ⟨_,hA,?_⟩;have hadd:(⟨g,off,none⟩:Addr).add j=⟨g,off+j,none⟩:=by unfold Addr.add;split <;> simp_all
 rw [hadd]
 have key:∀ m v,(encL x)[m]? = some v→j=j / 5*5+m→v=u:=fun m v hm he=>by
  have h1:=lmCells_at l (j / 5) x hx m v hm;rw [← he,hj] at h1;injection h1 with h1;exact h1.symm
 have hm:j=j / 5*5+0∨j=j / 5*5+1∨j=j / 5*5+2∨j=j / 5*5+3∨j=j / 5*5+4:=by omega
 rcases hm with e | e | e | e | e
 · rw [← key 0 _ rfl e,show off+j=off+j / 5*5 by omega];exact c0
 · rw [← key 1 _ rfl e,show off+j=off+j / 5*5+1 by omega];exact c1
 · rw [← key 2 _ rfl e,show off+j=off+j / 5*5+2 by omega];exact c2
 · rw [← key 3 _ rfl e,show off+j=off+j / 5*5+3 by omega];exact c3
 · rw [← key 4 _ rfl e,show off+j=off+j / 5*5+4 by omega];exact c4
theorem lmCells_set:∀ (l:List LmV) (i:Nat) (x:LmV),i<l.length→lmCells (l.set i x)=(((((lmCells l).set (i*5) (.string x.1.id)).set (i*5+1) (.int .i64 x.1.n)).set (i*5+2) (.int .i64 x.1.u)).set (i*5+3) (.int .i64 x.1.f)).set (i*5+4) (.slice x.2.1 x.1.S.length x.2.2)
 | [],i,x,h=>by simp at h
 | y::l,0,x,_=>rfl
 | y::l,i+1,x,h=>by
  have ih:=lmCells_set l i x (by simpa using h);have e:∀ m,(i+1)*5+m=i*5+m+1+1+1+1+1:=fun m=>by omega
  have e0:(i+1)*5=i*5+1+1+1+1+1:=by omega
  rw [e,e,e,e,e0];show encL y++lmCells (l.set i x)=_;rw [ih];rfl
theorem LmsAt.of_row2 {W:World} {base cap n:Nat} {A:Option Addr} {l:List LmV} (hl:l.length=n) (h:W.ownsRow base 44 5 (.slice A n cap) n (lmCells l)) (hs:∀ x∈l,LmAt W W.heap.size x.2.1 x.1):LmsAt W W.heap.size A l:=by
 intro i x hi;have hil:=(List.getElem?_eq_some_iff.1 hi).1;rcases h.2 with ⟨_,h0⟩ | ⟨g,cap',cur,hv,_,hh,_,_,_,h4⟩
 · omega
 · injection hv with hv _ _
   have at_:∀ j v,(lmCells l)[j]? = some v→W.cell? ⟨g,0+j,none⟩=some v:=fun j v hj=>by
    rw [Nat.zero_add,cell_of_row W g j cur _ _ hh]
    have hj4:j<n*5:=by
     have:=(List.getElem?_eq_some_iff.1 hj).1;rw [lmCells_len,hl] at this;exact this
    have h5:=congrArg (fun l:List Value=>l[j]?) h4;simp only [List.getElem?_take,hj4,if_true] at h5;rw [hj] at h5;simpa using h5
   have c0:=at_ _ _ (lmCells_at l i x hi 0 _ rfl);have c1:=at_ _ _ (lmCells_at l i x hi 1 _ rfl);have c2:=at_ _ _ (lmCells_at l i x hi 2 _ rfl);have c3:=at_ _ _ (lmCells_at l i x hi 3 _ rfl);have c4:=at_ _ _ (lmCells_at l i x hi 4 _ rfl);have e:∀ m,0+(i*5+m)=0+i*5+m:=fun m=>by omega
   rw [e] at c0 c1 c2 c3 c4;exact ⟨g,0,hv,(Array.getElem?_eq_some_iff.1 hh).1,c0,c1,c2,c3,c4,hs x (List.mem_of_getElem? hi)⟩
theorem rtCells_set:∀ (S:List Rt) (i:Nat) (t:Rt) (v:Int),S[i]? = some t→rtCells (S.set i (t.1,v))=(rtCells S).set (i*2+1) (.int .i64 v)
 | [],i,t,v,h=>by simp at h
 | s::S,0,t,v,h=>by
  have h:s=t:=by simpa using h
  subst h;rfl
 | s::S,i+1,t,v,h=>by
  have ih:=rtCells_set S i t v (by simpa using h);have e:(i+1)*2+1=i*2+1+1+1:=by omega
  rw [e];show encR2 s++rtCells (S.set i (t.1,v))=_;rw [ih];rfl
def ClonePostL (w:World) (S:List LmV) (e:Ending) (w':World):Prop:=
 ∃ A' c',e = .returned (.slice A' S.length c')∧w'.ownsRow w.heap.size 44 5 (.slice A' S.length c') S.length (lmCells S)∧Below w.heap.size w w'
theorem cloneLm_any (w:World) (B:Nat) (A:Option Addr) (S:List LmV) (c:Nat) (h:LmsAt w B A S) (hB:B≤w.heap.size) (hl:S.length≤1000000) :
 Calls Tryz.prog 36 #[.slice A S.length c] w (ClonePostL w S):=by
 obtain ⟨i0,hi0,hz0,hz1,hz2⟩:=info_parts Tryz.infoLimit;have hw0:w.ownsRow w.heap.size 44 5 (.slice none 0 0) 0 []:=World.ownsRow_nil _ _ _ _
 cases A with
 | none=>
  have hS:S=[]:=by
   match S,h with
   | [],_=>rfl
   | s::S,h=>obtain ⟨_,_,hA,_⟩:=h 0 s rfl;cases hA
  subst hS;clear h hl;have hnil:=fun (W:World) (n c:Nat)=>Lib.run_eql_slice_nil (P:=Tryz.prog) W 25 44 none n c 0 0 Tryz.underlying25;go_enter Tryz.func36,Tryz.ntmps36
  go_wp2
  go_ret
  exact ⟨none,0,rfl,hw0,Below.refl _ _⟩
 | some ad=>
  have own:=World.ownsRow_lit (base:=w.heap.size) (e:=44) (size:=5) w #[] 0 (Nat.le_refl _) (by unfold maxLen;omega) rfl;have hst:=h.below ((Below.refl B w).alloc hB (.cells #[] 44));have hbb:=(Below.refl w.heap.size w).alloc (Nat.le_refl _) (.cells #[] 44);clear hw0 h;have hnil:=fun (W:World) (n c:Nat)=>Lib.run_eql_slice_nil (P:=Tryz.prog) W 25 44 (some ad) n c 0 0 Tryz.underlying25;go_enter Tryz.func36,Tryz.ntmps36
  go_wp2_with (at_builtin;refine wpList_append_any rfl _ _ 25 rfl w.heap.size 44 i0 _ 5 64 Tryz.underlying25 hi0 hz0 hz1 hz2 rfl (by omega) (.slice (some ⟨w.heap.size,0,none⟩) 0 0) 0 [] rfl own (some ad) S.length c (lmCells S) rfl (lmCells_len S) (lmCells_news hst) (lmCells_one S) (by unfold maxLen;omega) (by omega) (by simp) ?_;intro v4 w1 own4 gr4 l4)
  simp only [Nat.zero_add,List.nil_append] at own4;have hb4:=hbb.grown gr4 (by simp) (fun x hx=>(own.lt x hx).1)
  have hv:∃ A' c',v4 = .slice A' S.length c':=by
   rcases own4.2 with ⟨hv,h0⟩ | ⟨g,cap,cur,hv,_⟩
   · exact ⟨none,0,by rw [hv,h0]⟩
   · exact ⟨_,_,hv⟩
  obtain ⟨A',c',rfl⟩:=hv;clear own hst hbb gr4 l4;go_wp2
  go_ret
  exact ⟨A',c',rfl,own4,hb4⟩
theorem MapV.len {P:Program} {k e t:TypeId} {w:World} {b:Nat} {L:List (Value×Value)} (h:MapV w b L) (ht:P.underlying t=some (.map k e)) (ty:TypeId):(Builtin.len_ #[t] ty #[.map (some b)]).run P w = .ok (.int .i64 (L.length:Int)) w:=by
 obtain ⟨es,clock,hb,rfl,_⟩:=h;simp [Builtin.len_,run_underlying ht,MapKept.run_getObj_map hb,goInt,Result.andThen]
def newL (l:List ByteArray):List ByteArray:=l.foldl (fun a k=>if k∈a then a else a++[k]) []
theorem newL_snoc (l:List ByteArray) (x:ByteArray):newL (l++[x])=if x∈newL l then newL l else newL l++[x]:=by unfold newL;rw [List.foldl_append];rfl
theorem newL_all:∀ n:Nat,∀ l:List ByteArray,l.length=n→(∀ x,x∈newL l↔x∈l)∧(newL l).length≤l.length∧((newL l).length=l.length↔l.Nodup)
 | 0,l,h=>by
  rw [List.eq_nil_of_length_eq_zero h];exact ⟨fun x=>Iff.rfl,Nat.le_refl _,by simp [newL]⟩
 | n+1,l,h=>by
  have hne:l≠[]:=by rintro rfl;simp at h
  obtain ⟨l',x,rfl⟩:∃ l' x,l=l'++[x]:=⟨l.dropLast,l.getLast hne,(List.dropLast_concat_getLast hne).symm⟩;rw [List.length_append,List.length_singleton] at h;obtain ⟨h1,h2,h3⟩:=newL_all n l' (by omega);rw [newL_snoc]
  have hnd:(l'++[x]).Nodup↔l'.Nodup∧x∉l':=by
   rw [List.nodup_append];constructor
   · rintro ⟨a,-,b⟩
     exact ⟨a,fun hx=>b x hx x (by simp) rfl⟩
   · rintro ⟨a,b⟩
     refine ⟨a,by simp,fun y hy z hz=>?_⟩;have:z=x:=by simpa using hz
     rintro rfl;exact b (this▸hy)
  by_cases hx:x∈newL l'
  · rw [if_pos hx]
    refine ⟨fun y=>?_,by rw [List.length_append];omega,?_⟩
    · rw [h1,List.mem_append]
      refine ⟨.inl,fun h=>h.elim id fun h=>?_⟩;have:y=x:=by simpa using h
      exact this▸(h1 x).1 hx
    · rw [List.length_append,List.length_singleton,hnd]
      constructor
      · intro he;omega
      · rintro ⟨-,hb⟩;exact absurd ((h1 x).1 hx) hb
  · rw [if_neg hx]
    refine ⟨fun y=>?_,by rw [List.length_append,List.length_append];simp only [List.length_singleton];omega,?_⟩
    · rw [List.mem_append,List.mem_append,h1]
    · rw [List.length_append,List.length_append,hnd,← h3]
      simp only [List.length_singleton];constructor
      · intro he;exact ⟨by omega,fun hb=>hx ((h1 x).2 hb)⟩
      · rintro ⟨he,-⟩;omega
theorem newL_iff (l:List ByteArray):(newL l).length=l.length↔l.Nodup:=(newL_all _ l rfl).2.2
theorem newL_take {l:List ByteArray} {k:Nat} {x:ByteArray} (h:l[k]? = some x):newL (l.take (k+1))=if x∈newL (l.take k) then newL (l.take k) else newL (l.take k)++[x]:=by rw [take_snoc' h,newL_snoc]
def kTrue (l:List ByteArray):List (Value×Value):=l.map fun k=>(.string k,.bool true)
theorem kTrue_len (l:List ByteArray):(kTrue l).length=l.length:=by unfold kTrue;rw [List.length_map]
theorem kTrue_G (l:List ByteArray):∀ p∈kTrue l,StrV p.1:=by
 intro p hp;obtain ⟨k,-,rfl⟩:=List.mem_map.1 hp;exact ⟨k,rfl⟩
theorem kTrue_mem {l:List ByteArray} {x:ByteArray} (h:x∈l):((.string x:Value),Value.bool true)∈kTrue l:=List.mem_map.2 ⟨x,h,rfl⟩
theorem kTrue_ne {l:List ByteArray} {x:ByteArray} (h:x∉l):∀ p∈kTrue l,p.1≠.string x:=by
 intro p hp he;obtain ⟨k,hk,rfl⟩:=List.mem_map.1 hp;exact h (Value.string.inj he▸hk)
theorem kTrue_up (l:List ByteArray) (x:ByteArray):(kTrue l).map (upV (.string x) (.bool true))=kTrue l:=by
 unfold kTrue;rw [List.map_map];refine List.map_congr_left fun k _=>?_;show upV (.string x) (.bool true) ((.string k:Value),Value.bool true)=_;by_cases h:(.string k:Value) = .string x
 · rw [upV_pos h,h]
 · rw [upV_neg h]
theorem kTrue_step {w:World} {b:Nat} {l:List ByteArray} {k:Nat} {x:ByteArray} (h:MapV w b (kTrue (newL (l.take k)))) (hx:l[k]? = some x) :
 ∃ w',(Instr.mapUpdate 158 (.map (some b)) (.string x) (.bool true)).run Tryz.prog w = .ok () w'∧MapV w' b (kTrue (newL (l.take (k+1))))∧w.grownBy w' (some b):=by
 rw [newL_take hx];by_cases hm:x∈newL (l.take k)
 · rw [if_pos hm]
   obtain ⟨w',h1,h2,h3⟩:=h.upd_some kysStr Tryz.underlying158 (kTrue_G _) (kTrue_mem hm) (.bool true);rw [kTrue_up] at h2;exact ⟨w',h1,h2,h3⟩
 · rw [if_neg hm]
   obtain ⟨w',h1,h2,h3⟩:=h.upd_none kysStr Tryz.underlying158 (kTrue_G _) ⟨x,rfl⟩ (kTrue_ne hm) (.bool true);refine ⟨w',h1,?_,h3⟩;have:kTrue (newL (l.take k)++[x])=kTrue (newL (l.take k))++[((.string x:Value),Value.bool true)]:=by unfold kTrue;rw [List.map_append];rfl
   rw [this];exact h2
abbrev S2:=ByteArray×ByteArray
def PrsAt (w:World) (B:Nat) (A:Option Addr) (l:List S2):Prop:=
 ∀ (i:Nat) (x:S2),l[i]? = some x→∃ g off,A=some ⟨g,off,none⟩∧g<B∧w.cell? ⟨g,off+i*2,none⟩=some (.string x.1)∧w.cell? ⟨g,off+i*2+1,none⟩=some (.string x.2)
section
variable {w w' : World} {B B' : Nat} {A : Option Addr}
theorem PrsAt.below {l:List S2} (h:PrsAt w B A l) (hb:Below B w w'):PrsAt w' B A l:=fun i s hi=>by
 obtain ⟨g,off,hA,hg,c0,c1⟩:=h i s hi;exact ⟨g,off,hA,hg,(hb.cell (p:=⟨g,off+i*2,none⟩) hg).trans c0,(hb.cell (p:=⟨g,off+i*2+1,none⟩) hg).trans c1⟩
theorem PrsAt.wide {l:List S2} (h:PrsAt w B A l) (hB:B≤B'):PrsAt w B' A l:=fun i s hi=>by
 obtain ⟨g,off,hA,hg,c0⟩:=h i s hi;exact ⟨g,off,hA,by omega,c0⟩
theorem PrsAt.nil (w:World) (B:Nat) (A:Option Addr):PrsAt w B A []:=fun i s hi=>by simp at hi
end
structure MgX where
 a1:Option Addr
 c1:Nat
 a2:Option Addr
 c2:Nat
 a3:Option Addr
 c3:Nat
 tv:List LmV
def mgC (g:Mg) (x:MgX):Array Value:=#[.string g.fr,.string g.tn,.slice x.a1 g.st.length x.c1,.slice x.a2 g.rs.length x.c2,.slice x.a3 g.ts.length x.c3]
structure MgAt (w:World) (B:Nat) (g:Mg) (x:MgX):Prop where
 st:IntsAt w B x.a1 g.st
 rs:PrsAt w B x.a2 g.rs
 ts:LmsAt w B x.a3 x.tv
 tv:x.tv.map (·.1)=g.ts
 fr:g.fr.size≤9223372036854775807
 tn:g.tn.size≤9223372036854775807
 rn:∀ r∈g.rs,r.1.size≤9223372036854775807∧r.2.size≤9223372036854775807
theorem MgAt.below {w w':World} {B:Nat} {g:Mg} {x:MgX} (h:MgAt w B g x) (hb:Below B w w'):MgAt w' B g x:=⟨h.st.below hb,h.rs.below hb,h.ts.below hb,h.tv,h.fr,h.tn,h.rn⟩
theorem MgAt.wide {w:World} {B B':Nat} {g:Mg} {x:MgX} (h:MgAt w B g x) (hB:B≤B'):MgAt w B' g x:=⟨h.st.wide hB,h.rs.wide hB,h.ts.wide hB,h.tv,h.fr,h.tn,h.rn⟩
def SmlG (g:Mg):Prop:=g.st.length≤1000000∧g.rs.length≤1000000∧g.ts.length≤1000000
theorem onceL_any (w:World) (B:Nat) (A:Option Addr) (l:List LmV) (c:Nat) (h:LmsAt w B A l) (hB:B≤w.heap.size) (hl:l.length≤4611686018427387904) (gf:Nat)
 (eg:∀ args w,(callFunc gf args).run Tryz.prog w = .ok (.enter gf args) w)
 (hp:∀ W (x:LmV),Calls Tryz.prog gf #[.agg #[.string x.1.id,.int .i64 x.1.n,.int .i64 x.1.u,.int .i64 x.1.f,.slice x.2.1 x.1.S.length x.2.2]] W fun e w'=>e = .returned (.string x.1.id)∧Below W.heap.size W w') :
 Calls Tryz.prog 60 #[.slice A l.length c,.func (.func gf) #[] #[]] w fun e w'=>e = .returned (.bool (decide ((l.map fun x:LmV=>x.1.id).Nodup)))∧Below w.heap.size w w':=by
 obtain ⟨K,hK⟩:∃ K,(l.map fun x:LmV=>x.1.id)=K:=⟨_,rfl⟩;have hkl:K.length=l.length:=by rw [← hK,List.length_map]
 have hkx:∀ (k:Nat) (x:LmV),l[k]? = some x→K[k]? = some x.1.id:=fun k x hx=>by rw [← hK,List.getElem?_map,hx];rfl
 rw [hK];obtain ⟨r,hr⟩:∃ r,decide K.Nodup=r:=⟨_,rfl⟩;rw [hr];have HR:=hd_ hr;have HP:=hd_ hp;have HH:=hd_ h;have HKL:=hd_ hkl;have HKX:=hd_ hkx;have hb0:=(Below.refl w.heap.size w).alloc (Nat.le_refl _) (.map #[] 0);have hm0:=MapV.made w;have hmm := @run_makeMap Tryz.prog;clear hp h hK hkl hkx hr;go_enter Tryz.func60,Tryz.ntmps60
 go_wp2_with fail
 go_loopw [11] (fun i wr=>∃ k:Nat,k≤l.length∧i = .int .i64 (k:Int)∧Hid (MapV wr w.heap.size (kTrue (newL (K.take k))))∧Below w.heap.size w wr) (fun i _=>l.length - (intOf i).toNat)
 case atStart=>exact ⟨0,Nat.zero_le _,rfl,hd_ hm0,hb0⟩
 case round=>
  clear hb0 hm0 hmm;obtain ⟨k,hk,rfl,HM,hb⟩:=hrel;by_cases hlt:k<l.length
  · obtain ⟨x,hx⟩:∃ x,l[k]? = some x:=⟨_,List.getElem?_eq_getElem hlt⟩
    obtain ⟨g,off,hA,hg,c0,c1,c2,c3,c4,-⟩:=(HH.out.below (hb.mono hB)) k x hx;subst hA;have HX:=hd_ (HKX.out k x hx);clear hx;have b0:Below w.heap.size w (wr.alloc (.cells #[.string x.1.id,.int .i64 x.1.n,.int .i64 x.1.u,.int .i64 x.1.f,.slice x.2.1 x.1.S.length x.2.2] 44)):=hb.alloc hb.size _;have kx:=Blk.new wr 44 #[.string x.1.id,.int .i64 x.1.n,.int .i64 x.1.u,.int .i64 x.1.f,.slice x.2.1 x.1.S.length x.2.2];obtain ⟨t0,t1,t2⟩:=kx.all;have KX:=hd_ kx;have m0:MapV (wr.alloc (.cells #[.string x.1.id,.int .i64 x.1.n,.int .i64 x.1.u,.int .i64 x.1.f,.slice x.2.1 x.1.S.length x.2.2] 44)) w.heap.size (kTrue (newL (K.take k))):=HM.out.alloc _;have M0:=hd_ m0;have B0:=hd_ b0;clear m0 b0 hb HM kx;go_wp2_with fail
    refine (HP.out _ x).mono ?_;rintro e w2 ⟨rfl,b2⟩;have B2:=hd_ (B0.out.trans (b2.mono B0.out.size));have M2:=hd_ (M0.out.below b2 M0.out.lt);clear b2 t0 t1 t2 KX;obtain ⟨w3,hu,hm3,hg3⟩:=kTrue_step M2.out HX.out;have hb3:=B2.out.grown hg3 B2.out.size (fun j e=>by injection e with e;omega);have HM3:=hd_ hm3;clear hm3 hg3;go_wp2
    go_roundw
    case rel=>exact ⟨k+1,by omega,by go_num,HM3,hb3⟩
    case measure=>simp [intOf];omega
  · obtain rfl:k=l.length:=by omega
    have hlen:=fun ty=>HM.out.len Tryz.underlying158 ty;rw [kTrue_len,← HKL.out,List.take_length] at hlen;obtain ⟨n,hn⟩:∃ n,(newL K).length=n:=⟨_,rfl⟩;rw [hn] at hlen
    have hdd:((n:Int) == (l.length:Int))=decide K.Nodup:=by
     rw [← hn,← HKL.out];have h1:=newL_iff K;by_cases h2:K.Nodup
     · have h3:=h1.2 h2
       rw [decide_eq_true h2];exact beq_iff_eq.2 (by omega)
     · rw [decide_eq_false h2]
       exact beq_eq_false_iff_ne.2 fun h3=>h2 (h1.1 (by omega))
    rw [HR.out] at hdd;have HDD:=hd_ hdd;clear hn HM HKL HKX HP HH HR hdd;go_wp2
    go_ret
    exact ⟨congrArg (fun b=>Ending.returned (.bool b)) HDD.out,hb⟩
theorem onceP_any (w:World) (B:Nat) (A:Option Addr) (l:List S2) (c:Nat) (h:PrsAt w B A l) (hB:B≤w.heap.size) (hl:l.length≤4611686018427387904) (gf:Nat)
 (eg:∀ args w,(callFunc gf args).run Tryz.prog w = .ok (.enter gf args) w)
 (hp:∀ W (x:S2),Calls Tryz.prog gf #[.agg #[.string x.1,.string x.2]] W fun e w'=>e = .returned (.string x.1)∧Below W.heap.size W w') :
 Calls Tryz.prog 107 #[.slice A l.length c,.func (.func gf) #[] #[]] w fun e w'=>e = .returned (.bool (decide ((l.map fun x:S2=>x.1).Nodup)))∧Below w.heap.size w w':=by
 obtain ⟨K,hK⟩:∃ K,(l.map fun x:S2=>x.1)=K:=⟨_,rfl⟩;have hkl:K.length=l.length:=by rw [← hK,List.length_map]
 have hkx:∀ (k:Nat) (x:S2),l[k]? = some x→K[k]? = some x.1:=fun k x hx=>by rw [← hK,List.getElem?_map,hx];rfl
 rw [hK];obtain ⟨r,hr⟩:∃ r,decide K.Nodup=r:=⟨_,rfl⟩;rw [hr];have HR:=hd_ hr;have HP:=hd_ hp;have HH:=hd_ h;have HKL:=hd_ hkl;have HKX:=hd_ hkx;have hb0:=(Below.refl w.heap.size w).alloc (Nat.le_refl _) (.map #[] 0);have hm0:=MapV.made w;have hmm := @run_makeMap Tryz.prog;clear hp h hK hkl hkx hr;go_enter Tryz.func107,Tryz.ntmps107
 go_wp2_with fail
 go_loopw [11] (fun i wr=>∃ k:Nat,k≤l.length∧i = .int .i64 (k:Int)∧Hid (MapV wr w.heap.size (kTrue (newL (K.take k))))∧Below w.heap.size w wr) (fun i _=>l.length - (intOf i).toNat)
 case atStart=>exact ⟨0,Nat.zero_le _,rfl,hd_ hm0,hb0⟩
 case round=>
  clear hb0 hm0 hmm;obtain ⟨k,hk,rfl,HM,hb⟩:=hrel;by_cases hlt:k<l.length
  · obtain ⟨x,hx⟩:∃ x,l[k]? = some x:=⟨_,List.getElem?_eq_getElem hlt⟩
    obtain ⟨g,off,hA,hg,c0,c1⟩:=(HH.out.below (hb.mono hB)) k x hx;subst hA;have HX:=hd_ (HKX.out k x hx);clear hx;have b0:Below w.heap.size w (wr.alloc (.cells #[.string x.1,.string x.2] 75)):=hb.alloc hb.size _;have kx:=Blk.new wr 75 #[.string x.1,.string x.2];obtain ⟨t0,t1,t2⟩:=kx.all;have KX:=hd_ kx;have m0:MapV (wr.alloc (.cells #[.string x.1,.string x.2] 75)) w.heap.size (kTrue (newL (K.take k))):=HM.out.alloc _;have M0:=hd_ m0;have B0:=hd_ b0;clear m0 b0 hb HM kx;go_wp2_with fail
    refine (HP.out _ x).mono ?_;rintro e w2 ⟨rfl,b2⟩;have B2:=hd_ (B0.out.trans (b2.mono B0.out.size));have M2:=hd_ (M0.out.below b2 M0.out.lt);clear b2 t0 t1 t2 KX;obtain ⟨w3,hu,hm3,hg3⟩:=kTrue_step M2.out HX.out;have hb3:=B2.out.grown hg3 B2.out.size (fun j e=>by injection e with e;omega);have HM3:=hd_ hm3;clear hm3 hg3;go_wp2
    go_roundw
    case rel=>exact ⟨k+1,by omega,by go_num,HM3,hb3⟩
    case measure=>simp [intOf];omega
  · obtain rfl:k=l.length:=by omega
    have hlen:=fun ty=>HM.out.len Tryz.underlying158 ty;rw [kTrue_len,← HKL.out,List.take_length] at hlen;obtain ⟨n,hn⟩:∃ n,(newL K).length=n:=⟨_,rfl⟩;rw [hn] at hlen
    have hdd:((n:Int) == (l.length:Int))=decide K.Nodup:=by
     rw [← hn,← HKL.out];have h1:=newL_iff K;by_cases h2:K.Nodup
     · have h3:=h1.2 h2
       rw [decide_eq_true h2];exact beq_iff_eq.2 (by omega)
     · rw [decide_eq_false h2]
       exact beq_eq_false_iff_ne.2 fun h3=>h2 (h1.1 (by omega))
    rw [HR.out] at hdd;have HDD:=hd_ hdd;clear hn HM HKL HKX HP HH HR hdd;go_wp2
    go_ret
    exact ⟨congrArg (fun b=>Ending.returned (.bool b)) HDD.out,hb⟩
theorem key4_any (w:World) (x:S2):Calls Tryz.prog 108 #[.agg #[.string x.1,.string x.2]] w fun e w'=>e = .returned (.string x.1)∧Below w.heap.size w w':=by
 have hb:=(Below.refl w.heap.size w).alloc (Nat.le_refl _) (.cells #[.string x.1,.string x.2] 75);obtain ⟨t0,t1,t2⟩:=(Blk.new w 75 #[.string x.1,.string x.2]).all;go_enter Tryz.func108,Tryz.ntmps108
 go_wp2
 go_ret
 exact ⟨rfl,hb⟩
theorem key5_any (w:World) (x:LmV):Calls Tryz.prog 109 #[.agg #[.string x.1.id,.int .i64 x.1.n,.int .i64 x.1.u,.int .i64 x.1.f,.slice x.2.1 x.1.S.length x.2.2]] w fun e w'=>e = .returned (.string x.1.id)∧Below w.heap.size w w':=by
 have hb:=(Below.refl w.heap.size w).alloc (Nat.le_refl _) (.cells #[.string x.1.id,.int .i64 x.1.n,.int .i64 x.1.u,.int .i64 x.1.f,.slice x.2.1 x.1.S.length x.2.2] 44);obtain ⟨t0,t1,t2⟩:=(Blk.new w 44 #[.string x.1.id,.int .i64 x.1.n,.int .i64 x.1.u,.int .i64 x.1.f,.slice x.2.1 x.1.S.length x.2.2]).all;go_enter Tryz.func109,Tryz.ntmps109
 go_wp2
 go_ret
 exact ⟨rfl,hb⟩
theorem keyT_any (w:World) (x:LmV):Calls Tryz.prog 61 #[.agg #[.string x.1.id,.int .i64 x.1.n,.int .i64 x.1.u,.int .i64 x.1.f,.slice x.2.1 x.1.S.length x.2.2]] w fun e w'=>e = .returned (.string x.1.id)∧Below w.heap.size w w':=by
 have hb:=(Below.refl w.heap.size w).alloc (Nat.le_refl _) (.cells #[.string x.1.id,.int .i64 x.1.n,.int .i64 x.1.u,.int .i64 x.1.f,.slice x.2.1 x.1.S.length x.2.2] 44);obtain ⟨t0,t1,t2⟩:=(Blk.new w 44 #[.string x.1.id,.int .i64 x.1.n,.int .i64 x.1.u,.int .i64 x.1.f,.slice x.2.1 x.1.S.length x.2.2]).all;go_enter Tryz.func61,Tryz.ntmps61
 go_wp2
 go_ret
 exact ⟨rfl,hb⟩
theorem idx_at {α:Type} {p:α→Bool} {S:List α} {k:Nat} {s:α} (h:S[k]? = some s) (hp:p s=true):S.any p=true:=List.any_eq_true.2 ⟨s,List.mem_of_getElem? h,hp⟩
theorem indexZ_any (w:World) (B:Nat) (A:Option Addr) (S:List Int) (c:Nat) (h:IntsAt w B A S) (hB:B≤w.heap.size) (hl:S.length≤4611686018427387904) (p:Int→Bool) (g:Nat) (lb:Array Value)
 (eg:∀ args w,(callFunc g args).run Tryz.prog w = .ok (.enter g args) w)
 (hp:∀ W s,s∈S→Below w.heap.size w W→Calls Tryz.prog g (#[.int .i64 s]++lb) W fun e w'=>e = .returned (.bool (p s))∧Below W.heap.size W w') :
 Calls Tryz.prog 143 #[.slice A S.length c,.func (.func g) #[] lb] w fun e w'=>∃ n:Int,e = .returned (.int .i64 n)∧(S.any p=true→0≤n)∧(S.any p=false→n<0)∧Below w.heap.size w w':=by
 have HP:=hd_ hp;clear hp;go_enter Tryz.func143,Tryz.ntmps143
 go_wp2_with fail
 go_loopw [8] (fun i wr=>∃ k:Nat,k≤S.length∧i = .int .i64 (k:Int)∧Hid ((S.take k).any p=false)∧Below w.heap.size w wr) (fun i _=>S.length - (intOf i).toNat)
 case atStart=>exact ⟨0,Nat.zero_le _,rfl,hd_ rfl,Below.refl _ _⟩
 case round=>
  obtain ⟨k,hk,rfl,hn,hb⟩:=hrel;by_cases hlt:k<S.length
  · obtain ⟨s,hs⟩:∃ s,S[k]? = some s:=⟨_,List.getElem?_eq_getElem hlt⟩
    obtain ⟨gb,off,hA,hg,c0⟩:=h.below (hb.mono hB) k s hs;subst hA;have HC:=HP.out wr s (List.mem_of_getElem? hs) hb;have HS:=hd_ hs;have HCC:=hd_ HC;clear hs HC;go_wp2_with fail
    cases hps:p s with
    | true=>
     have hcl:=HCC.out;rw [hps] at hcl;have hany:=hd_ (idx_at HS.out hps);clear hps HCC;refine hcl.mono ?_;rintro e w1 ⟨rfl,b1⟩;replace hb:=hb.trans (b1.mono hb.size);clear b1 hcl;go_wp2
     go_ret
     exact ⟨_,rfl,fun _=>by omega,fun h0=>by rw [hany.out] at h0;(cases h0),hb⟩
    | false=>
     have hcl:=HCC.out;rw [hps] at hcl
     have hnx:(S.take (k+1)).any p=false:=by
      obtain ⟨h1,h2⟩:=List.getElem?_eq_some_iff.1 HS.out;rw [List.take_succ_eq_append_getElem h1,h2,List.any_append,hn.out];simp [hps]
     have HN:=hd_ hnx;clear hps HCC hnx;refine hcl.mono ?_;rintro e w1 ⟨rfl,b1⟩;replace hb:=hb.trans (b1.mono hb.size);clear b1 hcl;go_wp2
     go_roundw
     case rel=>exact ⟨k+1,by omega,by go_num,HN,hb⟩
     case measure=>simp [intOf];omega
  · obtain rfl:k=S.length:=by omega
    have hno:=hn.out;rw [List.take_length] at hno;have HN:=hd_ hno;clear hno hn;go_wp2
    go_ret
    exact ⟨_,rfl,fun h0=>by rw [HN.out] at h0;(cases h0),fun _=>by omega,hb⟩
theorem containsZ_any (w:World) (B:Nat) (A:Option Addr) (S:List Int) (c:Nat) (h:IntsAt w B A S) (hB:B≤w.heap.size) (hl:S.length≤4611686018427387904) (p:Int→Bool) (g:Nat) (lb:Array Value)
 (eg:∀ args w,(callFunc g args).run Tryz.prog w = .ok (.enter g args) w)
 (hp:∀ W s,s∈S→Below w.heap.size w W→Calls Tryz.prog g (#[.int .i64 s]++lb) W fun e w'=>e = .returned (.bool (p s))∧Below W.heap.size W w') :
 Calls Tryz.prog 104 #[.slice A S.length c,.func (.func g) #[] lb] w fun e w'=>e = .returned (.bool (S.any p))∧Below w.heap.size w w':=by
 have hi:=indexZ_any w B A S c h hB hl p g lb eg hp;clear h hp eg;generalize S.any p=r at *;have HI:=hd_ hi;clear hi
 cases r with
 | true=>
  go_enter Tryz.func104,Tryz.ntmps104
  go_wp2_with fail
  refine HI.out.mono ?_;rintro e w1 ⟨n,rfl,h1,-,hb⟩;have hn:=h1 trivial;clear h1 HI;go_wp2
  go_ret
  exact ⟨rfl,hb⟩
 | false=>
  go_enter Tryz.func104,Tryz.ntmps104
  go_wp2_with fail
  refine HI.out.mono ?_;rintro e w1 ⟨n,rfl,-,h2,hb⟩;have hn:=h2 trivial;have d0:decide (0≤n)=false:=by simp;omega
  clear h2 HI;go_wp2
  go_ret
  exact ⟨rfl,hb⟩
theorem indexP_any (w:World) (B:Nat) (A:Option Addr) (S:List S2) (c:Nat) (h:PrsAt w B A S) (hB:B≤w.heap.size) (hl:S.length≤4611686018427387904) (p:S2→Bool) (g:Nat) (lb:Array Value)
 (eg:∀ args w,(callFunc g args).run Tryz.prog w = .ok (.enter g args) w)
 (hp:∀ W s,s∈S→Below w.heap.size w W→Calls Tryz.prog g (#[.agg #[.string s.1,.string s.2]]++lb) W fun e w'=>e = .returned (.bool (p s))∧Below W.heap.size W w') :
 Calls Tryz.prog 144 #[.slice A S.length c,.func (.func g) #[] lb] w fun e w'=>∃ n:Int,e = .returned (.int .i64 n)∧(S.any p=true→0≤n)∧(S.any p=false→n<0)∧Below w.heap.size w w':=by
 have HP:=hd_ hp;clear hp;go_enter Tryz.func144,Tryz.ntmps144
 go_wp2_with fail
 go_loopw [8] (fun i wr=>∃ k:Nat,k≤S.length∧i = .int .i64 (k:Int)∧Hid ((S.take k).any p=false)∧Below w.heap.size w wr) (fun i _=>S.length - (intOf i).toNat)
 case atStart=>exact ⟨0,Nat.zero_le _,rfl,hd_ rfl,Below.refl _ _⟩
 case round=>
  obtain ⟨k,hk,rfl,hn,hb⟩:=hrel;by_cases hlt:k<S.length
  · obtain ⟨s,hs⟩:∃ s,S[k]? = some s:=⟨_,List.getElem?_eq_getElem hlt⟩
    obtain ⟨gb,off,hA,hg,c0,c1⟩:=h.below (hb.mono hB) k s hs;subst hA;have HC:=HP.out wr s (List.mem_of_getElem? hs) hb;have HS:=hd_ hs;have HCC:=hd_ HC;clear hs HC;go_wp2_with fail
    cases hps:p s with
    | true=>
     have hcl:=HCC.out;rw [hps] at hcl;have hany:=hd_ (idx_at HS.out hps);clear hps HCC;refine hcl.mono ?_;rintro e w1 ⟨rfl,b1⟩;replace hb:=hb.trans (b1.mono hb.size);clear b1 hcl;go_wp2
     go_ret
     exact ⟨_,rfl,fun _=>by omega,fun h0=>by rw [hany.out] at h0;(cases h0),hb⟩
    | false=>
     have hcl:=HCC.out;rw [hps] at hcl
     have hnx:(S.take (k+1)).any p=false:=by
      obtain ⟨h1,h2⟩:=List.getElem?_eq_some_iff.1 HS.out;rw [List.take_succ_eq_append_getElem h1,h2,List.any_append,hn.out];simp [hps]
     have HN:=hd_ hnx;clear hps HCC hnx;refine hcl.mono ?_;rintro e w1 ⟨rfl,b1⟩;replace hb:=hb.trans (b1.mono hb.size);clear b1 hcl;go_wp2
     go_roundw
     case rel=>exact ⟨k+1,by omega,by go_num,HN,hb⟩
     case measure=>simp [intOf];omega
  · obtain rfl:k=S.length:=by omega
    have hno:=hn.out;rw [List.take_length] at hno;have HN:=hd_ hno;clear hno hn;go_wp2
    go_ret
    exact ⟨_,rfl,fun h0=>by rw [HN.out] at h0;(cases h0),fun _=>by omega,hb⟩
theorem containsP_any (w:World) (B:Nat) (A:Option Addr) (S:List S2) (c:Nat) (h:PrsAt w B A S) (hB:B≤w.heap.size) (hl:S.length≤4611686018427387904) (p:S2→Bool) (g:Nat) (lb:Array Value)
 (eg:∀ args w,(callFunc g args).run Tryz.prog w = .ok (.enter g args) w)
 (hp:∀ W s,s∈S→Below w.heap.size w W→Calls Tryz.prog g (#[.agg #[.string s.1,.string s.2]]++lb) W fun e w'=>e = .returned (.bool (p s))∧Below W.heap.size W w') :
 Calls Tryz.prog 105 #[.slice A S.length c,.func (.func g) #[] lb] w fun e w'=>e = .returned (.bool (S.any p))∧Below w.heap.size w w':=by
 have hi:=indexP_any w B A S c h hB hl p g lb eg hp;clear h hp eg;generalize S.any p=r at *;have HI:=hd_ hi;clear hi
 cases r with
 | true=>
  go_enter Tryz.func105,Tryz.ntmps105
  go_wp2_with fail
  refine HI.out.mono ?_;rintro e w1 ⟨n,rfl,h1,-,hb⟩;have hn:=h1 trivial;clear h1 HI;go_wp2
  go_ret
  exact ⟨rfl,hb⟩
 | false=>
  go_enter Tryz.func105,Tryz.ntmps105
  go_wp2_with fail
  refine HI.out.mono ?_;rintro e w1 ⟨n,rfl,-,h2,hb⟩;have hn:=h2 trivial;have d0:decide (0≤n)=false:=by simp;omega
  clear h2 HI;go_wp2
  go_ret
  exact ⟨rfl,hb⟩
theorem indexL_any (w:World) (B:Nat) (A:Option Addr) (S:List LmV) (c:Nat) (h:LmsAt w B A S) (hB:B≤w.heap.size) (hl:S.length≤4611686018427387904) (p:LmV→Bool) (g:Nat) (lb:Array Value)
 (eg:∀ args w,(callFunc g args).run Tryz.prog w = .ok (.enter g args) w)
 (hp:∀ W s,s∈S→Below w.heap.size w W→Calls Tryz.prog g (#[.agg #[.string s.1.id,.int .i64 s.1.n,.int .i64 s.1.u,.int .i64 s.1.f,.slice s.2.1 s.1.S.length s.2.2]]++lb) W fun e w'=>e = .returned (.bool (p s))∧Below W.heap.size W w') :
 Calls Tryz.prog 145 #[.slice A S.length c,.func (.func g) #[] lb] w fun e w'=>∃ n:Int,e = .returned (.int .i64 n)∧(S.any p=true→0≤n)∧(S.any p=false→n<0)∧Below w.heap.size w w':=by
 have HP:=hd_ hp;clear hp;go_enter Tryz.func145,Tryz.ntmps145
 go_wp2_with fail
 go_loopw [8] (fun i wr=>∃ k:Nat,k≤S.length∧i = .int .i64 (k:Int)∧Hid ((S.take k).any p=false)∧Below w.heap.size w wr) (fun i _=>S.length - (intOf i).toNat)
 case atStart=>exact ⟨0,Nat.zero_le _,rfl,hd_ rfl,Below.refl _ _⟩
 case round=>
  obtain ⟨k,hk,rfl,hn,hb⟩:=hrel;by_cases hlt:k<S.length
  · obtain ⟨s,hs⟩:∃ s,S[k]? = some s:=⟨_,List.getElem?_eq_getElem hlt⟩
    obtain ⟨gb,off,hA,hg,c0,c1,c2,c3,c4,-⟩:=h.below (hb.mono hB) k s hs;subst hA;have HC:=HP.out wr s (List.mem_of_getElem? hs) hb;have HS:=hd_ hs;have HCC:=hd_ HC;clear hs HC;go_wp2_with fail
    cases hps:p s with
    | true=>
     have hcl:=HCC.out;rw [hps] at hcl;have hany:=hd_ (idx_at HS.out hps);clear hps HCC;refine hcl.mono ?_;rintro e w1 ⟨rfl,b1⟩;replace hb:=hb.trans (b1.mono hb.size);clear b1 hcl;go_wp2
     go_ret
     exact ⟨_,rfl,fun _=>by omega,fun h0=>by rw [hany.out] at h0;(cases h0),hb⟩
    | false=>
     have hcl:=HCC.out;rw [hps] at hcl
     have hnx:(S.take (k+1)).any p=false:=by
      obtain ⟨h1,h2⟩:=List.getElem?_eq_some_iff.1 HS.out;rw [List.take_succ_eq_append_getElem h1,h2,List.any_append,hn.out];simp [hps]
     have HN:=hd_ hnx;clear hps HCC hnx;refine hcl.mono ?_;rintro e w1 ⟨rfl,b1⟩;replace hb:=hb.trans (b1.mono hb.size);clear b1 hcl;go_wp2
     go_roundw
     case rel=>exact ⟨k+1,by omega,by go_num,HN,hb⟩
     case measure=>simp [intOf];omega
  · obtain rfl:k=S.length:=by omega
    have hno:=hn.out;rw [List.take_length] at hno;have HN:=hd_ hno;clear hno hn;go_wp2
    go_ret
    exact ⟨_,rfl,fun h0=>by rw [HN.out] at h0;(cases h0),fun _=>by omega,hb⟩
theorem containsL_any (w:World) (B:Nat) (A:Option Addr) (S:List LmV) (c:Nat) (h:LmsAt w B A S) (hB:B≤w.heap.size) (hl:S.length≤4611686018427387904) (p:LmV→Bool) (g:Nat) (lb:Array Value)
 (eg:∀ args w,(callFunc g args).run Tryz.prog w = .ok (.enter g args) w)
 (hp:∀ W s,s∈S→Below w.heap.size w W→Calls Tryz.prog g (#[.agg #[.string s.1.id,.int .i64 s.1.n,.int .i64 s.1.u,.int .i64 s.1.f,.slice s.2.1 s.1.S.length s.2.2]]++lb) W fun e w'=>e = .returned (.bool (p s))∧Below W.heap.size W w') :
 Calls Tryz.prog 106 #[.slice A S.length c,.func (.func g) #[] lb] w fun e w'=>e = .returned (.bool (S.any p))∧Below w.heap.size w w':=by
 have hi:=indexL_any w B A S c h hB hl p g lb eg hp;clear h hp eg;generalize S.any p=r at *;have HI:=hd_ hi;clear hi
 cases r with
 | true=>
  go_enter Tryz.func106,Tryz.ntmps106
  go_wp2_with fail
  refine HI.out.mono ?_;rintro e w1 ⟨n,rfl,h1,-,hb⟩;have hn:=h1 trivial;clear h1 HI;go_wp2
  go_ret
  exact ⟨rfl,hb⟩
 | false=>
  go_enter Tryz.func106,Tryz.ntmps106
  go_wp2_with fail
  refine HI.out.mono ?_;rintro e w1 ⟨n,rfl,-,h2,hb⟩;have hn:=h2 trivial;have d0:decide (0≤n)=false:=by simp;omega
  clear h2 HI;go_wp2
  go_ret
  exact ⟨rfl,hb⟩
theorem indexM_any (w:World) (B:Nat) (A:Option Addr) (S:List I2) (c:Nat) (h:StopsAt w B A S) (hB:B≤w.heap.size) (hl:S.length≤4611686018427387904) (p:I2→Bool) (g:Nat) (lb:Array Value)
 (eg:∀ args w,(callFunc g args).run Tryz.prog w = .ok (.enter g args) w)
 (hp:∀ W s,s∈S→Below w.heap.size w W→Calls Tryz.prog g (#[.agg #[.int .i64 s.1,.int .i64 s.2]]++lb) W fun e w'=>e = .returned (.bool (p s))∧Below W.heap.size W w') :
 Calls Tryz.prog 141 #[.slice A S.length c,.func (.func g) #[] lb] w fun e w'=>∃ n:Int,e = .returned (.int .i64 n)∧(S.any p=true→0≤n)∧(S.any p=false→n<0)∧Below w.heap.size w w':=by
 have HP:=hd_ hp;clear hp;go_enter Tryz.func141,Tryz.ntmps141
 go_wp2_with fail
 go_loopw [8] (fun i wr=>∃ k:Nat,k≤S.length∧i = .int .i64 (k:Int)∧Hid ((S.take k).any p=false)∧Below w.heap.size w wr) (fun i _=>S.length - (intOf i).toNat)
 case atStart=>exact ⟨0,Nat.zero_le _,rfl,hd_ rfl,Below.refl _ _⟩
 case round=>
  obtain ⟨k,hk,rfl,hn,hb⟩:=hrel;by_cases hlt:k<S.length
  · obtain ⟨s,hs⟩:∃ s,S[k]? = some s:=⟨_,List.getElem?_eq_getElem hlt⟩
    obtain ⟨gb,off,hA,hg,c0,c1⟩:=h.below (hb.mono hB) k s hs;subst hA;have HC:=HP.out wr s (List.mem_of_getElem? hs) hb;have HS:=hd_ hs;have HCC:=hd_ HC;clear hs HC;go_wp2_with fail
    cases hps:p s with
    | true=>
     have hcl:=HCC.out;rw [hps] at hcl;have hany:=hd_ (idx_at HS.out hps);clear hps HCC;refine hcl.mono ?_;rintro e w1 ⟨rfl,b1⟩;replace hb:=hb.trans (b1.mono hb.size);clear b1 hcl;go_wp2
     go_ret
     exact ⟨_,rfl,fun _=>by omega,fun h0=>by rw [hany.out] at h0;(cases h0),hb⟩
    | false=>
     have hcl:=HCC.out;rw [hps] at hcl
     have hnx:(S.take (k+1)).any p=false:=by
      obtain ⟨h1,h2⟩:=List.getElem?_eq_some_iff.1 HS.out;rw [List.take_succ_eq_append_getElem h1,h2,List.any_append,hn.out];simp [hps]
     have HN:=hd_ hnx;clear hps HCC hnx;refine hcl.mono ?_;rintro e w1 ⟨rfl,b1⟩;replace hb:=hb.trans (b1.mono hb.size);clear b1 hcl;go_wp2
     go_roundw
     case rel=>exact ⟨k+1,by omega,by go_num,HN,hb⟩
     case measure=>simp [intOf];omega
  · obtain rfl:k=S.length:=by omega
    have hno:=hn.out;rw [List.take_length] at hno;have HN:=hd_ hno;clear hno hn;go_wp2
    go_ret
    exact ⟨_,rfl,fun h0=>by rw [HN.out] at h0;(cases h0),fun _=>by omega,hb⟩
theorem containsM_any (w:World) (B:Nat) (A:Option Addr) (S:List I2) (c:Nat) (h:StopsAt w B A S) (hB:B≤w.heap.size) (hl:S.length≤4611686018427387904) (p:I2→Bool) (g:Nat) (lb:Array Value)
 (eg:∀ args w,(callFunc g args).run Tryz.prog w = .ok (.enter g args) w)
 (hp:∀ W s,s∈S→Below w.heap.size w W→Calls Tryz.prog g (#[.agg #[.int .i64 s.1,.int .i64 s.2]]++lb) W fun e w'=>e = .returned (.bool (p s))∧Below W.heap.size W w') :
 Calls Tryz.prog 97 #[.slice A S.length c,.func (.func g) #[] lb] w fun e w'=>e = .returned (.bool (S.any p))∧Below w.heap.size w w':=by
 have hi:=indexM_any w B A S c h hB hl p g lb eg hp;clear h hp eg;generalize S.any p=r at *;have HI:=hd_ hi;clear hi
 cases r with
 | true=>
  go_enter Tryz.func97,Tryz.ntmps97
  go_wp2_with fail
  refine HI.out.mono ?_;rintro e w1 ⟨n,rfl,h1,-,hb⟩;have hn:=h1 trivial;clear h1 HI;go_wp2
  go_ret
  exact ⟨rfl,hb⟩
 | false=>
  go_enter Tryz.func97,Tryz.ntmps97
  go_wp2_with fail
  refine HI.out.mono ?_;rintro e w1 ⟨n,rfl,-,h2,hb⟩;have hn:=h2 trivial;have d0:decide (0≤n)=false:=by simp;omega
  clear h2 HI;go_wp2
  go_ret
  exact ⟨rfl,hb⟩
def maxI (a:Int) (l:List Int):Int:=l.foldl max a
theorem maxI_snoc (a:Int) (l:List Int) (x:Int):maxI a (l++[x])=max (maxI a l) x:=by unfold maxI;rw [List.foldl_append];rfl
theorem maxI_lt {n:Int} : ∀ (l:List Int) (a:Int),maxI a l<n↔a<n∧∀ x∈l,x<n
 | [],a=>by simp [maxI]
 | x::l,a=>by
  show maxI (max a x) l<n↔_;rw [maxI_lt l (max a x),Int.max_lt];simp only [List.mem_cons,forall_eq_or_imp,and_assoc]
theorem max_any (w:World) (B:Nat) (A:Option Addr) (a:Int) (S:List Int) (c:Nat) (h:IntsAt w B A S) (h0:S[0]? = some a) (hB:B≤w.heap.size) (hl:S.length≤1000000000) :
 Calls Tryz.prog 48 #[.slice A S.length c] w fun e w'=>e = .returned (.int .i64 (maxI a S))∧w'=w:=by
 obtain ⟨g0,off0,hA0,hg0,c00⟩:=h 0 a h0;have h1:1≤S.length:=by have:=(List.getElem?_eq_some_iff.1 h0).1;omega
 have ht1:maxI a (S.take 1)=a:=by
  obtain ⟨hk,hx⟩:=List.getElem?_eq_some_iff.1 h0;rw [List.take_succ_eq_append_getElem hk,hx];show max a a=a;omega
 subst hA0;obtain ⟨M,hM⟩:∃ m,maxI a S=m:=⟨_,rfl⟩;rw [hM];have HM:=hd_ hM;have HH:=hd_ h;have HT1:=hd_ ht1;clear h h0 ht1 hM;simp only [Nat.add_zero] at c00;have d1:decide ((S.length:Int)<1)=false:=decide_eq_false (by omega);go_enter Tryz.func48,Tryz.ntmps48
 go_wp2_with fail
 clear d1;go_loopw [3,4] (fun v i wr=>∃ k:Nat,1≤k∧k≤S.length∧v = .int .i64 (maxI a (S.take k))∧i = .int .i64 (k:Int)∧wr=w) (fun _ i _=>S.length - (intOf i).toNat)
 case atStart=>exact ⟨1,Nat.le_refl _,h1,by rw [HT1.out],rfl,rfl⟩
 case round=>
  obtain ⟨k,hk1,hk,rfl,rfl,rfl⟩:=hrel;by_cases hlt:k<S.length
  · obtain ⟨s,hs⟩:∃ s,S[k]? = some s:=⟨_,List.getElem?_eq_getElem hlt⟩
    obtain ⟨gb,off,hA,hg,c0⟩:=HH.out k s hs;injection hA with hA;injection hA with e1 e2;subst e1;subst e2;have hm:=fun ts t W=>run_max2 (P:=Tryz.prog) (maxI a (S.take k)) s (maxI a (S.take (k+1))) (by rw [take_snoc' hs,maxI_snoc]) ts t W;clear hs;obtain ⟨mk,hmk⟩:∃ m,maxI a (S.take (k+1))=m:=⟨_,rfl⟩;rw [hmk] at hm;have HMK:=hd_ hmk;clear hmk;go_wp2
    go_roundw
    case rel=>exact ⟨k+1,by omega,by omega,by rw [HMK.out],by go_num,trivial⟩
    case measure=>simp [intOf];omega
  · obtain rfl:k=S.length:=by omega
    rw [List.take_length,HM.out];clear HM HH HT1;go_wp2
    go_ret
    exact ⟨rfl,rfl⟩
end Go.Proofs.YtknchlpcpgflkaaGreatDoor

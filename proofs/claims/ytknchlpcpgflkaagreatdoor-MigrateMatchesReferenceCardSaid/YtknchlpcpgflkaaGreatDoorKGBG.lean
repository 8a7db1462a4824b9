import Derived.Test.YtknchlpcpgflkaaGreatDoorKGAU
import Derived.Lib.AppendZeros
import Derived.Test.YtknchlpcpgflkaaGreatDoorKGAV
import Derived.Test.YtknchlpcpgflkaaGreatDoorKGAZ
import Derived.Test.YtknchlpcpgflkaaGreatDoorKGAY
import Derived.Test.YtknchlpcpgflkaaGreatDoorKGAL
set_option maxRecDepth 100000
set_option maxHeartbeats 16000000
namespace Go.Proofs.YtknchlpcpgflkaaGreatDoor
section
variable {m : Mt} {g : Mg} {p q : Pc} {day : Int} {l : List Int}
theorem apply_ok (h:applyE m g p q day l=0):apB m g p q day=true∧0≤newSt g m.st∧m.o≤day∧lastI m.o m.mv≤day∧chgE g.ts day l m.ls=0∧applyM m g p q day l=⟨m.id,m.o,m.cs,g.tn,newSt g m.st,m.mv,mergeR g.rs m.rs,chgL g.ts day l m.ls⟩:=by
 have h':=h;unfold applyE at h
 cases hp:apB m g p q day with
 | false=>rw [hp] at h;simp at h
 | true=>
  rw [hp] at h;simp only [Bool.true_eq_false,if_false] at h;by_cases h1:newSt g m.st<0
  · rw [if_pos h1] at h;simp at h
  · rw [if_neg h1] at h
    by_cases h2:day<m.o∨day<lastI m.o m.mv
    · rw [if_pos h2] at h;simp at h
    · rw [if_neg h2] at h
      refine ⟨rfl,by omega,by omega,by omega,h,?_⟩;unfold applyM;rw [if_pos h']
theorem apply_no (h:applyE m g p q day l≠0):applyM m g p q day l=Mt.zero:=by unfold applyM;rw [if_neg h]
end
section
variable {m : Mt} {g h : Mg} {p b q : Pc} {day : Int} {l : List Int}
theorem then_ok (he:thenE g h=0):thenM g h=thenG g h∧mgB g=true∧mgB h=true∧g.tn=h.fr∧(∀ s∈g.st,s<(h.st.length:Int))∧((g.ts++h.ts).map (·.id)).Nodup∧(thenRs g h).length≤60∧(g.ts++h.ts).length≤60:=by
 have he':=he;unfold thenE at he
 cases hc:(mgB g && (mgB h && (decide (g.tn=h.fr) && g.st.all fun s=>decide (s<(h.st.length:Int))))) with
 | false=>rw [hc] at he;simp at he
 | true=>
  rw [hc] at he;simp only [Bool.true_eq_false,if_false] at he;simp only [Bool.and_eq_true,decide_eq_true_eq,List.all_eq_true] at hc;by_cases h1:((g.ts++h.ts).map (·.id)).Nodup
  · rw [if_neg (by simpa using h1)] at he
    by_cases h2:60<(thenRs g h).length∨60<(g.ts++h.ts).length
    · rw [if_pos h2] at he;simp at he
    · exact ⟨by unfold thenM;rw [if_pos he'],hc.1,hc.2.1,hc.2.2.1,hc.2.2.2,h1,by omega,by omega⟩
  · rw [if_pos h1] at he;simp at he
end
open Go.RowKit Go.Shelf
def RowPostL (w:World) (S:List LmV) (e:Ending) (w':World):Prop:=
 ∃ v,e = .returned v∧w'.ownsRow w.heap.size 44 5 v S.length (lmCells S)∧Below w.heap.size w w'
theorem growL_any (w:World) (n:Nat) (hn:n≤1000000) :
 Calls Tryz.prog 128 #[.slice none 0 0,.int .i64 (n:Int)] w (RowPostL w []):=by
 obtain ⟨i0,hi0,hz0,hz1,hz2⟩:=info_parts Tryz.infoLimit
 cases n with
 | zero=>
  go_enter Tryz.func128,Tryz.ntmps128
  go_wp2
  go_ret
  exact ⟨_,rfl,World.ownsRow_nil _ _ _ _,Below.refl _ _⟩
 | succ n=>
  have h1:¬ ((n+1:Nat):Int)<0:=by omega
  have h4:(((n+1:Nat):Int)) > 0:=by omega
  have z25:∀ w,(Go.sizeOf 44).run Tryz.prog w = .ok 5 w:=fun w=>by simp [Go.sizeOf,typeInfo,hi0,hz1]
  have hrz:=fun ty=>Lib.run_append_nil_zeros (P:=Tryz.prog) w 25 3 ty 44 i0 _ .i64 .i64 Tryz.underlying25 (by kernel_rfl) hi0 hz0 (n+1) (by omega) (by rw [hz1];decide) (by omega) (by rw [hz2];omega);obtain ⟨G,hG⟩:∃ G,grownCap w (n+1) 0 44=G:=⟨_,rfl⟩;have hGn:n+1≤G:=by rw [← hG];exact grownCap_ge w _ _ _
  have hG63:G≤maxLen:=by rw [← hG];exact grownCap_le_maxLen w (n+1) 0 _ (by unfold maxLen;omega)
  rw [hG] at hrz;clear hG;have hG64:G≤9223372036854775807:=by unfold maxLen at hG63;omega
  go_enter Tryz.func128,Tryz.ntmps128
  go_wp2_with (at_builtin;refine Lib.wpList_append_run _ rfl _ _ _ _ rfl _ _ rfl rfl _ _ (hrz _) ?_)
  go_ret
  refine ⟨_,rfl,⟨rfl,.inr ⟨w.heap.size,G,_,rfl,Nat.le_refl _,Blk.new w.drew _ _,Nat.zero_le _,hG63,?_,by simp [lmCells]⟩⟩,((Below.refl w.heap.size w).drew).alloc (Nat.le_refl _) _⟩;simp only [Array.size_append,size_zeroCells];show (n+1)*5+(G - (n+1))*5=G*5;omega
theorem owns_base {w:World} {b b':Nat} {e:TypeId} {size:Nat} {v:Value} {n:Nat} {xs:List Value} (h:w.ownsRow b e size v n xs) (hb:b'≤b):w.ownsRow b' e size v n xs:=⟨h.1,h.2.imp id fun ⟨g,cap,cur,e1,e2,e3⟩=>⟨g,cap,cur,e1,Nat.le_trans hb e2,e3⟩⟩
def szK (a b:Nat):Nat→Nat
 | 0=>0
 | 1=>a
 | _=>a+b
def catK (a b:List LmV):Nat→List LmV
 | 0=>[]
 | 1=>a
 | _=>a++b
theorem concatL_any (w:World) (B:Nat) (hB:B≤w.heap.size) (A1:Option Addr) (l1:List LmV) (c1:Nat) (h1:LmsAt w B A1 l1) (A2:Option Addr) (l2:List LmV) (c2:Nat) (h2:LmsAt w B A2 l2) (z1:l1.length≤100000) (z2:l2.length≤100000)
 (bk:Nat) (kb:Blk w bk 25 #[.slice A1 l1.length c1,.slice A2 l2.length c2]) :
 Calls Tryz.prog 59 #[.slice (some ⟨bk,0,none⟩) 2 2] w (RowPostL w (l1++l2)):=by
 obtain ⟨i0,hi0,hz0,hz1,hz2⟩:=info_parts Tryz.infoLimit;obtain ⟨n1,hn1⟩:∃ n,l1.length=n:=⟨_,rfl⟩;obtain ⟨n2,hn2⟩:∃ n,l2.length=n:=⟨_,rfl⟩;rw [hn1,hn2] at kb;rw [hn1] at z1;rw [hn2] at z2;have hgr:=fun W=>growL_any W (n1+n2) (by omega);unfold RowPostL at hgr;have HGR:=hd_ hgr;have H1:=hd_ h1;have H2:=hd_ h2;have HN1:=hd_ hn1;have HN2:=hd_ hn2;have KB:=hd_ kb;clear hgr h1 h2 hn1 hn2 kb;go_enter Tryz.func59,Tryz.ntmps59
 go_wp2_with fail
 go_loopw [3,11] (fun a v wr=>∃ k:Nat,k≤2∧a = .int .i64 (szK n1 n2 k:Int)∧v = .int .i64 (k:Int)∧Hid (Below w.heap.size w wr)) (fun _ v _=>2 - (intOf v).toNat)
 case atStart=>exact ⟨0,by omega,rfl,rfl,hd_ (Below.refl _ _)⟩
 case round=>
  obtain ⟨k,hk,rfl,rfl,HB⟩:=hrel;obtain ⟨t0,t1,t2⟩:=(KB.out.below HB.out KB.out.lt).all;have hkk:k=0∨k=1∨k=2:=by omega
  rcases hkk with rfl | rfl | rfl
  · unfold szK
    have hw1:wrap64 (n1:Int)=(n1:Int):=by unfold wrap64;omega
    have hge:¬ (n1:Int)<0:=by omega
    go_wp2
    go_roundw
    case rel=>exact ⟨1,by omega,rfl,rfl,HB⟩
    case measure=>simp [intOf]
  · unfold szK
    have hw1:wrap64 ((n1:Int)+(n2:Int))=(n1:Int)+(n2:Int):=by unfold wrap64;omega
    have hge:¬ (n1:Int)+(n2:Int)<0:=by omega
    go_wp2
    go_roundw
    case rel=>exact ⟨2,by omega,by show Value.int .i64 _=Value.int .i64 ((n1+n2:Nat):Int);rw [Int.natCast_add],rfl,HB⟩
    case measure=>simp [intOf]
  · unfold szK
    go_wp2_with fail
    refine (HGR.out wr).mono ?_;rintro e W1 ⟨v1,rfl,ow,b1⟩;have HB1:=hd_ (HB.out.trans (b1.mono HB.out.size));have OW:=hd_ (owns_base ow HB.out.size);clear b1 HB t0 t1 t2 ow HGR;go_wp2_with fail
    go_loopw [6,27] (fun a v wr=>∃ k:Nat,k≤2∧v = .int .i64 (k:Int)∧Hid (wr.ownsRow w.heap.size 44 5 a (szK n1 n2 k) (lmCells (catK l1 l2 k)))∧Hid (Below w.heap.size w wr)) (fun _ v _=>2 - (intOf v).toNat)
    case atStart=>exact ⟨0,by omega,rfl,OW,HB1⟩
    case round=>
     clear OW HB1;obtain ⟨k,hk,rfl,OW,HB⟩:=hrel;have hkk:k=0∨k=1∨k=2:=by omega
     rcases hkk with rfl | rfl | rfl
     · obtain ⟨t0,t1,t2⟩:=(KB.out.below HB.out KB.out.lt).all
       have hh:=H1.out.below (HB.out.mono hB);have own:wr.ownsRow w.heap.size 44 5 _ 0 (lmCells (catK l1 l2 0)):=OW.out;have ew:szK n1 n2 1=0+n1:=(Nat.zero_add _).symm;clear OW;go_wp2_with (at_builtin;refine wpList_append_any rfl _ _ 25 rfl w.heap.size 44 i0 _ 5 64 Tryz.underlying25 hi0 hz0 hz1 hz2 rfl (by omega) _ _ _ rfl own A1 n1 c1 (lmCells l1) rfl (by rw [lmCells_len,HN1.out]) (lmCells_news hh) (lmCells_one l1) (by unfold maxLen;omega) (by omega) HB.out.size ?_;intro v4 w1 own4 gr4 l4)
       have HB4:=hd_ (HB.out.grown gr4 HB.out.size (fun x hx=>(own.lt x hx).1));have OW4:Hid (w1.ownsRow w.heap.size 44 5 v4 (szK n1 n2 1) (lmCells (catK l1 l2 1))):=hd_ (by rw [ew,show catK l1 l2 1=catK l1 l2 0++l1 from rfl,lmCells_app];exact own4);clear own own4 gr4 l4 hh t0 t1 t2 HB;go_wp2
       go_roundw
       case rel=>exact ⟨1,by omega,rfl,OW4,HB4⟩
       case measure=>simp [intOf]
     · obtain ⟨t0,t1,t2⟩:=(KB.out.below HB.out KB.out.lt).all
       have hh:=H2.out.below (HB.out.mono hB);have own:wr.ownsRow w.heap.size 44 5 _ n1 (lmCells (catK l1 l2 1)):=OW.out;have ew:szK n1 n2 2=n1+n2:=rfl;clear OW;go_wp2_with (at_builtin;refine wpList_append_any rfl _ _ 25 rfl w.heap.size 44 i0 _ 5 64 Tryz.underlying25 hi0 hz0 hz1 hz2 rfl (by omega) _ _ _ rfl own A2 n2 c2 (lmCells l2) rfl (by rw [lmCells_len,HN2.out]) (lmCells_news hh) (lmCells_one l2) (by unfold maxLen;omega) (by omega) HB.out.size ?_;intro v4 w1 own4 gr4 l4)
       have HB4:=hd_ (HB.out.grown gr4 HB.out.size (fun x hx=>(own.lt x hx).1));have OW4:Hid (w1.ownsRow w.heap.size 44 5 v4 (szK n1 n2 2) (lmCells (catK l1 l2 2))):=hd_ (by rw [ew,show catK l1 l2 2=catK l1 l2 1++l2 from rfl,lmCells_app];exact own4);clear own own4 gr4 l4 hh t0 t1 t2 HB;go_wp2
       go_roundw
       case rel=>exact ⟨2,by omega,rfl,OW4,HB4⟩
       case measure=>simp [intOf]
     · go_wp2
       go_ret
       exact ⟨_,rfl,by rw [List.length_append,HN1.out,HN2.out];exact OW.out,HB.out⟩
theorem Tryz.infoPair:(Tryz.prog.info? 75).map (fun i=>(i.zero,i.size,i.bytes))=some (some (.agg #[.string ⟨#[]⟩,.string ⟨#[]⟩]),2,32):=by kernel_rfl
def encP2 (s:S2):List Value:=[.string s.1,.string s.2]
def prCells (S:List S2):List Value:=S.flatMap encP2
theorem prCells_len (S:List S2):(prCells S).length=S.length*2:=by
 induction S with
 | nil=>rfl
 | cons s S ih=>show (encP2 s++prCells S).length=_;rw [List.length_append,ih];simp [encP2];omega
theorem prCells_app (J K:List S2):prCells (J++K)=prCells J++prCells K:=by simp [prCells]
theorem prCells_one (S:List S2):∀ u∈prCells S,u.oneCell'=true:=by
 intro u hu;obtain ⟨s,_,hs⟩:=List.mem_flatMap.1 hu;simp [encP2] at hs;rcases hs with rfl | rfl <;> rfl
theorem prCells_at:∀ (S:List S2) (i:Nat) (s:S2),S[i]? = some s→(prCells S)[i*2]? = some (.string s.1)∧(prCells S)[i*2+1]? = some (.string s.2)
 | [],i,s,h=>by simp at h
 | t::S,0,s,h=>by
  have:t=s:=by simpa using h
  subst this;exact ⟨rfl,rfl⟩
 | t::S,i+1,s,h=>by
  have h':S[i]? = some s:=by simpa using h
  obtain ⟨h1,h2⟩:=prCells_at S i s h';have e1:(i+1)*2=i*2+1+1:=by omega
  refine ⟨?_,?_⟩
  · rw [e1];show (prCells S)[i*2]? = _;exact h1
  · rw [e1];show (prCells S)[i*2+1]? = _;exact h2
theorem PrsAt.of_row {W:World} {base cap n:Nat} {A:Option Addr} {l:List S2} (hl:l.length=n) (h:W.ownsRow base 75 2 (.slice A n cap) n (prCells l)):PrsAt W W.heap.size A l:=by
 intro i x hi;have hil:=(List.getElem?_eq_some_iff.1 hi).1;rcases h.2 with ⟨_,h0⟩ | ⟨g,cap',cur,hv,_,hh,_,_,_,h4⟩
 · omega
 · injection hv with hv _ _
   have at_:∀ j v,(prCells l)[j]? = some v→W.cell? ⟨g,0+j,none⟩=some v:=fun j v hj=>by
    rw [Nat.zero_add,cell_of_row W g j cur _ _ hh]
    have hj4:j<n*2:=by
     have:=(List.getElem?_eq_some_iff.1 hj).1;rw [prCells_len,hl] at this;exact this
    have h5:=congrArg (fun l:List Value=>l[j]?) h4;simp only [List.getElem?_take,hj4,if_true] at h5;rw [hj] at h5;simpa using h5
   obtain ⟨e0,e1⟩:=prCells_at l i x hi;have c0:=at_ _ _ e0;have c1:=at_ _ _ e1;rw [show 0+(i*2+1)=0+i*2+1 by omega] at c1;exact ⟨g,0,hv,(Array.getElem?_eq_some_iff.1 hh).1,c0,c1⟩
def stK (b:Mg) (st:List Int) (k:Nat):List Int:=(st.take k).map (thenSt b)++st.drop k
theorem stK_all (b:Mg) (st:List Int):stK b st st.length=st.map (thenSt b):=by unfold stK;rw [List.take_length,List.drop_length,List.append_nil]
theorem stK_len (b:Mg) (st:List Int) (k:Nat):(stK b st k).length=st.length:=by unfold stK;rw [List.length_append,List.length_map,List.length_take,List.length_drop];omega
theorem stK_next {b:Mg} {st:List Int} {k:Nat} {s:Int} (h:st[k]? = some s):stK b st (k+1)=(stK b st k).set k (thenSt b s):=by
 obtain ⟨hl,he⟩:=List.getElem?_eq_some_iff.1 h;apply List.ext_getElem?;intro i;unfold stK;rw [List.getElem?_set];by_cases h1:k=i
 · subst h1
   rw [if_pos rfl,if_pos (by rw [List.length_append,List.length_map,List.length_take,List.length_drop];omega),List.getElem?_append_left (by rw [List.length_map,List.length_take];omega),List.getElem?_map,List.getElem?_take,if_pos (by omega),h];rfl
 · rw [if_neg h1]
   by_cases h2:i<k
   · rw [List.getElem?_append_left (by rw [List.length_map,List.length_take];omega),List.getElem?_append_left (by rw [List.length_map,List.length_take];omega),List.getElem?_map,List.getElem?_map,List.getElem?_take,List.getElem?_take,if_pos (by omega),if_pos h2]
   · rw [List.getElem?_append_right (by rw [List.length_map,List.length_take];omega),List.getElem?_append_right (by rw [List.length_map,List.length_take];omega),List.getElem?_drop,List.getElem?_drop,List.length_map,List.length_map,List.length_take,List.length_take]
     congr 1
     omega
theorem stK_at {b:Mg} {st:List Int} {k:Nat} {s:Int} (h:st[k]? = some s):(stK b st k)[k]? = some s:=by
 obtain ⟨hl,-⟩:=List.getElem?_eq_some_iff.1 h;unfold stK;rw [List.getElem?_append_right (by rw [List.length_map,List.length_take];omega),List.getElem?_drop,List.length_map,List.length_take];rw [show k+(k - min k st.length)=k by omega];exact h
theorem stK_skip {b:Mg} {st:List Int} {k:Nat} {s:Int} (h:st[k]? = some s) (hs:¬ 0≤s):stK b st (k+1)=stK b st k:=by
 rw [stK_next h];have e:thenSt b s=s:=if_neg hs;rw [e];apply List.ext_getElem?;intro i;rw [List.getElem?_set];by_cases h1:k=i
 · subst h1
   obtain ⟨hl,-⟩:=List.getElem?_eq_some_iff.1 h;rw [if_pos rfl,if_pos (by rw [stK_len];exact hl)];exact (stK_at h).symm
 · rw [if_neg h1]
theorem intCells_set (S:List Int) (i:Nat) (x:Int):intCells (S.set i x)=(intCells S).set i (.int .i64 x):=by unfold intCells;rw [List.map_set]
def rrK (a b:Mg) (j:Nat):List S2:=(a.rs.take j).map fun r=>(r.1,namedL b.rs r.2)
def rrL (a b:Mg) (j:Nat):List S2:=a.rs.map (fun r=>(r.1,namedL b.rs r.2))++(b.rs.take j).filter fun r=>decide (r.1∉a.rs.map (·.1))
theorem rrK_next {a b:Mg} {j:Nat} {r:S2} (h:a.rs[j]? = some r):rrK a b (j+1)=rrK a b j++[(r.1,namedL b.rs r.2)]:=by unfold rrK;rw [List.take_add_one,h,List.map_append];rfl
theorem rrK_len (a b:Mg) (j:Nat):(rrK a b j).length≤a.rs.length:=by unfold rrK;rw [List.length_map,List.length_take];omega
theorem rrK_all (a b:Mg):rrK a b a.rs.length=rrL a b 0:=by unfold rrK rrL;rw [List.take_length,List.take_zero,List.filter_nil,List.append_nil]
theorem rrL_in {a b:Mg} {j:Nat} {r:S2} (h:b.rs[j]? = some r) (hr:r.1∈a.rs.map (·.1)):rrL a b (j+1)=rrL a b j:=by unfold rrL;rw [List.take_add_one,h,List.filter_append];simp [hr]
theorem rrL_out {a b:Mg} {j:Nat} {r:S2} (h:b.rs[j]? = some r) (hr:r.1∉a.rs.map (·.1)):rrL a b (j+1)=rrL a b j++[r]:=by
 unfold rrL;rw [List.take_add_one,h,List.filter_append,← List.append_assoc]
 congr 1
 simp only [Option.toList_some,List.filter_cons,List.filter_nil,decide_eq_true_eq,hr,not_false_eq_true,if_true]
theorem rrL_len (a b:Mg) (j:Nat):(rrL a b j).length≤a.rs.length+b.rs.length:=by
 unfold rrL;rw [List.length_append,List.length_map];exact Nat.add_le_add_left (Nat.le_trans (List.length_filter_le _ _) (by rw [List.length_take];omega)) _
theorem rrL_all (a b:Mg):rrL a b b.rs.length=thenRs a b:=by unfold rrL thenRs;rw [List.take_length]
def Z5:Array Value:=#[.string ⟨#[]⟩,.string ⟨#[]⟩,.slice none 0 0,.slice none 0 0,.slice none 0 0]
structure ThS (w W:World) (Ca Cb:Array Value) (bo:Nat) (C:Array Value) (vs:Value) (n:Nat) (ss:List Int) (vr:Value) (k:Nat) (rr:List S2) (vl:Value) (J:Nat) (lv:List LmV):Prop where
 hb:Below w.heap.size w W
 ka:Blk W w.heap.size 30 Ca
 kb:Blk W (w.heap.size+1) 30 Cb
 kz:Blk W (w.heap.size+1+1) 30 Z5
 ko:Blk W bo 30 C
 os:W.ownsRow w.heap.size 3 1 vs n (intCells ss)
 or_:W.ownsRow w.heap.size 75 2 vr k (prCells rr)
 ol:W.ownsRow w.heap.size 44 5 vl J (lmCells lv)
 lo:w.heap.size+1+1<bo
section
variable {w W W' : World} {Ca Cb C : Array Value} {bo n k J : Nat} {ss : List Int} {rr : List S2} {vs vr vl : Value} {lv : List LmV}
theorem ThS.below (h:ThS w W Ca Cb bo C vs n ss vr k rr vl J lv) (hb:Below W.heap.size W W'):ThS w W' Ca Cb bo C vs n ss vr k rr vl J lv:=
 ⟨h.hb.trans (hb.mono h.hb.size),h.ka.below hb h.ka.lt,h.kb.below hb h.kb.lt,h.kz.below hb h.kz.lt,h.ko.below hb h.ko.lt,(Only.of_below hb (fun _=>False)).owns h.os (fun _ _ f=>f),(Only.of_below hb (fun _=>False)).owns h.or_ (fun _ _ f=>f),(Only.of_below hb (fun _=>False)).owns h.ol (fun _ _ f=>f),h.lo⟩
theorem ThS.stage {g cap:Nat} (h:ThS w W Ca Cb bo C (.slice (some ⟨g,0,none⟩) n cap) n ss vr k rr vl J lv) (i:Nat) (x:Int):ThS w (W.setCell ⟨g,i,none⟩ (.int .i64 x)) Ca Cb bo C (.slice (some ⟨g,0,none⟩) n cap) n (ss.set i x) vr k rr vl J lv:=by
 have hv:(Value.slice (some ⟨g,0,none⟩) n cap).ownBlock=some g:=rfl;have hlo:=(h.os.lt g hv).1;have hO:Only (fun i=>i=g) W (W.setCell ⟨g,i,none⟩ (.int .i64 x)):=(Only.refl (fun i=>i=g) W).setCell (p:=⟨g,i,none⟩) (.inl rfl) _;have ne:∀ {t:TypeId} {c:Nat} {cs:Array Value},Blk W c t cs→3≠t→¬ c=g:=fun hk ht e=>own_blk_ne h.os hk ht (by rw [hv,e]);exact ⟨h.hb.trans (hO.below h.hb.size fun i hi=>by omega),hO.blk h.ka (ne h.ka (by decide)),hO.blk h.kb (ne h.kb (by decide)),hO.blk h.kz (ne h.kz (by decide)),hO.blk h.ko (ne h.ko (by decide)),by rw [intCells_set];exact (h.os.stored i _).1,hO.owns h.or_ (fun b hb f=>own_own_ne h.os h.or_ (by decide) hv (by rw [hb,f])),hO.owns h.ol (fun b hb f=>own_own_ne h.os h.ol (by decide) hv (by rw [hb,f])),h.lo⟩
theorem ThS.right {v':Value} {k':Nat} {rr':List S2} (h:ThS w W Ca Cb bo C vs n ss vr k rr vl J lv) (o:W'.ownsRow w.heap.size 75 2 v' k' (prCells rr')) (hg:W.grownBy W' vr.ownBlock):ThS w W' Ca Cb bo C vs n ss v' k' rr' vl J lv:=by
 have hO:=Only.of_grown hg;exact ⟨h.hb.trans (hO.below h.hb.size (fun i hi=>(h.or_.lt i hi).1)),hO.blk h.ka (own_blk_ne h.or_ h.ka (by decide)),hO.blk h.kb (own_blk_ne h.or_ h.kb (by decide)),hO.blk h.kz (own_blk_ne h.or_ h.kz (by decide)),hO.blk h.ko (own_blk_ne h.or_ h.ko (by decide)),hO.owns h.os (fun b hb f=>own_own_ne h.os h.or_ (by decide) hb f),o,hO.owns h.ol (fun b hb f=>own_own_ne h.ol h.or_ (by decide) hb f),h.lo⟩
theorem ThS.set (h:ThS w W Ca Cb bo C vs n ss vr k rr vl J lv) (i:Nat) (v:Value):ThS w (W.setCell ⟨bo,i,none⟩ v) Ca Cb bo (C.setIfInBounds i v) vs n ss vr k rr vl J lv:=by
 have hlo:=h.lo;have ho:Only (fun j=>j=bo) W (W.setCell ⟨bo,i,none⟩ v):=only_set3;exact ⟨h.hb.setCell (p:=⟨bo,i,none⟩) (show w.heap.size≤bo by omega) v,ho.blk h.ka (by omega),ho.blk h.kb (by omega),ho.blk h.kz (by omega),h.ko.set_ i v,ho.owns h.os (fun b hb f=>own_blk_ne h.os h.ko (by decide) (by rw [hb,f])),ho.owns h.or_ (fun b hb f=>own_blk_ne h.or_ h.ko (by decide) (by rw [hb,f])),ho.owns h.ol (fun b hb f=>own_blk_ne h.ol h.ko (by decide) (by rw [hb,f])),h.lo⟩
end
theorem own_slice {w:World} {base size n:Nat} {e:TypeId} {v:Value} {xs:List Value} (h:w.ownsRow base e size v n xs):∃ A c,v = .slice A n c:=by
 rcases h.2 with ⟨hv,h0⟩ | ⟨g,cap,cur,hv,_⟩
 · exact ⟨none,0,by rw [hv,h0]⟩
 · exact ⟨_,_,hv⟩
theorem PSv.go2 {w V:World} {g:Nat} {cells:Array Value} (h:PSv w V) (hg:w.heap.size≤g):PSv w (V.setRow g cells):=
 ⟨h.os,h.tape,h.output,by rw [size_setRow];exact h.size,fun i hi=>(setRow_other V g i cells (by omega)).trans (h.block i hi)⟩
def IsMg (w:World) (g:Nat):Prop:=∃ cs,Blk w g 30 cs∧cs.size=5
def FinT (base:Nat) (fr bn:ByteArray) (n:Nat) (ss:List Int) (J:Nat) (lv:List LmV) (w:World) (g:Nat):Prop:=
 ∃ A c A' c',Blk w g 30 #[.string fr,.string bn,.slice A n c,.slice none 0 0,.slice A' J c']∧w.ownsRow base 3 1 (.slice A n c) n (intCells ss)∧w.ownsRow base 44 5 (.slice A' J c') J (lmCells lv)
structure R3 (base:Nat) (fr bn:ByteArray) (n:Nat) (ss:List Int) (J:Nat) (lv:List LmV) (w w':World):Prop where
 only:Only (fun i=>base≤i∧IsMg w i) w w'
 mg:∀ g,IsMg w g→IsMg w' g
 fin:∀ g,FinT base fr bn n ss J lv w g→FinT base fr bn n ss J lv w' g
section
variable {base n J : Nat} {fr bn : ByteArray} {ss : List Int} {lv : List LmV} {w w' : World}
theorem R3.of_below (h:Below w.heap.size w w'):R3 base fr bn n ss J lv w w' where
 only:=Only.of_below h _
 mg g hg:=by
  obtain ⟨cs,h1,h2⟩:=hg;exact ⟨cs,h1.below h h1.lt,h2⟩
 fin g hg:=by
  obtain ⟨A,c,A',c',h1,h2,h3⟩:=hg;exact ⟨A,c,A',c',h1.below h h1.lt,(Only.of_below h (fun _=>False)).owns h2 (fun _ _ f=>f),(Only.of_below h (fun _=>False)).owns h3 (fun _ _ f=>f)⟩
theorem IsMg.ne_own {base' size n':Nat} {e:TypeId} {v:Value} {xs:List Value} {g:Nat} (h:IsMg w g) (o:w.ownsRow base' e size v n' xs) (he:e≠30):v.ownBlock≠some g:=by
 obtain ⟨cs,h1,-⟩:=h;exact own_blk_ne o h1 he
theorem R3.own {base' size n':Nat} {e:TypeId} {v:Value} {xs:List Value} (h:R3 base fr bn n ss J lv w w') (o:w.ownsRow base' e size v n' xs) (he:e≠30):w'.ownsRow base' e size v n' xs:=
 h.only.owns o (fun _ hb f=>f.2.ne_own o he hb)
theorem R3.blk {g:Nat} {t:TypeId} {cs:Array Value} (h:R3 base fr bn n ss J lv w w') (k:Blk w g t cs) (ht:t≠30):Blk w' g t cs:=
 h.only.blk k (fun f=>by
  obtain ⟨cs',h1,-⟩:=f.2;exact k.ne_ h1 ht rfl)
theorem R3.store {g:Nat} {A A':Option Addr} {c c':Nat} (hg:base≤g) (hm:IsMg w g) (ho:Only (fun i=>i=g) w w') (hk:Blk w' g 30 #[.string fr,.string bn,.slice A n c,.slice none 0 0,.slice A' J c']) (h2:w.ownsRow base 3 1 (.slice A n c) n (intCells ss)) (h3:w.ownsRow base 44 5 (.slice A' J c') J (lmCells lv)) :
 R3 base fr bn n ss J lv w w'∧FinT base fr bn n ss J lv w' g:=by
 have k2:=ho.owns h2 (fun b hb f=>hm.ne_own h2 (by decide) (by rw [hb,f]));have k3:=ho.owns h3 (fun b hb f=>hm.ne_own h3 (by decide) (by rw [hb,f]));have hf:FinT base fr bn n ss J lv w' g:=⟨A,c,A',c',hk,k2,k3⟩;refine ⟨⟨ho.mono (fun i hi=>by subst hi;exact ⟨hg,hm⟩),fun i hi=>?_,fun i hi=>?_⟩,hf⟩
 · by_cases he:i=g
   · subst he;exact ⟨_,hk,rfl⟩
   · obtain ⟨cs,h1,h2⟩:=hi
     exact ⟨cs,ho.blk h1 he,h2⟩
 · by_cases he:i=g
   · subst he;exact hf
   · obtain ⟨X,x,X',x',h1,h4,h5⟩:=hi
     exact ⟨X,x,X',x',ho.blk h1 he,ho.owns h4 (fun b hb f=>hm.ne_own h4 (by decide) (by rw [hb,f])),ho.owns h5 (fun b hb f=>hm.ne_own h5 (by decide) (by rw [hb,f]))⟩
end
def ownI (base n:Nat) (ss:List Int):Phi:=⟨none,fun _ v w=>∃ A c,v = .slice A n c∧w.ownsRow base 3 1 (.slice A n c) n (intCells ss)⟩
def ownL (base J:Nat) (lv:List LmV):Phi:=⟨none,fun _ v w=>∃ A c,v = .slice A J c∧w.ownsRow base 44 5 (.slice A J c) J (lmCells lv)⟩
def rowK (base:Nat) (t:TypeId) (cs:Array Value) (n c:Nat):Phi:=⟨none,fun _ v w=>∃ g,v = .slice (some ⟨g,0,none⟩) n c∧base≤g∧Blk w g t cs⟩
def aggT (base:Nat) (fr bn:ByteArray) (n:Nat) (ss:List Int) (J:Nat) (lv:List LmV):Phi:=⟨none,fun _ v w=>∃ A c A' c',v = .agg #[.string fr,.string bn,.slice A n c,.slice none 0 0,.slice A' J c']∧w.ownsRow base 3 1 (.slice A n c) n (intCells ss)∧w.ownsRow base 44 5 (.slice A' J c') J (lmCells lv)⟩
def ptrT (base:Nat):Phi:=⟨none,fun _ v w=>∃ g,v = .pointer (some ⟨g,0,none⟩)∧base≤g∧IsMg w g⟩
def finV (base:Nat) (fr bn:ByteArray) (n:Nat) (ss:List Int) (J:Nat) (lv:List LmV) (i:Nat):Phi:=⟨some i,fun x _ w=>∃ g,x = .pointer (some ⟨g,0,none⟩)∧base≤g∧FinT base fr bn n ss J lv w g⟩
def mapNV (base:Nat) (rs:List S2):Phi:=⟨none,fun _ v w=>∃ b,v = .map (some b)∧base≤b∧MapV w b (nmL rs)⟩
theorem mapNV_mono (base:Nat) (rs:List S2):∀ x v w w',RB w w'→(mapNV base rs).p x v w→(mapNV base rs).p x v w':=fun _ _ _ _ hr ⟨b,h1,h2,h3⟩=>⟨b,h1,h2,h3.below hr h3.lt⟩
section
variable (base : Nat) (fr bn : ByteArray) (n : Nat) (ss : List Int) (J : Nat) (lv : List LmV)
theorem ownI_mono (b n':Nat) (s':List Int):∀ x v w w',R3 base fr bn n ss J lv w w'→(ownI b n' s').p x v w→(ownI b n' s').p x v w':=fun _ _ _ _ hr ⟨A,c,h1,h2⟩=>⟨A,c,h1,hr.own h2 (by decide)⟩
theorem ownL_mono (b n':Nat) (s':List LmV):∀ x v w w',R3 base fr bn n ss J lv w w'→(ownL b n' s').p x v w→(ownL b n' s').p x v w':=fun _ _ _ _ hr ⟨A,c,h1,h2⟩=>⟨A,c,h1,hr.own h2 (by decide)⟩
theorem rowK_mono (b:Nat) (t:TypeId) (cs:Array Value) (m c:Nat) (ht:t≠30):∀ x v w w',R3 base fr bn n ss J lv w w'→(rowK b t cs m c).p x v w→(rowK b t cs m c).p x v w':=fun _ _ _ _ hr ⟨g,h1,h2,h3⟩=>⟨g,h1,h2,hr.blk h3 ht⟩
theorem aggT_mono:∀ x v w w',R3 base fr bn n ss J lv w w'→(aggT base fr bn n ss J lv).p x v w→(aggT base fr bn n ss J lv).p x v w':=fun _ _ _ _ hr ⟨A,c,A',c',h1,h2,h3⟩=>⟨A,c,A',c',h1,hr.own h2 (by decide),hr.own h3 (by decide)⟩
theorem ptrT_mono:∀ x v w w',R3 base fr bn n ss J lv w w'→(ptrT base).p x v w→(ptrT base).p x v w':=fun _ _ _ _ hr ⟨g,h1,h2,h3⟩=>⟨g,h1,h2,hr.mg g h3⟩
theorem finV_mono (i:Nat):∀ x v w w',R3 base fr bn n ss J lv w w'→(finV base fr bn n ss J lv i).p x v w→(finV base fr bn n ss J lv i).p x v w':=fun _ _ _ _ hr ⟨g,h1,h2,h3⟩=>⟨g,h1,h2,hr.fin g h3⟩
end
theorem take_eq_snoc {α:Type} {a b:List α} {k:Nat} {x:α} (h:a.take k=b.take k) (ha:a[k]? = some x) (hb:b[k]? = some x):a.take (k+1)=b.take (k+1):=by
 rw [take_snoc' ha,take_snoc' hb,h]
theorem rints_any (w:World) (B:Nat) (A A':Option Addr) (a b:List Int) (c c':Nat) (h:IntsAt w B A a) (h':IntsAt w B A' b) (hl:a.length≤1000001) (hl':b.length≤1000001) (q:Bool) (hq:q=true↔a=b) :
 Calls Tryz.prog 63 #[.slice A a.length c,.slice A' b.length c'] w fun e w'=>e = .returned (.bool q)∧Below w.heap.size w w':=by
 have HA:=hd_ h;have HB:=hd_ h';have HQ:=hd_ hq;clear h h' hq;obtain ⟨n,hn⟩:∃ n,a.length=n:=⟨_,rfl⟩;obtain ⟨m,hm⟩:∃ m,b.length=m:=⟨_,rfl⟩;rw [hn] at hl ⊢;rw [hm] at hl' ⊢;by_cases hnm:n=m
 · subst hnm
   have HN:=hd_ hn;have HM:=hd_ hm;clear hn hm hl';go_enter Tryz.func63,Tryz.ntmps63
   go_wp2_with fail
   go_loopw [5] (fun i wr=>∃ k:Nat,k≤n∧i = .int .i64 (k:Int)∧Hid (a.take k=b.take k)∧∃ j,wr=w.drewN j) (fun i _=>n - (intOf i).toNat)
   case atStart=>exact ⟨0,Nat.zero_le _,rfl,hd_ rfl,0,rfl⟩
   case round=>
    obtain ⟨k,hk,rfl,HT,j,rfl⟩:=hrel;by_cases hlt:k<n
    · obtain ⟨x,hx⟩:∃ x,a[k]? = some x:=⟨_,List.getElem?_eq_getElem (by rw [HN.out];exact hlt)⟩
      obtain ⟨y,hy⟩:∃ y,b[k]? = some y:=⟨_,List.getElem?_eq_getElem (by rw [HM.out];exact hlt)⟩;obtain ⟨ga,oa,rfl,hga,a0⟩:=HA.out k x hx;obtain ⟨gb,ob,rfl,hgb,b0⟩:=HB.out k y hy;have a0':(w.drewN j).cell? ⟨ga,oa+k,none⟩=some (.int .i64 x):=a0;have b0':(w.drewN j).cell? ⟨gb,ob+k,none⟩=some (.int .i64 y):=b0;have ib0:(0:Int)≤(k:Int):=by omega
      have ib1:(k:Int)<(n:Int):=by omega
      have HX:=hd_ hx;have HY:=hd_ hy;clear a0 b0 hx hy;by_cases hxy:x=y
      · subst hxy
        have HS:=hd_ (take_eq_snoc HT.out HX.out HY.out);go_wp2_with fail
        generalize hW:w.drewN j=W at *;go_quiet (fail)
        subst hW;go_wp2
        go_roundw
        case rel=>exact ⟨k+1,by omega,by go_num,HS,j+nq,rfl⟩
        case measure=>simp [intOf];omega
      · have hno:¬ a=b:=fun e=>hxy (by have h1:=HX.out;rw [e,HY.out] at h1;exact (Option.some.inj h1).symm)
        have hq:q=false:=by cases q with | false=>rfl | true=>exact absurd (HQ.out.1 rfl) hno
        subst hq;have d1:(x == y)=false:=by simp [hxy]
        clear hno;go_wp2_with fail
        generalize hW:w.drewN j=W at *;go_quiet (fail)
        subst hW;go_wp2
        go_ret
        exact ⟨rfl,below_dN (below_dN (Below.refl _ _) j) nq⟩
    · obtain rfl:k=n:=by omega
      have hq:q=true:=HQ.out.2 (by
       have:=HT.out;rwa [List.take_of_length_le (by rw [HN.out];exact Nat.le_refl _),List.take_of_length_le (by rw [HM.out];exact Nat.le_refl _)] at this)
      subst hq;go_wp2
      go_ret
      exact ⟨rfl,below_dN (Below.refl _ _) j⟩
 · have hq:q=false:=by
    cases q with
    | false=>rfl
    | true=>exact absurd (by rw [← hn,← hm,HQ.out.1 rfl]) hnm
   subst hq;have d1:((n:Int) == (m:Int))=false:=by simp;omega
   have d2:¬ (n:Int)=(m:Int):=by omega
   clear HA HB HQ hn hm;go_enter Tryz.func63,Tryz.ntmps63
   go_wp2
   go_ret
   exact ⟨rfl,Below.refl _ _⟩
end Go.Proofs.YtknchlpcpgflkaaGreatDoor

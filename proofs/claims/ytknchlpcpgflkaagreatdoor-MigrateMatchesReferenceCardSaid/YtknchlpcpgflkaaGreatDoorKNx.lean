import Derived.Test.YtknchlpcpgflkaaGreatDoorKGBG
import Derived.Test.YtknchlpcpgflkaaGreatDoorKWn
set_option maxRecDepth 100000
set_option maxHeartbeats 16000000
namespace Go.Proofs.YtknchlpcpgflkaaGreatDoor
open Go.RowKit Go.Shelf
def ThenPost (w:World) (a b:Mg) (e:Ending) (w':World):Prop:=∃ x:MgX,e = .returned (.tuple #[.agg (mgC (thenM a b) x),.int .i64 (thenE a b)])∧MgAt w' w'.heap.size (thenM a b) x∧Below w.heap.size w w'
theorem then_err {w W:World} {a b:Mg} {E:Int} (hE:thenE a b=E) (h0:E≠0) (hb:Below w.heap.size w W):ThenPost w a b (.returned (.tuple #[.agg #[.string ⟨#[]⟩,.string ⟨#[]⟩,.slice none 0 0,.slice none 0 0,.slice none 0 0],.int .i64 E])) W:=by
 subst hE;have hm:thenM a b=Mg.zero:=if_neg h0;unfold ThenPost;rw [hm];refine ⟨⟨none,0,none,0,none,0,[]⟩,rfl,⟨fun i x hx=>by simp [Mg.zero] at hx,fun i x hx=>by simp [Mg.zero] at hx,fun i x hx=>by simp at hx,rfl,Nat.zero_le _,Nat.zero_le _,fun r hr=>by simp [Mg.zero] at hr⟩,hb⟩
theorem one5 {a f:ByteArray} {A1 A2 A3:Option Addr} {n1 n2 n3 c1 c2 c3:Nat} : (#[.string a,.string f,.slice A1 n1 c1,.slice A2 n2 c2,.slice A3 n3 c3]:Array Value).all (·.oneCell')=true:=by simp [Value.oneCell']
theorem wp_rowG {ops:Array Oper} {rest:List Oper} {o:Oper} {a:Act} {W:World} {Q:Exit→Act→World→Prop} (hgd:o.guard=none) (x y:Operand) (ho:o.op = .store 30 x y) (g:Nat) (C:Array Value)
 (hx:a.eval x = .pointer (some ⟨g,0,none⟩)) (hy:a.eval y = .agg C) (hC:C.size=5) (h1:C.all (·.oneCell')=true) {old:Array Value} (hold:old.size=5) (hb:Blk W g 30 old)
 (h:wpList Tryz.prog ops Q rest (a.put o.dst undef) (W.setRow g C)):wpList Tryz.prog ops Q (o::rest) a W:=
 wpList_store_row hgd 30 x y ho g C hx hy 30 old hb (by rw [hC];kernel_rfl) (by rw [hC,hold]) h1 h
theorem row_loadG {W:World} {g:Nat} {old:Array Value} (h:Blk W g 30 old) (cells:Array Value) (hs:cells.size=5) :
 (loadVar 30 ⟨g,0,none⟩).run Tryz.prog (W.setRow g cells) = .ok (.agg cells) (W.setRow g cells):=
 run_loadVar_row (P:=Tryz.prog) _ g 30 30 cells (0,0) _ (setRow_heap W g old cells _ _ h) Tryz.underlying30 rfl (by rw [hs];kernel_rfl)
theorem row_blk {W:World} {g:Nat} {old cells:Array Value} (h:Blk W g 30 old):Blk (W.setRow g cells) g 30 cells:=setRow_heap W g old cells _ _ h
theorem row_only {W:World} {g:Nat} {cells:Array Value} : Only (fun i=>i=g) W (W.setRow g cells):=
 ⟨rfl,rfl,rfl,by rw [size_setRow];exact Nat.le_refl _,fun i _ hi=>setRow_other W g i cells hi⟩
theorem then_lms {w W:World} {B:Nat} {a b:Mg} {x y:MgX} (h:MgAt w B a x) (hb:MgAt w B b y) (hw:Below w.heap.size w W) (hB:B≤w.heap.size):∀ v∈x.tv++y.tv,LmAt W W.heap.size v.2.1 v.1:=fun v hv=>by
 rcases List.mem_append.1 hv with h1 | h1
 · exact (lms_elem (h.below (hw.mono hB)).ts h1).wide (Nat.le_trans hB hw.size)
 · exact (lms_elem (hb.below (hw.mono hB)).ts h1).wide (Nat.le_trans hB hw.size)
theorem then_ids {a b:Mg} {x y:MgX} (h1:x.tv.map (·.1)=a.ts) (h2:y.tv.map (·.1)=b.ts):((x.tv++y.tv).map fun v:LmV=>v.1.id)=(a.ts++b.ts).map (·.id):=by
 rw [← h1,← h2,← List.map_append,List.map_map];rfl
theorem then_post {w W:World} {B n nr nj gs c bo:Nat} {a b:Mg} {x y:MgX} {Ca Cb C:Array Value} {A3 A':Option Addr} {q3 c':Nat} {LV:List LmV} (h:MgAt w B a x) (hb:MgAt w B b y) (hB:B≤w.heap.size) (hE:thenE a b=0)
 (ts:ThS w W Ca Cb bo C (.slice (some ⟨gs,0,none⟩) n c) n (a.st.map (thenSt b)) (.slice A3 nr q3) nr (thenRs a b) (.slice A' nj c') nj LV) (hn:a.st.length=n) (hnr:(thenRs a b).length=nr) (hnj:LV.length=nj) (hLV:x.tv++y.tv=LV) :
 ThenPost w a b (.returned (.tuple #[.agg #[.string a.fr,.string b.tn,.slice (some ⟨gs,0,none⟩) n c,.slice A3 nr q3,.slice A' nj c'],.int .i64 0])) (W.setRow (w.heap.size+1+1) #[.string a.fr,.string b.tn,.slice (some ⟨gs,0,none⟩) n c,.slice A3 nr q3,.slice A' nj c']):=by
 have hM:thenM a b=thenG a b:=if_pos hE;have hb6:=below_row ts.hb (show w.heap.size≤w.heap.size+1+1 by omega) #[.string a.fr,.string b.tn,.slice (some ⟨gs,0,none⟩) n c,.slice A3 nr q3,.slice A' nj c'];have ho:Only (fun i=>i=w.heap.size+1+1) W (W.setRow (w.heap.size+1+1) #[.string a.fr,.string b.tn,.slice (some ⟨gs,0,none⟩) n c,.slice A3 nr q3,.slice A' nj c']):=row_only;have o1:=ho.owns ts.os (fun q hq f=>own_blk_ne ts.os ts.kz (by decide) (by rw [hq,f]));have o2:=ho.owns ts.or_ (fun q hq f=>own_blk_ne ts.or_ ts.kz (by decide) (by rw [hq,f]));have o3:=ho.owns ts.ol (fun q hq f=>own_blk_ne ts.ol ts.kz (by decide) (by rw [hq,f]));have htv:LV.map (·.1)=a.ts++b.ts:=by rw [← hLV,List.map_append,h.tv,hb.tv]
 have hel:=then_lms h hb hb6 hB;rw [hLV] at hel;unfold ThenPost;rw [hE,hM];refine ⟨⟨some ⟨gs,0,none⟩,c,A3,q3,A',c',LV⟩,?_,⟨?_,?_,?_,?_,h.fr,hb.tn,?_⟩,hb6⟩
 · unfold mgC thenG
   simp only [List.length_map,hn,hnr];rw [show (a.ts++b.ts).length=nj from by rw [← htv,List.length_map];exact hnj]
 · exact IntsAt.of_row (by rw [← hn];exact List.length_map _) o1
 · exact PrsAt.of_row hnr o2
 · exact LmsAt.of_row2 hnj o3 hel
 · exact htv
 · intro r hr
   rcases List.mem_append.1 hr with h1 | h1
   · obtain ⟨r0,h2,rfl⟩:=List.mem_map.1 h1
     refine ⟨(h.rn r0 h2).1,?_⟩;rcases named_or b.rs r0.2 with e | ⟨r1,h3,e⟩
     · show (namedL b.rs r0.2).size≤_
       rw [e];exact (h.rn r0 h2).2
     · show (namedL b.rs r0.2).size≤_
       rw [e];exact (hb.rn r1 h3).2
   · exact hb.rn r (List.mem_filter.1 h1).1
theorem gthen_any (w:World) (ht:Tbs w) (B:Nat) (a:Mg) (x:MgX) (h:MgAt w B a x) (hB:B≤w.heap.size) (hs:SmlG a) (b:Mg) (y:MgX) (hb:MgAt w B b y) (hsb:SmlG b) :
 Calls Tryz.prog 25 #[.agg (mgC a x),.agg (mgC b y)] w (ThenPost w a b):=by
 have hfa:=fun W (hW:Below w.heap.size w W)=>gformed_any W (ht.below hW) B a x (h.below (hW.mono hB)) (Nat.le_trans hB hW.size) hs;have hfb:=fun W (hW:Below w.heap.size w W)=>gformed_any W (ht.below hW) B b y (hb.below (hW.mono hB)) (Nat.le_trans hB hW.size) hsb;have hmx:=fun W (hW:Below w.heap.size w W) (a0:Int) (h0:a.st[0]? = some a0)=>max_any W B x.a1 a0 a.st x.c1 ((h.below (hW.mono hB)).st) h0 (Nat.le_trans hB hW.size) (by have:=hs.1;omega);have hfin:=fun (E:Int) (hE:thenE a b=E) (h0:E≠0) W (hb:Below w.heap.size w W)=>then_err hE h0 hb;have hte:thenE a b=if (mgB a && (mgB b && (decide (a.tn=b.fr) && a.st.all fun s=>decide (s<(b.st.length:Int)))))=false then 1 else if ¬ ((a.ts++b.ts).map (·.id)).Nodup then 9 else if 60<(thenRs a b).length∨60<(a.ts++b.ts).length then 2 else 0:=rfl;have hne:mgB a=true→a.st≠[]:=fun h=>(mgB_iff.1 h).2.2.1.1;have hcl:=fun W (hW:Below w.heap.size w W)=>cloneI_any W B x.a1 a.st x.c1 ((h.below (hW.mono hB)).st) (Nat.le_trans hB hW.size) hs.1;have HH:=hd_ h;have HHB:=hd_ hb;obtain ⟨fa,hfa1⟩:∃ r,mgB a=r:=⟨_,rfl⟩;obtain ⟨fb,hfb1⟩:∃ r,mgB b=r:=⟨_,rfl⟩;have HFA1:=hd_ hfa1;have HFB1:=hd_ hfb1;rw [hfa1] at hfa hte hne;rw [hfb1] at hfb hte;clear hfa1 hfb1 h hb;obtain ⟨afr,atn,ast,ars,ats⟩:=a;obtain ⟨a1,qa1,a2,qa2,a3,qa3,atv⟩:=x;obtain ⟨bfr,btn,bst,brs,bts⟩:=b;obtain ⟨b1,qb1,b2,qb2,b3,qb3,btv⟩:=y;obtain ⟨an,han⟩:∃ k,ast.length=k:=⟨_,rfl⟩;obtain ⟨ar,har⟩:∃ k,ars.length=k:=⟨_,rfl⟩;obtain ⟨aj,haj⟩:∃ k,ats.length=k:=⟨_,rfl⟩;obtain ⟨bn,hbn⟩:∃ k,bst.length=k:=⟨_,rfl⟩;obtain ⟨br,hbr⟩:∃ k,brs.length=k:=⟨_,rfl⟩;obtain ⟨bj,hbj⟩:∃ k,bts.length=k:=⟨_,rfl⟩;have eA:mgC ⟨afr,atn,ast,ars,ats⟩ ⟨a1,qa1,a2,qa2,a3,qa3,atv⟩=#[.string afr,.string atn,.slice a1 an qa1,.slice a2 ar qa2,.slice a3 aj qa3]:=by unfold mgC;simp only [han,har,haj]
 have eB:mgC ⟨bfr,btn,bst,brs,bts⟩ ⟨b1,qb1,b2,qb2,b3,qb3,btv⟩=#[.string bfr,.string btn,.slice b1 bn qb1,.slice b2 br qb2,.slice b3 bj qb3]:=by unfold mgC;simp only [hbn,hbr,hbj]
 rw [eA] at hfa;rw [eB] at hfb;rw [eA,eB];simp only at hmx hte hne hcl;unfold ClonePostI at hcl;rw [han] at hmx hcl;rw [hbn] at hte;have HHA:=hd_ hfa;have HHF:=hd_ hfb;have HMX:=hd_ hmx;have HFIN:=hd_ hfin;have HTE:=hd_ hte;have HNE:=hd_ hne;have HCL:=hd_ hcl;have HAN:=hd_ han;have HAR:=hd_ har;have HAJ:=hd_ haj;have HBN:=hd_ hbn;have HBR:=hd_ hbr;have HBJ:=hd_ hbj;have HS:=hd_ hs;have HSB:=hd_ hsb;have HBH:=hd_ hB;clear eA eB hfa hfb hmx hfin hte hne hcl han har haj hbn hbr hbj ht hs hsb hB;have hb:=((below_self_alloc w (.cells #[.string afr,.string atn,.slice a1 an qa1,.slice a2 ar qa2,.slice a3 aj qa3] 30)).alloc (by simp) (.cells #[.string bfr,.string btn,.slice b1 bn qb1,.slice b2 br qb2,.slice b3 bj qb3] 30)).alloc (by simp;omega) (.cells #[.string ⟨#[]⟩,.string ⟨#[]⟩,.slice none 0 0,.slice none 0 0,.slice none 0 0] 30);have k0:=((Blk.new w 30 #[.string afr,.string atn,.slice a1 an qa1,.slice a2 ar qa2,.slice a3 aj qa3]).alloc (.cells #[.string bfr,.string btn,.slice b1 bn qb1,.slice b2 br qb2,.slice b3 bj qb3] 30)).alloc (.cells #[.string ⟨#[]⟩,.string ⟨#[]⟩,.slice none 0 0,.slice none 0 0,.slice none 0 0] 30);have k1:=(Blk.new1 w (.cells #[.string afr,.string atn,.slice a1 an qa1,.slice a2 ar qa2,.slice a3 aj qa3] 30) 30 #[.string bfr,.string btn,.slice b1 bn qb1,.slice b2 br qb2,.slice b3 bj qb3]).alloc (.cells #[.string ⟨#[]⟩,.string ⟨#[]⟩,.slice none 0 0,.slice none 0 0,.slice none 0 0] 30);have k2:=Blk.new2 w (.cells #[.string afr,.string atn,.slice a1 an qa1,.slice a2 ar qa2,.slice a3 aj qa3] 30) (.cells #[.string bfr,.string btn,.slice b1 bn qb1,.slice b2 br qb2,.slice b3 bj qb3] 30) 30 #[.string ⟨#[]⟩,.string ⟨#[]⟩,.slice none 0 0,.slice none 0 0,.slice none 0 0];have HB:=hd_ hb;have K0:=hd_ k0;have K1:=hd_ k1;have K2:=hd_ k2;clear hb k0 k1 k2;go_enter Tryz.func25,Tryz.ntmps25
 go_upto_region 1 with fail
 generalize ((w.alloc (.cells #[.string afr,.string atn,.slice a1 an qa1,.slice a2 ar qa2,.slice a3 aj qa3] 30)).alloc (.cells #[.string bfr,.string btn,.slice b1 bn qb1,.slice b2 br qb2,.slice b3 bj qb3] 30)).alloc (.cells #[.string ⟨#[]⟩,.string ⟨#[]⟩,.slice none 0 0,.slice none 0 0,.slice none 0 0] 30)=W0 at *;have CA:Hid (∀ V,PSv W0 V→Calls Tryz.prog 47 #[.agg #[.string afr,.string atn,.slice a1 an qa1,.slice a2 ar qa2,.slice a3 aj qa3]] V fun e w'=>e = .returned (.bool fa)∧Below V.heap.size V w'):=hd_ (fun V hV=>HHA.out V (HB.out.trans (Below.mono hV HB.out.size)));have CB:Hid (∀ V,PSv W0 V→Calls Tryz.prog 47 #[.agg #[.string bfr,.string btn,.slice b1 bn qb1,.slice b2 br qb2,.slice b3 bj qb3]] V fun e w'=>e = .returned (.bool fb)∧Below V.heap.size V w'):=hd_ (fun V hV=>HHF.out V (HB.out.trans (Below.mono hV HB.out.size)));clear HHA HHF
 cases fa with
 | false=>
  refine wp_region_rg2 (PSv W0) RB ([isV (.agg #[.string afr,.string atn,.slice a1 an qa1,.slice a2 ar qa2,.slice a3 aj qa3]),isV (.bool false),isV (.bool true),isV (.bool true),isV (.tuple #[]),isV (.tuple #[]),isV (.tuple #[]),isV (.bool true),isV (.bool true),isV (.tuple #[]),isV (.tuple #[]),isV (.tuple #[]),isV (.tuple #[]),isV (.tuple #[]),isV (.bool true),isV (.bool true),isV (.tuple #[]),isV (.tuple #[]),isV (.tuple #[]),isV (.tuple #[]),isV (.tuple #[]),isV (.tuple #[]),isV (.tuple #[]),isV (.bool true)]) [0,1,2,3,4,5,6,7,8,9,10,11,12,13,14,15,16,17,18,19,20,21,22,23] (by kernel_rfl) (by kernel_rfl) (by kernel_rfl) (below_drewM W0) ⟨isV_mono _,isV_mono _,isV_mono _,isV_mono _,isV_mono _,isV_mono _,isV_mono _,isV_mono _,isV_mono _,isV_mono _,isV_mono _,isV_mono _,isV_mono _,isV_mono _,isV_mono _,isV_mono _,isV_mono _,isV_mono _,isV_mono _,isV_mono _,isV_mono _,isV_mono _,isV_mono _,isV_mono _,trivial⟩ ?_;intro F hF;simp only [putAll,List.map_cons,List.map_nil,Act.put,List.setIfInBounds_toArray,List.set_cons_succ,List.set_cons_zero] at hF;have HFX:=hd_ hF;clear hF;refine ⟨fun Q'=>⟨?_,?_,?_,?_,?_,?_,?_,?_,?_,?_,?_,?_,?_,?_,?_,?_,?_,?_,?_,?_,?_,?_,?_,?_,trivial⟩,?_⟩
  · intro u W hS hd hp
    have HS:=hd_ hS;clear hS;rw [HFX.out];clear hd hp;obtain ⟨r0,r1,r2⟩:=(K0.out.below HS.out K0.out.lt).all;go_wp2_with fail
    exact ⟨_,by rw [HFX.out];simp [upd],rfl,HS.out,Below.refl _ _⟩
  · intro u W hS hd hp
    have HS:=hd_ hS;clear hS;obtain ⟨d0,-⟩:=hd;have e0:u 0 = .agg #[.string afr,.string atn,.slice a1 an qa1,.slice a2 ar qa2,.slice a3 aj qa3]:=d0 rfl;rw [HFX.out];simp only [e0];clear hp d0;have HC:=hd_ (CA.out W HS.out);go_wp2_with fail
    refine HC.out.mono ?_;rintro e W2 ⟨rfl,b2⟩;go_wp2_with fail
    exact ⟨_,by rw [HFX.out];simp [upd,e0],rfl,PSv.go HS.out b2,b2⟩
  · intro u W hS hd hp
    have HS:=hd_ hS;clear hS;obtain ⟨d1,-⟩:=hd;have e1:u 1 = .bool false:=d1 rfl;rw [HFX.out];simp only [e1];clear hp d1;go_wp2_with fail
    exact ⟨_,by rw [HFX.out];simp [upd,e1],rfl,HS.out,Below.refl _ _⟩
  · intro u W hS hd hp
    have HS:=hd_ hS;clear hS;obtain ⟨d2,-⟩:=hd;have e2:u 2 = .bool true:=d2 rfl;rw [HFX.out];simp only [e2];clear hp d2;go_wp2_with fail
    exact ⟨_,by rw [HFX.out];simp [upd,e2],rfl,HS.out,Below.refl _ _⟩
  · intro u W hS hd hp
    have HS:=hd_ hS;clear hS;obtain ⟨d3,-⟩:=hd;have e3:u 3 = .bool true:=d3 rfl;rw [HFX.out];simp only [e3];clear hp d3;go_wp2_with fail
    exact ⟨_,by rw [HFX.out];simp [upd,e3];rfl,rfl,HS.out,Below.refl _ _⟩
  · intro u W hS hd hp
    have HS:=hd_ hS;clear hS;obtain ⟨d4,_,d3,-⟩:=hd;have e4:u 4 = .tuple #[]:=d4 rfl;have e3:u 3 = .bool true:=d3 rfl;rw [HFX.out];simp only [e4,e3];clear hp d4 d3;go_wp2_with fail
    exact ⟨_,by rw [HFX.out];simp [upd,e4,e3];rfl,rfl,HS.out,Below.refl _ _⟩
  · intro u W hS hd hp
    have HS:=hd_ hS;clear hS;obtain ⟨d5,d3,-⟩:=hd;have e5:u 5 = .tuple #[]:=d5 rfl;have e3:u 3 = .bool true:=d3 rfl;rw [HFX.out];simp only [e5,e3];clear hp d5 d3;go_wp2_with fail
    exact ⟨_,by rw [HFX.out];simp [upd,e5,e3];rfl,rfl,HS.out,Below.refl _ _⟩
  · intro u W hS hd hp
    have HS:=hd_ hS;clear hS;obtain ⟨d3,d6,-⟩:=hd;have e3:u 3 = .bool true:=d3 rfl;have e6:u 6 = .tuple #[]:=d6 rfl;rw [HFX.out];simp only [e3,e6];clear hp d3 d6;go_wp2_with fail
    exact ⟨_,by rw [HFX.out];simp [upd,e3,e6],rfl,HS.out,Below.refl _ _⟩
  · intro u W hS hd hp
    have HS:=hd_ hS;clear hS;obtain ⟨d7,-⟩:=hd;have e7:u 7 = .bool true:=d7 rfl;rw [HFX.out];simp only [e7];clear hp d7;go_wp2_with fail
    exact ⟨_,by rw [HFX.out];simp [upd,e7],rfl,HS.out,Below.refl _ _⟩
  · intro u W hS hd hp
    have HS:=hd_ hS;clear hS;obtain ⟨d8,-⟩:=hd;have e8:u 8 = .bool true:=d8 rfl;rw [HFX.out];simp only [e8];clear hp d8;go_wp2_with fail
    exact ⟨_,by rw [HFX.out];simp [upd,e8];rfl,rfl,HS.out,Below.refl _ _⟩
  · intro u W hS hd hp
    have HS:=hd_ hS;clear hS;obtain ⟨d9,d8,-⟩:=hd;have e9:u 9 = .tuple #[]:=d9 rfl;have e8:u 8 = .bool true:=d8 rfl;rw [HFX.out];simp only [e9,e8];clear hp d9 d8;go_wp2_with fail
    exact ⟨_,by rw [HFX.out];simp [upd,e9,e8];rfl,rfl,HS.out,Below.refl _ _⟩
  · intro u W hS hd hp
    have HS:=hd_ hS;clear hS;obtain ⟨d8,-⟩:=hd;have e8:u 8 = .bool true:=d8 rfl;rw [HFX.out];simp only [e8];clear hp d8;go_wp2_with fail
    exact ⟨_,by rw [HFX.out];simp [upd,e8];rfl,rfl,HS.out,Below.refl _ _⟩
  · intro u W hS hd hp
    have HS:=hd_ hS;clear hS;obtain ⟨d11,d8,-⟩:=hd;have e11:u 11 = .tuple #[]:=d11 rfl;have e8:u 8 = .bool true:=d8 rfl;rw [HFX.out];simp only [e11,e8];clear hp d11 d8;go_wp2_with fail
    exact ⟨_,by rw [HFX.out];simp [upd,e11,e8];rfl,rfl,HS.out,Below.refl _ _⟩
  · intro u W hS hd hp
    have HS:=hd_ hS;clear hS;obtain ⟨d10,d12,d8,-⟩:=hd;have e10:u 10 = .tuple #[]:=d10 rfl;have e12:u 12 = .tuple #[]:=d12 rfl;have e8:u 8 = .bool true:=d8 rfl;rw [HFX.out];simp only [e10,e12,e8];clear hp d10 d12 d8;go_wp2_with fail
    exact ⟨_,by rw [HFX.out];simp [upd,e10,e12,e8];rfl,rfl,HS.out,Below.refl _ _⟩
  · intro u W hS hd hp
    have HS:=hd_ hS;clear hS;obtain ⟨d8,d13,-⟩:=hd;have e8:u 8 = .bool true:=d8 rfl;have e13:u 13 = .tuple #[]:=d13 rfl;rw [HFX.out];simp only [e8,e13];clear hp d8 d13;go_wp2_with fail
    exact ⟨_,by rw [HFX.out];simp [upd,e8,e13],rfl,HS.out,Below.refl _ _⟩
  · intro u W hS hd hp
    have HS:=hd_ hS;clear hS;obtain ⟨d14,-⟩:=hd;have e14:u 14 = .bool true:=d14 rfl;rw [HFX.out];simp only [e14];clear hp d14;go_wp2_with fail
    exact ⟨_,by rw [HFX.out];simp [upd,e14],rfl,HS.out,Below.refl _ _⟩
  · intro u W hS hd hp
    have HS:=hd_ hS;clear hS;obtain ⟨d15,-⟩:=hd;have e15:u 15 = .bool true:=d15 rfl;rw [HFX.out];simp only [e15];clear hp d15;go_wp2_with fail
    exact ⟨_,by rw [HFX.out];simp [upd,e15];rfl,rfl,HS.out,Below.refl _ _⟩
  · intro u W hS hd hp
    have HS:=hd_ hS;clear hS;obtain ⟨d16,d15,-⟩:=hd;have e16:u 16 = .tuple #[]:=d16 rfl;have e15:u 15 = .bool true:=d15 rfl;rw [HFX.out];simp only [e16,e15];clear hp d16 d15;go_wp2_with fail
    exact ⟨_,by rw [HFX.out];simp [upd,e16,e15];rfl,rfl,HS.out,Below.refl _ _⟩
  · intro u W hS hd hp
    have HS:=hd_ hS;clear hS;obtain ⟨d17,_,d15,-⟩:=hd;have e17:u 17 = .tuple #[]:=d17 rfl;have e15:u 15 = .bool true:=d15 rfl;rw [HFX.out];simp only [e17,e15];clear hp d17 d15;go_wp2_with fail
    exact ⟨_,by rw [HFX.out];simp [upd,e17,e15];rfl,rfl,HS.out,Below.refl _ _⟩
  · intro u W hS hd hp
    have HS:=hd_ hS;clear hS;obtain ⟨d15,-⟩:=hd;have e15:u 15 = .bool true:=d15 rfl;rw [HFX.out];simp only [e15];clear hp d15;go_wp2_with fail
    exact ⟨_,by rw [HFX.out];simp [upd,e15];rfl,rfl,HS.out,Below.refl _ _⟩
  · intro u W hS hd hp
    have HS:=hd_ hS;clear hS;obtain ⟨d19,d15,-⟩:=hd;have e19:u 19 = .tuple #[]:=d19 rfl;have e15:u 15 = .bool true:=d15 rfl;rw [HFX.out];simp only [e19,e15];clear hp d19 d15;go_wp2_with fail
    exact ⟨_,by rw [HFX.out];simp [upd,e19,e15];rfl,rfl,HS.out,Below.refl _ _⟩
  · intro u W hS hd hp
    have HS:=hd_ hS;clear hS;obtain ⟨d20,d15,-⟩:=hd;have e20:u 20 = .tuple #[]:=d20 rfl;have e15:u 15 = .bool true:=d15 rfl;rw [HFX.out];simp only [e20,e15];clear hp d20 d15;go_wp2_with fail
    exact ⟨_,by rw [HFX.out];simp [upd,e20,e15];rfl,rfl,HS.out,Below.refl _ _⟩
  · intro u W hS hd hp
    have HS:=hd_ hS;clear hS;obtain ⟨d18,d21,d15,-⟩:=hd;have e18:u 18 = .tuple #[]:=d18 rfl;have e21:u 21 = .tuple #[]:=d21 rfl;have e15:u 15 = .bool true:=d15 rfl;rw [HFX.out];simp only [e18,e21,e15];clear hp d18 d21 d15;go_wp2_with fail
    exact ⟨_,by rw [HFX.out];simp [upd,e18,e21,e15];rfl,rfl,HS.out,Below.refl _ _⟩
  · intro u W hS hd hp
    have HS:=hd_ hS;clear hS;obtain ⟨d15,d22,-⟩:=hd;have e15:u 15 = .bool true:=d15 rfl;have e22:u 22 = .tuple #[]:=d22 rfl;rw [HFX.out];simp only [e15,e22];clear hp d15 d22;go_wp2_with fail
    exact ⟨_,by rw [HFX.out];simp [upd,e15,e22],rfl,HS.out,Below.refl _ _⟩
  intro u W hS hf;have eE:u 23 = .bool true:=hf 23 (by decide);rw [HFX.out];simp only [eE];clear eE hf HFX F;have KW:=hd_ (K2.out.below hS K2.out.lt);have HBW:=hd_ (HB.out.trans (Below.mono hS HB.out.size));have HFN:=hd_ (HFIN.out 1 (by rw [HTE.out];rfl) (by decide));have HLV:=hd_ (row_loadG KW.out #[.string ⟨#[]⟩,.string ⟨#[]⟩,.slice none 0 0,.slice none 0 0,.slice none 0 0] rfl);clear hS HB K0 K1 K2 HFIN;go_wp2_with (refine wp_rowG rfl (.tmp 4) (.tmp 41) rfl (w.heap.size+1+1) #[.string ⟨#[]⟩,.string ⟨#[]⟩,.slice none 0 0,.slice none 0 0,.slice none 0 0] rfl rfl rfl one5 rfl KW.out ?_)
  exact bodyPost_ret (v:=.tuple #[.agg #[.string ⟨#[]⟩,.string ⟨#[]⟩,.slice none 0 0,.slice none 0 0,.slice none 0 0],.int .i64 1]) (by simp [results,Tryz.results25,asAddr,HLV.out]) rfl (HFN.out _ (below_row HBW.out (show w.heap.size≤w.heap.size+1+1 by omega) #[.string ⟨#[]⟩,.string ⟨#[]⟩,.slice none 0 0,.slice none 0 0,.slice none 0 0]))
 | true=>
 cases fb with
 | false=>
  refine wp_region_rg2 (PSv W0) RB ([isV (.agg #[.string afr,.string atn,.slice a1 an qa1,.slice a2 ar qa2,.slice a3 aj qa3]),isV (.bool true),isV (.bool false),isV (.bool false),isV (.agg #[.string bfr,.string btn,.slice b1 bn qb1,.slice b2 br qb2,.slice b3 bj qb3]),isV (.bool false),isV (.bool true),isV (.bool true),isV (.bool true),isV (.tuple #[]),isV (.tuple #[]),isV (.tuple #[]),isV (.tuple #[]),isV (.tuple #[]),isV (.bool true),isV (.bool true),isV (.tuple #[]),isV (.tuple #[]),isV (.tuple #[]),isV (.tuple #[]),isV (.tuple #[]),isV (.tuple #[]),isV (.tuple #[]),isV (.bool true)]) [0,1,2,3,4,5,6,7,8,9,10,11,12,13,14,15,16,17,18,19,20,21,22,23] (by kernel_rfl) (by kernel_rfl) (by kernel_rfl) (below_drewM W0) ⟨isV_mono _,isV_mono _,isV_mono _,isV_mono _,isV_mono _,isV_mono _,isV_mono _,isV_mono _,isV_mono _,isV_mono _,isV_mono _,isV_mono _,isV_mono _,isV_mono _,isV_mono _,isV_mono _,isV_mono _,isV_mono _,isV_mono _,isV_mono _,isV_mono _,isV_mono _,isV_mono _,isV_mono _,trivial⟩ ?_;intro F hF;simp only [putAll,List.map_cons,List.map_nil,Act.put,List.setIfInBounds_toArray,List.set_cons_succ,List.set_cons_zero] at hF;have HFX:=hd_ hF;clear hF;refine ⟨fun Q'=>⟨?_,?_,?_,?_,?_,?_,?_,?_,?_,?_,?_,?_,?_,?_,?_,?_,?_,?_,?_,?_,?_,?_,?_,?_,trivial⟩,?_⟩
  · intro u W hS hd hp
    have HS:=hd_ hS;clear hS;rw [HFX.out];clear hd hp;obtain ⟨r0,r1,r2⟩:=(K0.out.below HS.out K0.out.lt).all;go_wp2_with fail
    exact ⟨_,by rw [HFX.out];simp [upd],rfl,HS.out,Below.refl _ _⟩
  · intro u W hS hd hp
    have HS:=hd_ hS;clear hS;obtain ⟨d0,-⟩:=hd;have e0:u 0 = .agg #[.string afr,.string atn,.slice a1 an qa1,.slice a2 ar qa2,.slice a3 aj qa3]:=d0 rfl;rw [HFX.out];simp only [e0];clear hp d0;have HC:=hd_ (CA.out W HS.out);go_wp2_with fail
    refine HC.out.mono ?_;rintro e W2 ⟨rfl,b2⟩;go_wp2_with fail
    exact ⟨_,by rw [HFX.out];simp [upd,e0],rfl,PSv.go HS.out b2,b2⟩
  · intro u W hS hd hp
    have HS:=hd_ hS;clear hS;obtain ⟨d1,-⟩:=hd;have e1:u 1 = .bool true:=d1 rfl;rw [HFX.out];simp only [e1];clear hp d1;go_wp2_with fail
    exact ⟨_,by rw [HFX.out];simp [upd,e1],rfl,HS.out,Below.refl _ _⟩
  · intro u W hS hd hp
    have HS:=hd_ hS;clear hS;obtain ⟨d2,-⟩:=hd;have e2:u 2 = .bool false:=d2 rfl;rw [HFX.out];simp only [e2];clear hp d2;go_wp2_with fail
    exact ⟨_,by rw [HFX.out];simp [upd,e2],rfl,HS.out,Below.refl _ _⟩
  · intro u W hS hd hp
    have HS:=hd_ hS;clear hS;obtain ⟨d3,-⟩:=hd;have e3:u 3 = .bool false:=d3 rfl;rw [HFX.out];simp only [e3];clear hp d3;obtain ⟨r0,r1,r2⟩:=(K1.out.below HS.out K1.out.lt).all;go_wp2_with fail
    exact ⟨_,by rw [HFX.out];simp [upd,e3],rfl,HS.out,Below.refl _ _⟩
  · intro u W hS hd hp
    have HS:=hd_ hS;clear hS;obtain ⟨d4,_,d3,-⟩:=hd;have e4:u 4 = .agg #[.string bfr,.string btn,.slice b1 bn qb1,.slice b2 br qb2,.slice b3 bj qb3]:=d4 rfl;have e3:u 3 = .bool false:=d3 rfl;rw [HFX.out];simp only [e4,e3];clear hp d4 d3;have HC:=hd_ (CB.out W HS.out);go_wp2_with fail
    refine HC.out.mono ?_;rintro e W2 ⟨rfl,b2⟩;go_wp2_with fail
    exact ⟨_,by rw [HFX.out];simp [upd,e4,e3],rfl,PSv.go HS.out b2,b2⟩
  · intro u W hS hd hp
    have HS:=hd_ hS;clear hS;obtain ⟨d5,d3,-⟩:=hd;have e5:u 5 = .bool false:=d5 rfl;have e3:u 3 = .bool false:=d3 rfl;rw [HFX.out];simp only [e5,e3];clear hp d5 d3;go_wp2_with fail
    exact ⟨_,by rw [HFX.out];simp [upd,e5,e3],rfl,HS.out,Below.refl _ _⟩
  · intro u W hS hd hp
    have HS:=hd_ hS;clear hS;obtain ⟨d3,d6,-⟩:=hd;have e3:u 3 = .bool false:=d3 rfl;have e6:u 6 = .bool true:=d6 rfl;rw [HFX.out];simp only [e3,e6];clear hp d3 d6;go_wp2_with fail
    exact ⟨_,by rw [HFX.out];simp [upd,e3,e6],rfl,HS.out,Below.refl _ _⟩
  · intro u W hS hd hp
    have HS:=hd_ hS;clear hS;obtain ⟨d7,-⟩:=hd;have e7:u 7 = .bool true:=d7 rfl;rw [HFX.out];simp only [e7];clear hp d7;go_wp2_with fail
    exact ⟨_,by rw [HFX.out];simp [upd,e7],rfl,HS.out,Below.refl _ _⟩
  · intro u W hS hd hp
    have HS:=hd_ hS;clear hS;obtain ⟨d8,-⟩:=hd;have e8:u 8 = .bool true:=d8 rfl;rw [HFX.out];simp only [e8];clear hp d8;go_wp2_with fail
    exact ⟨_,by rw [HFX.out];simp [upd,e8];rfl,rfl,HS.out,Below.refl _ _⟩
  · intro u W hS hd hp
    have HS:=hd_ hS;clear hS;obtain ⟨d9,d8,-⟩:=hd;have e9:u 9 = .tuple #[]:=d9 rfl;have e8:u 8 = .bool true:=d8 rfl;rw [HFX.out];simp only [e9,e8];clear hp d9 d8;go_wp2_with fail
    exact ⟨_,by rw [HFX.out];simp [upd,e9,e8];rfl,rfl,HS.out,Below.refl _ _⟩
  · intro u W hS hd hp
    have HS:=hd_ hS;clear hS;obtain ⟨d8,-⟩:=hd;have e8:u 8 = .bool true:=d8 rfl;rw [HFX.out];simp only [e8];clear hp d8;go_wp2_with fail
    exact ⟨_,by rw [HFX.out];simp [upd,e8];rfl,rfl,HS.out,Below.refl _ _⟩
  · intro u W hS hd hp
    have HS:=hd_ hS;clear hS;obtain ⟨d11,d8,-⟩:=hd;have e11:u 11 = .tuple #[]:=d11 rfl;have e8:u 8 = .bool true:=d8 rfl;rw [HFX.out];simp only [e11,e8];clear hp d11 d8;go_wp2_with fail
    exact ⟨_,by rw [HFX.out];simp [upd,e11,e8];rfl,rfl,HS.out,Below.refl _ _⟩
  · intro u W hS hd hp
    have HS:=hd_ hS;clear hS;obtain ⟨d10,d12,d8,-⟩:=hd;have e10:u 10 = .tuple #[]:=d10 rfl;have e12:u 12 = .tuple #[]:=d12 rfl;have e8:u 8 = .bool true:=d8 rfl;rw [HFX.out];simp only [e10,e12,e8];clear hp d10 d12 d8;go_wp2_with fail
    exact ⟨_,by rw [HFX.out];simp [upd,e10,e12,e8];rfl,rfl,HS.out,Below.refl _ _⟩
  · intro u W hS hd hp
    have HS:=hd_ hS;clear hS;obtain ⟨d8,d13,-⟩:=hd;have e8:u 8 = .bool true:=d8 rfl;have e13:u 13 = .tuple #[]:=d13 rfl;rw [HFX.out];simp only [e8,e13];clear hp d8 d13;go_wp2_with fail
    exact ⟨_,by rw [HFX.out];simp [upd,e8,e13],rfl,HS.out,Below.refl _ _⟩
  · intro u W hS hd hp
    have HS:=hd_ hS;clear hS;obtain ⟨d14,-⟩:=hd;have e14:u 14 = .bool true:=d14 rfl;rw [HFX.out];simp only [e14];clear hp d14;go_wp2_with fail
    exact ⟨_,by rw [HFX.out];simp [upd,e14],rfl,HS.out,Below.refl _ _⟩
  · intro u W hS hd hp
    have HS:=hd_ hS;clear hS;obtain ⟨d15,-⟩:=hd;have e15:u 15 = .bool true:=d15 rfl;rw [HFX.out];simp only [e15];clear hp d15;go_wp2_with fail
    exact ⟨_,by rw [HFX.out];simp [upd,e15];rfl,rfl,HS.out,Below.refl _ _⟩
  · intro u W hS hd hp
    have HS:=hd_ hS;clear hS;obtain ⟨d16,d15,-⟩:=hd;have e16:u 16 = .tuple #[]:=d16 rfl;have e15:u 15 = .bool true:=d15 rfl;rw [HFX.out];simp only [e16,e15];clear hp d16 d15;go_wp2_with fail
    exact ⟨_,by rw [HFX.out];simp [upd,e16,e15];rfl,rfl,HS.out,Below.refl _ _⟩
  · intro u W hS hd hp
    have HS:=hd_ hS;clear hS;obtain ⟨d17,_,d15,-⟩:=hd;have e17:u 17 = .tuple #[]:=d17 rfl;have e15:u 15 = .bool true:=d15 rfl;rw [HFX.out];simp only [e17,e15];clear hp d17 d15;go_wp2_with fail
    exact ⟨_,by rw [HFX.out];simp [upd,e17,e15];rfl,rfl,HS.out,Below.refl _ _⟩
  · intro u W hS hd hp
    have HS:=hd_ hS;clear hS;obtain ⟨d15,-⟩:=hd;have e15:u 15 = .bool true:=d15 rfl;rw [HFX.out];simp only [e15];clear hp d15;go_wp2_with fail
    exact ⟨_,by rw [HFX.out];simp [upd,e15];rfl,rfl,HS.out,Below.refl _ _⟩
  · intro u W hS hd hp
    have HS:=hd_ hS;clear hS;obtain ⟨d19,d15,-⟩:=hd;have e19:u 19 = .tuple #[]:=d19 rfl;have e15:u 15 = .bool true:=d15 rfl;rw [HFX.out];simp only [e19,e15];clear hp d19 d15;go_wp2_with fail
    exact ⟨_,by rw [HFX.out];simp [upd,e19,e15];rfl,rfl,HS.out,Below.refl _ _⟩
  · intro u W hS hd hp
    have HS:=hd_ hS;clear hS;obtain ⟨d20,d15,-⟩:=hd;have e20:u 20 = .tuple #[]:=d20 rfl;have e15:u 15 = .bool true:=d15 rfl;rw [HFX.out];simp only [e20,e15];clear hp d20 d15;go_wp2_with fail
    exact ⟨_,by rw [HFX.out];simp [upd,e20,e15];rfl,rfl,HS.out,Below.refl _ _⟩
  · intro u W hS hd hp
    have HS:=hd_ hS;clear hS;obtain ⟨d18,d21,d15,-⟩:=hd;have e18:u 18 = .tuple #[]:=d18 rfl;have e21:u 21 = .tuple #[]:=d21 rfl;have e15:u 15 = .bool true:=d15 rfl;rw [HFX.out];simp only [e18,e21,e15];clear hp d18 d21 d15;go_wp2_with fail
    exact ⟨_,by rw [HFX.out];simp [upd,e18,e21,e15];rfl,rfl,HS.out,Below.refl _ _⟩
  · intro u W hS hd hp
    have HS:=hd_ hS;clear hS;obtain ⟨d15,d22,-⟩:=hd;have e15:u 15 = .bool true:=d15 rfl;have e22:u 22 = .tuple #[]:=d22 rfl;rw [HFX.out];simp only [e15,e22];clear hp d15 d22;go_wp2_with fail
    exact ⟨_,by rw [HFX.out];simp [upd,e15,e22],rfl,HS.out,Below.refl _ _⟩
  intro u W hS hf;have eE:u 23 = .bool true:=hf 23 (by decide);rw [HFX.out];simp only [eE];clear eE hf HFX F;have KW:=hd_ (K2.out.below hS K2.out.lt);have HBW:=hd_ (HB.out.trans (Below.mono hS HB.out.size));have HFN:=hd_ (HFIN.out 1 (by rw [HTE.out];rfl) (by decide));have HLV:=hd_ (row_loadG KW.out #[.string ⟨#[]⟩,.string ⟨#[]⟩,.slice none 0 0,.slice none 0 0,.slice none 0 0] rfl);clear hS HB K0 K1 K2 HFIN;go_wp2_with (refine wp_rowG rfl (.tmp 4) (.tmp 41) rfl (w.heap.size+1+1) #[.string ⟨#[]⟩,.string ⟨#[]⟩,.slice none 0 0,.slice none 0 0,.slice none 0 0] rfl rfl rfl one5 rfl KW.out ?_)
  exact bodyPost_ret (v:=.tuple #[.agg #[.string ⟨#[]⟩,.string ⟨#[]⟩,.slice none 0 0,.slice none 0 0,.slice none 0 0],.int .i64 1]) (by simp [results,Tryz.results25,asAddr,HLV.out]) rfl (HFN.out _ (below_row HBW.out (show w.heap.size≤w.heap.size+1+1 by omega) #[.string ⟨#[]⟩,.string ⟨#[]⟩,.slice none 0 0,.slice none 0 0,.slice none 0 0]))
 | true=>
 by_cases hnm:atn=bfr
 case neg=>
  have ES:Hid ((atn.toList == bfr.toList)=false):=hd_ (str_no hnm);have HNM:=hd_ hnm;clear hnm;refine wp_region_rg2 (PSv W0) RB ([isV (.agg #[.string afr,.string atn,.slice a1 an qa1,.slice a2 ar qa2,.slice a3 aj qa3]),isV (.bool true),isV (.bool false),isV (.bool false),isV (.agg #[.string bfr,.string btn,.slice b1 bn qb1,.slice b2 br qb2,.slice b3 bj qb3]),isV (.bool true),isV (.bool false),isV (.bool false),isV (.bool false),isV (.pointer (some ⟨w.heap.size,1,none⟩)),isV (.string atn),isV (.pointer (some ⟨w.heap.size+1,0,none⟩)),isV (.string bfr),isV (.bool true),isV (.bool true),isV (.bool true),isV (.tuple #[]),isV (.tuple #[]),isV (.tuple #[]),isV (.tuple #[]),isV (.tuple #[]),isV (.tuple #[]),isV (.tuple #[]),isV (.bool true)]) [0,1,2,3,4,5,6,7,8,9,10,11,12,13,14,15,16,17,18,19,20,21,22,23] (by kernel_rfl) (by kernel_rfl) (by kernel_rfl) (below_drewM W0) ⟨isV_mono _,isV_mono _,isV_mono _,isV_mono _,isV_mono _,isV_mono _,isV_mono _,isV_mono _,isV_mono _,isV_mono _,isV_mono _,isV_mono _,isV_mono _,isV_mono _,isV_mono _,isV_mono _,isV_mono _,isV_mono _,isV_mono _,isV_mono _,isV_mono _,isV_mono _,isV_mono _,isV_mono _,trivial⟩ ?_;intro F hF;simp only [putAll,List.map_cons,List.map_nil,Act.put,List.setIfInBounds_toArray,List.set_cons_succ,List.set_cons_zero] at hF;have HFX:=hd_ hF;clear hF;refine ⟨fun Q'=>⟨?_,?_,?_,?_,?_,?_,?_,?_,?_,?_,?_,?_,?_,?_,?_,?_,?_,?_,?_,?_,?_,?_,?_,?_,trivial⟩,?_⟩
  · intro u W hS hd hp
    have HS:=hd_ hS;clear hS;rw [HFX.out];clear hd hp;obtain ⟨r0,r1,r2⟩:=(K0.out.below HS.out K0.out.lt).all;go_wp2_with fail
    exact ⟨_,by rw [HFX.out];simp [upd],rfl,HS.out,Below.refl _ _⟩
  · intro u W hS hd hp
    have HS:=hd_ hS;clear hS;obtain ⟨d0,-⟩:=hd;have e0:u 0 = .agg #[.string afr,.string atn,.slice a1 an qa1,.slice a2 ar qa2,.slice a3 aj qa3]:=d0 rfl;rw [HFX.out];simp only [e0];clear hp d0;have HC:=hd_ (CA.out W HS.out);go_wp2_with fail
    refine HC.out.mono ?_;rintro e W2 ⟨rfl,b2⟩;go_wp2_with fail
    exact ⟨_,by rw [HFX.out];simp [upd,e0],rfl,PSv.go HS.out b2,b2⟩
  · intro u W hS hd hp
    have HS:=hd_ hS;clear hS;obtain ⟨d1,-⟩:=hd;have e1:u 1 = .bool true:=d1 rfl;rw [HFX.out];simp only [e1];clear hp d1;go_wp2_with fail
    exact ⟨_,by rw [HFX.out];simp [upd,e1],rfl,HS.out,Below.refl _ _⟩
  · intro u W hS hd hp
    have HS:=hd_ hS;clear hS;obtain ⟨d2,-⟩:=hd;have e2:u 2 = .bool false:=d2 rfl;rw [HFX.out];simp only [e2];clear hp d2;go_wp2_with fail
    exact ⟨_,by rw [HFX.out];simp [upd,e2],rfl,HS.out,Below.refl _ _⟩
  · intro u W hS hd hp
    have HS:=hd_ hS;clear hS;obtain ⟨d3,-⟩:=hd;have e3:u 3 = .bool false:=d3 rfl;rw [HFX.out];simp only [e3];clear hp d3;obtain ⟨r0,r1,r2⟩:=(K1.out.below HS.out K1.out.lt).all;go_wp2_with fail
    exact ⟨_,by rw [HFX.out];simp [upd,e3],rfl,HS.out,Below.refl _ _⟩
  · intro u W hS hd hp
    have HS:=hd_ hS;clear hS;obtain ⟨d4,_,d3,-⟩:=hd;have e4:u 4 = .agg #[.string bfr,.string btn,.slice b1 bn qb1,.slice b2 br qb2,.slice b3 bj qb3]:=d4 rfl;have e3:u 3 = .bool false:=d3 rfl;rw [HFX.out];simp only [e4,e3];clear hp d4 d3;have HC:=hd_ (CB.out W HS.out);go_wp2_with fail
    refine HC.out.mono ?_;rintro e W2 ⟨rfl,b2⟩;go_wp2_with fail
    exact ⟨_,by rw [HFX.out];simp [upd,e4,e3],rfl,PSv.go HS.out b2,b2⟩
  · intro u W hS hd hp
    have HS:=hd_ hS;clear hS;obtain ⟨d5,d3,-⟩:=hd;have e5:u 5 = .bool true:=d5 rfl;have e3:u 3 = .bool false:=d3 rfl;rw [HFX.out];simp only [e5,e3];clear hp d5 d3;go_wp2_with fail
    exact ⟨_,by rw [HFX.out];simp [upd,e5,e3],rfl,HS.out,Below.refl _ _⟩
  · intro u W hS hd hp
    have HS:=hd_ hS;clear hS;obtain ⟨d3,d6,-⟩:=hd;have e3:u 3 = .bool false:=d3 rfl;have e6:u 6 = .bool false:=d6 rfl;rw [HFX.out];simp only [e3,e6];clear hp d3 d6;go_wp2_with fail
    exact ⟨_,by rw [HFX.out];simp [upd,e3,e6],rfl,HS.out,Below.refl _ _⟩
  · intro u W hS hd hp
    have HS:=hd_ hS;clear hS;obtain ⟨d7,-⟩:=hd;have e7:u 7 = .bool false:=d7 rfl;rw [HFX.out];simp only [e7];clear hp d7;go_wp2_with fail
    exact ⟨_,by rw [HFX.out];simp [upd,e7],rfl,HS.out,Below.refl _ _⟩
  · intro u W hS hd hp
    have HS:=hd_ hS;clear hS;obtain ⟨d8,-⟩:=hd;have e8:u 8 = .bool false:=d8 rfl;rw [HFX.out];simp only [e8];clear hp d8;go_wp2_with fail
    exact ⟨_,by rw [HFX.out];simp [upd,e8],rfl,HS.out,Below.refl _ _⟩
  · intro u W hS hd hp
    have HS:=hd_ hS;clear hS;obtain ⟨d9,d8,-⟩:=hd;have e9:u 9 = .pointer (some ⟨w.heap.size,1,none⟩):=d9 rfl;have e8:u 8 = .bool false:=d8 rfl;rw [HFX.out];simp only [e9,e8];clear hp d9 d8;obtain ⟨r0,r1,r2⟩:=(K0.out.below HS.out K0.out.lt).all;go_wp2_with fail
    exact ⟨_,by rw [HFX.out];simp [upd,e9,e8],rfl,HS.out,Below.refl _ _⟩
  · intro u W hS hd hp
    have HS:=hd_ hS;clear hS;obtain ⟨d8,-⟩:=hd;have e8:u 8 = .bool false:=d8 rfl;rw [HFX.out];simp only [e8];clear hp d8;go_wp2_with fail
    exact ⟨_,by rw [HFX.out];simp [upd,e8],rfl,HS.out,Below.refl _ _⟩
  · intro u W hS hd hp
    have HS:=hd_ hS;clear hS;obtain ⟨d11,d8,-⟩:=hd;have e11:u 11 = .pointer (some ⟨w.heap.size+1,0,none⟩):=d11 rfl;have e8:u 8 = .bool false:=d8 rfl;rw [HFX.out];simp only [e11,e8];clear hp d11 d8;obtain ⟨r0,r1,r2⟩:=(K1.out.below HS.out K1.out.lt).all;go_wp2_with fail
    exact ⟨_,by rw [HFX.out];simp [upd,e11,e8],rfl,HS.out,Below.refl _ _⟩
  · intro u W hS hd hp
    have HS:=hd_ hS;clear hS;obtain ⟨d10,d12,d8,-⟩:=hd;have e10:u 10 = .string atn:=d10 rfl;have e12:u 12 = .string bfr:=d12 rfl;have e8:u 8 = .bool false:=d8 rfl;rw [HFX.out];simp only [e10,e12,e8];clear hp d10 d12 d8;have es:(atn.toList == bfr.toList)=false:=ES.out;go_wp2_with fail
    exact ⟨_,by rw [HFX.out];simp [upd,e10,e12,e8],rfl,HS.out,Below.refl _ _⟩
  · intro u W hS hd hp
    have HS:=hd_ hS;clear hS;obtain ⟨d8,d13,-⟩:=hd;have e8:u 8 = .bool false:=d8 rfl;have e13:u 13 = .bool true:=d13 rfl;rw [HFX.out];simp only [e8,e13];clear hp d8 d13;go_wp2_with fail
    exact ⟨_,by rw [HFX.out];simp [upd,e8,e13],rfl,HS.out,Below.refl _ _⟩
  · intro u W hS hd hp
    have HS:=hd_ hS;clear hS;obtain ⟨d14,-⟩:=hd;have e14:u 14 = .bool true:=d14 rfl;rw [HFX.out];simp only [e14];clear hp d14;go_wp2_with fail
    exact ⟨_,by rw [HFX.out];simp [upd,e14],rfl,HS.out,Below.refl _ _⟩
  · intro u W hS hd hp
    have HS:=hd_ hS;clear hS;obtain ⟨d15,-⟩:=hd;have e15:u 15 = .bool true:=d15 rfl;rw [HFX.out];simp only [e15];clear hp d15;go_wp2_with fail
    exact ⟨_,by rw [HFX.out];simp [upd,e15];rfl,rfl,HS.out,Below.refl _ _⟩
  · intro u W hS hd hp
    have HS:=hd_ hS;clear hS;obtain ⟨d16,d15,-⟩:=hd;have e16:u 16 = .tuple #[]:=d16 rfl;have e15:u 15 = .bool true:=d15 rfl;rw [HFX.out];simp only [e16,e15];clear hp d16 d15;go_wp2_with fail
    exact ⟨_,by rw [HFX.out];simp [upd,e16,e15];rfl,rfl,HS.out,Below.refl _ _⟩
  · intro u W hS hd hp
    have HS:=hd_ hS;clear hS;obtain ⟨d17,_,d15,-⟩:=hd;have e17:u 17 = .tuple #[]:=d17 rfl;have e15:u 15 = .bool true:=d15 rfl;rw [HFX.out];simp only [e17,e15];clear hp d17 d15;go_wp2_with fail
    exact ⟨_,by rw [HFX.out];simp [upd,e17,e15];rfl,rfl,HS.out,Below.refl _ _⟩
  · intro u W hS hd hp
    have HS:=hd_ hS;clear hS;obtain ⟨d15,-⟩:=hd;have e15:u 15 = .bool true:=d15 rfl;rw [HFX.out];simp only [e15];clear hp d15;go_wp2_with fail
    exact ⟨_,by rw [HFX.out];simp [upd,e15];rfl,rfl,HS.out,Below.refl _ _⟩
  · intro u W hS hd hp
    have HS:=hd_ hS;clear hS;obtain ⟨d19,d15,-⟩:=hd;have e19:u 19 = .tuple #[]:=d19 rfl;have e15:u 15 = .bool true:=d15 rfl;rw [HFX.out];simp only [e19,e15];clear hp d19 d15;go_wp2_with fail
    exact ⟨_,by rw [HFX.out];simp [upd,e19,e15];rfl,rfl,HS.out,Below.refl _ _⟩
  · intro u W hS hd hp
    have HS:=hd_ hS;clear hS;obtain ⟨d20,d15,-⟩:=hd;have e20:u 20 = .tuple #[]:=d20 rfl;have e15:u 15 = .bool true:=d15 rfl;rw [HFX.out];simp only [e20,e15];clear hp d20 d15;go_wp2_with fail
    exact ⟨_,by rw [HFX.out];simp [upd,e20,e15];rfl,rfl,HS.out,Below.refl _ _⟩
  · intro u W hS hd hp
    have HS:=hd_ hS;clear hS;obtain ⟨d18,d21,d15,-⟩:=hd;have e18:u 18 = .tuple #[]:=d18 rfl;have e21:u 21 = .tuple #[]:=d21 rfl;have e15:u 15 = .bool true:=d15 rfl;rw [HFX.out];simp only [e18,e21,e15];clear hp d18 d21 d15;go_wp2_with fail
    exact ⟨_,by rw [HFX.out];simp [upd,e18,e21,e15];rfl,rfl,HS.out,Below.refl _ _⟩
  · intro u W hS hd hp
    have HS:=hd_ hS;clear hS;obtain ⟨d15,d22,-⟩:=hd;have e15:u 15 = .bool true:=d15 rfl;have e22:u 22 = .tuple #[]:=d22 rfl;rw [HFX.out];simp only [e15,e22];clear hp d15 d22;go_wp2_with fail
    exact ⟨_,by rw [HFX.out];simp [upd,e15,e22],rfl,HS.out,Below.refl _ _⟩
  intro u W hS hf;have eE:u 23 = .bool true:=hf 23 (by decide);rw [HFX.out];simp only [eE];clear eE hf HFX F;have KW:=hd_ (K2.out.below hS K2.out.lt);have HBW:=hd_ (HB.out.trans (Below.mono hS HB.out.size));have HFN:=hd_ (HFIN.out 1 (by rw [HTE.out];rw [decide_eq_false HNM.out];rfl) (by decide));have HLV:=hd_ (row_loadG KW.out #[.string ⟨#[]⟩,.string ⟨#[]⟩,.slice none 0 0,.slice none 0 0,.slice none 0 0] rfl);clear hS HB K0 K1 K2 HFIN;go_wp2_with (refine wp_rowG rfl (.tmp 4) (.tmp 41) rfl (w.heap.size+1+1) #[.string ⟨#[]⟩,.string ⟨#[]⟩,.slice none 0 0,.slice none 0 0,.slice none 0 0] rfl rfl rfl one5 rfl KW.out ?_)
  exact bodyPost_ret (v:=.tuple #[.agg #[.string ⟨#[]⟩,.string ⟨#[]⟩,.slice none 0 0,.slice none 0 0,.slice none 0 0],.int .i64 1]) (by simp [results,Tryz.results25,asAddr,HLV.out]) rfl (HFN.out _ (below_row HBW.out (show w.heap.size≤w.heap.size+1+1 by omega) #[.string ⟨#[]⟩,.string ⟨#[]⟩,.slice none 0 0,.slice none 0 0,.slice none 0 0]))
 subst hnm;have ES:Hid ((atn.toList == atn.toList)=true):=hd_ (by simp)
 obtain ⟨a0,ha0⟩:∃ a0,ast[0]? = some a0:=by
  have:=HNE.out (by trivial)
  cases ast with
  | nil=>exact absurd rfl this
  | cons s l=>exact ⟨s,rfl⟩
 obtain ⟨mx,hmx⟩:∃ m,maxI a0 ast=m:=⟨_,rfl⟩
 have hlt:mx<(bn:Int)↔∀ s∈ast,s<(bn:Int):=by
  rw [← hmx,maxI_lt];exact ⟨fun h=>h.2,fun h=>⟨h a0 (List.mem_of_getElem? ha0),h⟩⟩
 have hcm:=fun V (hV:PSv W0 V)=>HMX.out V (HB.out.trans (Below.mono hV HB.out.size)) a0 ha0;rw [hmx] at hcm;have CM:Hid (∀ V,PSv W0 V→Calls Tryz.prog 48 #[.slice a1 an qa1] V fun e w'=>e = .returned (.int .i64 mx)∧w'=V):=hd_ hcm;have HLT:=hd_ hlt;clear HMX hcm hlt hmx ha0;by_cases hm:mx<(bn:Int)
 case neg=>
  have EM:Hid (decide ((bn:Int)≤mx)=true):=hd_ (decide_eq_true (by omega));have HNM:Hid (¬ ∀ s∈ast,s<(bn:Int)):=hd_ (fun h=>hm (HLT.out.2 h));clear hm;refine wp_region_rg2 (PSv W0) RB ([isV (.agg #[.string afr,.string atn,.slice a1 an qa1,.slice a2 ar qa2,.slice a3 aj qa3]),isV (.bool true),isV (.bool false),isV (.bool false),isV (.agg #[.string atn,.string btn,.slice b1 bn qb1,.slice b2 br qb2,.slice b3 bj qb3]),isV (.bool true),isV (.bool false),isV (.bool false),isV (.bool false),isV (.pointer (some ⟨w.heap.size,1,none⟩)),isV (.string atn),isV (.pointer (some ⟨w.heap.size+1,0,none⟩)),isV (.string atn),isV (.bool false),isV (.bool false),isV (.bool false),isV (.pointer (some ⟨w.heap.size,2,none⟩)),isV (.slice a1 an qa1),isV (.int .i64 mx),isV (.pointer (some ⟨w.heap.size+1,2,none⟩)),isV (.slice b1 bn qb1),isV (.int .i64 (bn:Int)),isV (.bool true),isV (.bool true)]) [0,1,2,3,4,5,6,7,8,9,10,11,12,13,14,15,16,17,18,19,20,21,22,23] (by kernel_rfl) (by kernel_rfl) (by kernel_rfl) (below_drewM W0) ⟨isV_mono _,isV_mono _,isV_mono _,isV_mono _,isV_mono _,isV_mono _,isV_mono _,isV_mono _,isV_mono _,isV_mono _,isV_mono _,isV_mono _,isV_mono _,isV_mono _,isV_mono _,isV_mono _,isV_mono _,isV_mono _,isV_mono _,isV_mono _,isV_mono _,isV_mono _,isV_mono _,isV_mono _,trivial⟩ ?_;intro F hF;simp only [putAll,List.map_cons,List.map_nil,Act.put,List.setIfInBounds_toArray,List.set_cons_succ,List.set_cons_zero] at hF;have HFX:=hd_ hF;clear hF;refine ⟨fun Q'=>⟨?_,?_,?_,?_,?_,?_,?_,?_,?_,?_,?_,?_,?_,?_,?_,?_,?_,?_,?_,?_,?_,?_,?_,?_,trivial⟩,?_⟩
  · intro u W hS hd hp
    have HS:=hd_ hS;clear hS;rw [HFX.out];clear hd hp;obtain ⟨r0,r1,r2⟩:=(K0.out.below HS.out K0.out.lt).all;go_wp2_with fail
    exact ⟨_,by rw [HFX.out];simp [upd],rfl,HS.out,Below.refl _ _⟩
  · intro u W hS hd hp
    have HS:=hd_ hS;clear hS;obtain ⟨d0,-⟩:=hd;have e0:u 0 = .agg #[.string afr,.string atn,.slice a1 an qa1,.slice a2 ar qa2,.slice a3 aj qa3]:=d0 rfl;rw [HFX.out];simp only [e0];clear hp d0;have HC:=hd_ (CA.out W HS.out);go_wp2_with fail
    refine HC.out.mono ?_;rintro e W2 ⟨rfl,b2⟩;go_wp2_with fail
    exact ⟨_,by rw [HFX.out];simp [upd,e0],rfl,PSv.go HS.out b2,b2⟩
  · intro u W hS hd hp
    have HS:=hd_ hS;clear hS;obtain ⟨d1,-⟩:=hd;have e1:u 1 = .bool true:=d1 rfl;rw [HFX.out];simp only [e1];clear hp d1;go_wp2_with fail
    exact ⟨_,by rw [HFX.out];simp [upd,e1],rfl,HS.out,Below.refl _ _⟩
  · intro u W hS hd hp
    have HS:=hd_ hS;clear hS;obtain ⟨d2,-⟩:=hd;have e2:u 2 = .bool false:=d2 rfl;rw [HFX.out];simp only [e2];clear hp d2;go_wp2_with fail
    exact ⟨_,by rw [HFX.out];simp [upd,e2],rfl,HS.out,Below.refl _ _⟩
  · intro u W hS hd hp
    have HS:=hd_ hS;clear hS;obtain ⟨d3,-⟩:=hd;have e3:u 3 = .bool false:=d3 rfl;rw [HFX.out];simp only [e3];clear hp d3;obtain ⟨r0,r1,r2⟩:=(K1.out.below HS.out K1.out.lt).all;go_wp2_with fail
    exact ⟨_,by rw [HFX.out];simp [upd,e3],rfl,HS.out,Below.refl _ _⟩
  · intro u W hS hd hp
    have HS:=hd_ hS;clear hS;obtain ⟨d4,_,d3,-⟩:=hd;have e4:u 4 = .agg #[.string atn,.string btn,.slice b1 bn qb1,.slice b2 br qb2,.slice b3 bj qb3]:=d4 rfl;have e3:u 3 = .bool false:=d3 rfl;rw [HFX.out];simp only [e4,e3];clear hp d4 d3;have HC:=hd_ (CB.out W HS.out);go_wp2_with fail
    refine HC.out.mono ?_;rintro e W2 ⟨rfl,b2⟩;go_wp2_with fail
    exact ⟨_,by rw [HFX.out];simp [upd,e4,e3],rfl,PSv.go HS.out b2,b2⟩
  · intro u W hS hd hp
    have HS:=hd_ hS;clear hS;obtain ⟨d5,d3,-⟩:=hd;have e5:u 5 = .bool true:=d5 rfl;have e3:u 3 = .bool false:=d3 rfl;rw [HFX.out];simp only [e5,e3];clear hp d5 d3;go_wp2_with fail
    exact ⟨_,by rw [HFX.out];simp [upd,e5,e3],rfl,HS.out,Below.refl _ _⟩
  · intro u W hS hd hp
    have HS:=hd_ hS;clear hS;obtain ⟨d3,d6,-⟩:=hd;have e3:u 3 = .bool false:=d3 rfl;have e6:u 6 = .bool false:=d6 rfl;rw [HFX.out];simp only [e3,e6];clear hp d3 d6;go_wp2_with fail
    exact ⟨_,by rw [HFX.out];simp [upd,e3,e6],rfl,HS.out,Below.refl _ _⟩
  · intro u W hS hd hp
    have HS:=hd_ hS;clear hS;obtain ⟨d7,-⟩:=hd;have e7:u 7 = .bool false:=d7 rfl;rw [HFX.out];simp only [e7];clear hp d7;go_wp2_with fail
    exact ⟨_,by rw [HFX.out];simp [upd,e7],rfl,HS.out,Below.refl _ _⟩
  · intro u W hS hd hp
    have HS:=hd_ hS;clear hS;obtain ⟨d8,-⟩:=hd;have e8:u 8 = .bool false:=d8 rfl;rw [HFX.out];simp only [e8];clear hp d8;go_wp2_with fail
    exact ⟨_,by rw [HFX.out];simp [upd,e8],rfl,HS.out,Below.refl _ _⟩
  · intro u W hS hd hp
    have HS:=hd_ hS;clear hS;obtain ⟨d9,d8,-⟩:=hd;have e9:u 9 = .pointer (some ⟨w.heap.size,1,none⟩):=d9 rfl;have e8:u 8 = .bool false:=d8 rfl;rw [HFX.out];simp only [e9,e8];clear hp d9 d8;obtain ⟨r0,r1,r2⟩:=(K0.out.below HS.out K0.out.lt).all;go_wp2_with fail
    exact ⟨_,by rw [HFX.out];simp [upd,e9,e8],rfl,HS.out,Below.refl _ _⟩
  · intro u W hS hd hp
    have HS:=hd_ hS;clear hS;obtain ⟨d8,-⟩:=hd;have e8:u 8 = .bool false:=d8 rfl;rw [HFX.out];simp only [e8];clear hp d8;go_wp2_with fail
    exact ⟨_,by rw [HFX.out];simp [upd,e8],rfl,HS.out,Below.refl _ _⟩
  · intro u W hS hd hp
    have HS:=hd_ hS;clear hS;obtain ⟨d11,d8,-⟩:=hd;have e11:u 11 = .pointer (some ⟨w.heap.size+1,0,none⟩):=d11 rfl;have e8:u 8 = .bool false:=d8 rfl;rw [HFX.out];simp only [e11,e8];clear hp d11 d8;obtain ⟨r0,r1,r2⟩:=(K1.out.below HS.out K1.out.lt).all;go_wp2_with fail
    exact ⟨_,by rw [HFX.out];simp [upd,e11,e8],rfl,HS.out,Below.refl _ _⟩
  · intro u W hS hd hp
    have HS:=hd_ hS;clear hS;obtain ⟨d10,d12,d8,-⟩:=hd;have e10:u 10 = .string atn:=d10 rfl;have e12:u 12 = .string atn:=d12 rfl;have e8:u 8 = .bool false:=d8 rfl;rw [HFX.out];simp only [e10,e12,e8];clear hp d10 d12 d8;have es:(atn.toList == atn.toList)=true:=ES.out;go_wp2_with fail
    exact ⟨_,by rw [HFX.out];simp [upd,e10,e12,e8],rfl,HS.out,Below.refl _ _⟩
  · intro u W hS hd hp
    have HS:=hd_ hS;clear hS;obtain ⟨d8,d13,-⟩:=hd;have e8:u 8 = .bool false:=d8 rfl;have e13:u 13 = .bool false:=d13 rfl;rw [HFX.out];simp only [e8,e13];clear hp d8 d13;go_wp2_with fail
    exact ⟨_,by rw [HFX.out];simp [upd,e8,e13],rfl,HS.out,Below.refl _ _⟩
  · intro u W hS hd hp
    have HS:=hd_ hS;clear hS;obtain ⟨d14,-⟩:=hd;have e14:u 14 = .bool false:=d14 rfl;rw [HFX.out];simp only [e14];clear hp d14;go_wp2_with fail
    exact ⟨_,by rw [HFX.out];simp [upd,e14],rfl,HS.out,Below.refl _ _⟩
  · intro u W hS hd hp
    have HS:=hd_ hS;clear hS;obtain ⟨d15,-⟩:=hd;have e15:u 15 = .bool false:=d15 rfl;rw [HFX.out];simp only [e15];clear hp d15;go_wp2_with fail
    exact ⟨_,by rw [HFX.out];simp [upd,e15],rfl,HS.out,Below.refl _ _⟩
  · intro u W hS hd hp
    have HS:=hd_ hS;clear hS;obtain ⟨d16,d15,-⟩:=hd;have e16:u 16 = .pointer (some ⟨w.heap.size,2,none⟩):=d16 rfl;have e15:u 15 = .bool false:=d15 rfl;rw [HFX.out];simp only [e16,e15];clear hp d16 d15;obtain ⟨r0,r1,r2⟩:=(K0.out.below HS.out K0.out.lt).all;go_wp2_with fail
    exact ⟨_,by rw [HFX.out];simp [upd,e16,e15],rfl,HS.out,Below.refl _ _⟩
  · intro u W hS hd hp
    have HS:=hd_ hS;clear hS;obtain ⟨d17,_,d15,-⟩:=hd;have e17:u 17 = .slice a1 an qa1:=d17 rfl;have e15:u 15 = .bool false:=d15 rfl;rw [HFX.out];simp only [e17,e15];clear hp d17 d15;have HC:=hd_ (CM.out W HS.out);go_wp2_with fail
    refine HC.out.mono ?_;rintro e W2 ⟨rfl,rfl⟩;go_wp2_with fail
    exact ⟨_,by rw [HFX.out];simp [upd,e17,e15],rfl,HS.out,Below.refl _ _⟩
  · intro u W hS hd hp
    have HS:=hd_ hS;clear hS;obtain ⟨d15,-⟩:=hd;have e15:u 15 = .bool false:=d15 rfl;rw [HFX.out];simp only [e15];clear hp d15;go_wp2_with fail
    exact ⟨_,by rw [HFX.out];simp [upd,e15],rfl,HS.out,Below.refl _ _⟩
  · intro u W hS hd hp
    have HS:=hd_ hS;clear hS;obtain ⟨d19,d15,-⟩:=hd;have e19:u 19 = .pointer (some ⟨w.heap.size+1,2,none⟩):=d19 rfl;have e15:u 15 = .bool false:=d15 rfl;rw [HFX.out];simp only [e19,e15];clear hp d19 d15;obtain ⟨r0,r1,r2⟩:=(K1.out.below HS.out K1.out.lt).all;go_wp2_with fail
    exact ⟨_,by rw [HFX.out];simp [upd,e19,e15],rfl,HS.out,Below.refl _ _⟩
  · intro u W hS hd hp
    have HS:=hd_ hS;clear hS;obtain ⟨d20,d15,-⟩:=hd;have e20:u 20 = .slice b1 bn qb1:=d20 rfl;have e15:u 15 = .bool false:=d15 rfl;rw [HFX.out];simp only [e20,e15];clear hp d20 d15;go_wp2_with fail
    exact ⟨_,by rw [HFX.out];simp [upd,e20,e15],rfl,HS.out,Below.refl _ _⟩
  · intro u W hS hd hp
    have HS:=hd_ hS;clear hS;obtain ⟨d18,d21,d15,-⟩:=hd;have e18:u 18 = .int .i64 mx:=d18 rfl;have e21:u 21 = .int .i64 (bn:Int):=d21 rfl;have e15:u 15 = .bool false:=d15 rfl;rw [HFX.out];simp only [e18,e21,e15];clear hp d18 d21 d15;have es:decide ((bn:Int)≤mx)=true:=EM.out;go_wp2_with fail
    exact ⟨_,by rw [HFX.out];simp [upd,e18,e21,e15],rfl,HS.out,Below.refl _ _⟩
  · intro u W hS hd hp
    have HS:=hd_ hS;clear hS;obtain ⟨d15,d22,-⟩:=hd;have e15:u 15 = .bool false:=d15 rfl;have e22:u 22 = .bool true:=d22 rfl;rw [HFX.out];simp only [e15,e22];clear hp d15 d22;go_wp2_with fail
    exact ⟨_,by rw [HFX.out];simp [upd,e15,e22],rfl,HS.out,Below.refl _ _⟩
  intro u W hS hf;have eE:u 23 = .bool true:=hf 23 (by decide);rw [HFX.out];simp only [eE];clear eE hf HFX F;have KW:=hd_ (K2.out.below hS K2.out.lt);have HBW:=hd_ (HB.out.trans (Below.mono hS HB.out.size));have HFN:=hd_ (HFIN.out 1 (by rw [HTE.out];rw [if_pos];simpa using HNM.out) (by decide));have HLV:=hd_ (row_loadG KW.out #[.string ⟨#[]⟩,.string ⟨#[]⟩,.slice none 0 0,.slice none 0 0,.slice none 0 0] rfl);clear hS HB K0 K1 K2 HFIN;go_wp2_with (refine wp_rowG rfl (.tmp 4) (.tmp 41) rfl (w.heap.size+1+1) #[.string ⟨#[]⟩,.string ⟨#[]⟩,.slice none 0 0,.slice none 0 0,.slice none 0 0] rfl rfl rfl one5 rfl KW.out ?_)
  exact bodyPost_ret (v:=.tuple #[.agg #[.string ⟨#[]⟩,.string ⟨#[]⟩,.slice none 0 0,.slice none 0 0,.slice none 0 0],.int .i64 1]) (by simp [results,Tryz.results25,asAddr,HLV.out]) rfl (HFN.out _ (below_row HBW.out (show w.heap.size≤w.heap.size+1+1 by omega) #[.string ⟨#[]⟩,.string ⟨#[]⟩,.slice none 0 0,.slice none 0 0,.slice none 0 0]))
 have EM:Hid (decide ((bn:Int)≤mx)=false):=hd_ (decide_eq_false (by omega));have HALL:=hd_ (HLT.out.1 hm);clear hm HLT;refine wp_region_rg2 (PSv W0) RB ([isV (.agg #[.string afr,.string atn,.slice a1 an qa1,.slice a2 ar qa2,.slice a3 aj qa3]),isV (.bool true),isV (.bool false),isV (.bool false),isV (.agg #[.string atn,.string btn,.slice b1 bn qb1,.slice b2 br qb2,.slice b3 bj qb3]),isV (.bool true),isV (.bool false),isV (.bool false),isV (.bool false),isV (.pointer (some ⟨w.heap.size,1,none⟩)),isV (.string atn),isV (.pointer (some ⟨w.heap.size+1,0,none⟩)),isV (.string atn),isV (.bool false),isV (.bool false),isV (.bool false),isV (.pointer (some ⟨w.heap.size,2,none⟩)),isV (.slice a1 an qa1),isV (.int .i64 mx),isV (.pointer (some ⟨w.heap.size+1,2,none⟩)),isV (.slice b1 bn qb1),isV (.int .i64 (bn:Int)),isV (.bool false),isV (.bool false)]) [0,1,2,3,4,5,6,7,8,9,10,11,12,13,14,15,16,17,18,19,20,21,22,23] (by kernel_rfl) (by kernel_rfl) (by kernel_rfl) (below_drewM W0) ⟨isV_mono _,isV_mono _,isV_mono _,isV_mono _,isV_mono _,isV_mono _,isV_mono _,isV_mono _,isV_mono _,isV_mono _,isV_mono _,isV_mono _,isV_mono _,isV_mono _,isV_mono _,isV_mono _,isV_mono _,isV_mono _,isV_mono _,isV_mono _,isV_mono _,isV_mono _,isV_mono _,isV_mono _,trivial⟩ ?_;intro F hF;simp only [putAll,List.map_cons,List.map_nil,Act.put,List.setIfInBounds_toArray,List.set_cons_succ,List.set_cons_zero] at hF;have HFX:=hd_ hF;clear hF;refine ⟨fun Q'=>⟨?_,?_,?_,?_,?_,?_,?_,?_,?_,?_,?_,?_,?_,?_,?_,?_,?_,?_,?_,?_,?_,?_,?_,?_,trivial⟩,?_⟩
 · intro u W hS hd hp
   have HS:=hd_ hS;clear hS;rw [HFX.out];clear hd hp;obtain ⟨r0,r1,r2⟩:=(K0.out.below HS.out K0.out.lt).all;go_wp2_with fail
   exact ⟨_,by rw [HFX.out];simp [upd],rfl,HS.out,Below.refl _ _⟩
 · intro u W hS hd hp
   have HS:=hd_ hS;clear hS;obtain ⟨d0,-⟩:=hd;have e0:u 0 = .agg #[.string afr,.string atn,.slice a1 an qa1,.slice a2 ar qa2,.slice a3 aj qa3]:=d0 rfl;rw [HFX.out];simp only [e0];clear hp d0;have HC:=hd_ (CA.out W HS.out);go_wp2_with fail
   refine HC.out.mono ?_;rintro e W2 ⟨rfl,b2⟩;go_wp2_with fail
   exact ⟨_,by rw [HFX.out];simp [upd,e0],rfl,PSv.go HS.out b2,b2⟩
 · intro u W hS hd hp
   have HS:=hd_ hS;clear hS;obtain ⟨d1,-⟩:=hd;have e1:u 1 = .bool true:=d1 rfl;rw [HFX.out];simp only [e1];clear hp d1;go_wp2_with fail
   exact ⟨_,by rw [HFX.out];simp [upd,e1],rfl,HS.out,Below.refl _ _⟩
 · intro u W hS hd hp
   have HS:=hd_ hS;clear hS;obtain ⟨d2,-⟩:=hd;have e2:u 2 = .bool false:=d2 rfl;rw [HFX.out];simp only [e2];clear hp d2;go_wp2_with fail
   exact ⟨_,by rw [HFX.out];simp [upd,e2],rfl,HS.out,Below.refl _ _⟩
 · intro u W hS hd hp
   have HS:=hd_ hS;clear hS;obtain ⟨d3,-⟩:=hd;have e3:u 3 = .bool false:=d3 rfl;rw [HFX.out];simp only [e3];clear hp d3;obtain ⟨r0,r1,r2⟩:=(K1.out.below HS.out K1.out.lt).all;go_wp2_with fail
   exact ⟨_,by rw [HFX.out];simp [upd,e3],rfl,HS.out,Below.refl _ _⟩
 · intro u W hS hd hp
   have HS:=hd_ hS;clear hS;obtain ⟨d4,_,d3,-⟩:=hd;have e4:u 4 = .agg #[.string atn,.string btn,.slice b1 bn qb1,.slice b2 br qb2,.slice b3 bj qb3]:=d4 rfl;have e3:u 3 = .bool false:=d3 rfl;rw [HFX.out];simp only [e4,e3];clear hp d4 d3;have HC:=hd_ (CB.out W HS.out);go_wp2_with fail
   refine HC.out.mono ?_;rintro e W2 ⟨rfl,b2⟩;go_wp2_with fail
   exact ⟨_,by rw [HFX.out];simp [upd,e4,e3],rfl,PSv.go HS.out b2,b2⟩
 · intro u W hS hd hp
   have HS:=hd_ hS;clear hS;obtain ⟨d5,d3,-⟩:=hd;have e5:u 5 = .bool true:=d5 rfl;have e3:u 3 = .bool false:=d3 rfl;rw [HFX.out];simp only [e5,e3];clear hp d5 d3;go_wp2_with fail
   exact ⟨_,by rw [HFX.out];simp [upd,e5,e3],rfl,HS.out,Below.refl _ _⟩
 · intro u W hS hd hp
   have HS:=hd_ hS;clear hS;obtain ⟨d3,d6,-⟩:=hd;have e3:u 3 = .bool false:=d3 rfl;have e6:u 6 = .bool false:=d6 rfl;rw [HFX.out];simp only [e3,e6];clear hp d3 d6;go_wp2_with fail
   exact ⟨_,by rw [HFX.out];simp [upd,e3,e6],rfl,HS.out,Below.refl _ _⟩
 · intro u W hS hd hp
   have HS:=hd_ hS;clear hS;obtain ⟨d7,-⟩:=hd;have e7:u 7 = .bool false:=d7 rfl;rw [HFX.out];simp only [e7];clear hp d7;go_wp2_with fail
   exact ⟨_,by rw [HFX.out];simp [upd,e7],rfl,HS.out,Below.refl _ _⟩
 · intro u W hS hd hp
   have HS:=hd_ hS;clear hS;obtain ⟨d8,-⟩:=hd;have e8:u 8 = .bool false:=d8 rfl;rw [HFX.out];simp only [e8];clear hp d8;go_wp2_with fail
   exact ⟨_,by rw [HFX.out];simp [upd,e8],rfl,HS.out,Below.refl _ _⟩
 · intro u W hS hd hp
   have HS:=hd_ hS;clear hS;obtain ⟨d9,d8,-⟩:=hd;have e9:u 9 = .pointer (some ⟨w.heap.size,1,none⟩):=d9 rfl;have e8:u 8 = .bool false:=d8 rfl;rw [HFX.out];simp only [e9,e8];clear hp d9 d8;obtain ⟨r0,r1,r2⟩:=(K0.out.below HS.out K0.out.lt).all;go_wp2_with fail
   exact ⟨_,by rw [HFX.out];simp [upd,e9,e8],rfl,HS.out,Below.refl _ _⟩
 · intro u W hS hd hp
   have HS:=hd_ hS;clear hS;obtain ⟨d8,-⟩:=hd;have e8:u 8 = .bool false:=d8 rfl;rw [HFX.out];simp only [e8];clear hp d8;go_wp2_with fail
   exact ⟨_,by rw [HFX.out];simp [upd,e8],rfl,HS.out,Below.refl _ _⟩
 · intro u W hS hd hp
   have HS:=hd_ hS;clear hS;obtain ⟨d11,d8,-⟩:=hd;have e11:u 11 = .pointer (some ⟨w.heap.size+1,0,none⟩):=d11 rfl;have e8:u 8 = .bool false:=d8 rfl;rw [HFX.out];simp only [e11,e8];clear hp d11 d8;obtain ⟨r0,r1,r2⟩:=(K1.out.below HS.out K1.out.lt).all;go_wp2_with fail
   exact ⟨_,by rw [HFX.out];simp [upd,e11,e8],rfl,HS.out,Below.refl _ _⟩
 · intro u W hS hd hp
   have HS:=hd_ hS;clear hS;obtain ⟨d10,d12,d8,-⟩:=hd;have e10:u 10 = .string atn:=d10 rfl;have e12:u 12 = .string atn:=d12 rfl;have e8:u 8 = .bool false:=d8 rfl;rw [HFX.out];simp only [e10,e12,e8];clear hp d10 d12 d8;have es:(atn.toList == atn.toList)=true:=ES.out;go_wp2_with fail
   exact ⟨_,by rw [HFX.out];simp [upd,e10,e12,e8],rfl,HS.out,Below.refl _ _⟩
 · intro u W hS hd hp
   have HS:=hd_ hS;clear hS;obtain ⟨d8,d13,-⟩:=hd;have e8:u 8 = .bool false:=d8 rfl;have e13:u 13 = .bool false:=d13 rfl;rw [HFX.out];simp only [e8,e13];clear hp d8 d13;go_wp2_with fail
   exact ⟨_,by rw [HFX.out];simp [upd,e8,e13],rfl,HS.out,Below.refl _ _⟩
 · intro u W hS hd hp
   have HS:=hd_ hS;clear hS;obtain ⟨d14,-⟩:=hd;have e14:u 14 = .bool false:=d14 rfl;rw [HFX.out];simp only [e14];clear hp d14;go_wp2_with fail
   exact ⟨_,by rw [HFX.out];simp [upd,e14],rfl,HS.out,Below.refl _ _⟩
 · intro u W hS hd hp
   have HS:=hd_ hS;clear hS;obtain ⟨d15,-⟩:=hd;have e15:u 15 = .bool false:=d15 rfl;rw [HFX.out];simp only [e15];clear hp d15;go_wp2_with fail
   exact ⟨_,by rw [HFX.out];simp [upd,e15],rfl,HS.out,Below.refl _ _⟩
 · intro u W hS hd hp
   have HS:=hd_ hS;clear hS;obtain ⟨d16,d15,-⟩:=hd;have e16:u 16 = .pointer (some ⟨w.heap.size,2,none⟩):=d16 rfl;have e15:u 15 = .bool false:=d15 rfl;rw [HFX.out];simp only [e16,e15];clear hp d16 d15;obtain ⟨r0,r1,r2⟩:=(K0.out.below HS.out K0.out.lt).all;go_wp2_with fail
   exact ⟨_,by rw [HFX.out];simp [upd,e16,e15],rfl,HS.out,Below.refl _ _⟩
 · intro u W hS hd hp
   have HS:=hd_ hS;clear hS;obtain ⟨d17,_,d15,-⟩:=hd;have e17:u 17 = .slice a1 an qa1:=d17 rfl;have e15:u 15 = .bool false:=d15 rfl;rw [HFX.out];simp only [e17,e15];clear hp d17 d15;have HC:=hd_ (CM.out W HS.out);go_wp2_with fail
   refine HC.out.mono ?_;rintro e W2 ⟨rfl,rfl⟩;go_wp2_with fail
   exact ⟨_,by rw [HFX.out];simp [upd,e17,e15],rfl,HS.out,Below.refl _ _⟩
 · intro u W hS hd hp
   have HS:=hd_ hS;clear hS;obtain ⟨d15,-⟩:=hd;have e15:u 15 = .bool false:=d15 rfl;rw [HFX.out];simp only [e15];clear hp d15;go_wp2_with fail
   exact ⟨_,by rw [HFX.out];simp [upd,e15],rfl,HS.out,Below.refl _ _⟩
 · intro u W hS hd hp
   have HS:=hd_ hS;clear hS;obtain ⟨d19,d15,-⟩:=hd;have e19:u 19 = .pointer (some ⟨w.heap.size+1,2,none⟩):=d19 rfl;have e15:u 15 = .bool false:=d15 rfl;rw [HFX.out];simp only [e19,e15];clear hp d19 d15;obtain ⟨r0,r1,r2⟩:=(K1.out.below HS.out K1.out.lt).all;go_wp2_with fail
   exact ⟨_,by rw [HFX.out];simp [upd,e19,e15],rfl,HS.out,Below.refl _ _⟩
 · intro u W hS hd hp
   have HS:=hd_ hS;clear hS;obtain ⟨d20,d15,-⟩:=hd;have e20:u 20 = .slice b1 bn qb1:=d20 rfl;have e15:u 15 = .bool false:=d15 rfl;rw [HFX.out];simp only [e20,e15];clear hp d20 d15;go_wp2_with fail
   exact ⟨_,by rw [HFX.out];simp [upd,e20,e15],rfl,HS.out,Below.refl _ _⟩
 · intro u W hS hd hp
   have HS:=hd_ hS;clear hS;obtain ⟨d18,d21,d15,-⟩:=hd;have e18:u 18 = .int .i64 mx:=d18 rfl;have e21:u 21 = .int .i64 (bn:Int):=d21 rfl;have e15:u 15 = .bool false:=d15 rfl;rw [HFX.out];simp only [e18,e21,e15];clear hp d18 d21 d15;have es:decide ((bn:Int)≤mx)=false:=EM.out;go_wp2_with fail
   exact ⟨_,by rw [HFX.out];simp [upd,e18,e21,e15],rfl,HS.out,Below.refl _ _⟩
 · intro u W hS hd hp
   have HS:=hd_ hS;clear hS;obtain ⟨d15,d22,-⟩:=hd;have e15:u 15 = .bool false:=d15 rfl;have e22:u 22 = .bool false:=d22 rfl;rw [HFX.out];simp only [e15,e22];clear hp d15 d22;go_wp2_with fail
   exact ⟨_,by rw [HFX.out];simp [upd,e15,e22],rfl,HS.out,Below.refl _ _⟩
 intro u W hS hf;have eE:u 23 = .bool false:=hf 23 (by decide);rw [HFX.out];simp only [eE];clear eE hf HFX F;replace K0:=hd_ (K0.out.below hS K0.out.lt);replace K1:=hd_ (K1.out.below hS K1.out.lt);replace K2:=hd_ (K2.out.below hS K2.out.lt);replace HB:=hd_ (HB.out.trans (Below.mono hS HB.out.size));clear hS CA CB CM ES EM;obtain ⟨wq,rfl⟩:∃ q,q=W:=⟨W,rfl⟩;have hmga:=mgB_iff.1 HFA1.out;have hmgb:=mgB_iff.1 HFB1.out;have hda:=(difB_iff.1 hmga.2.2.2.2.1).2;have hdb:=(difB_iff.1 hmgb.2.2.2.2.1).2;have hta:=(difB_iff.1 hmga.2.2.2.2.2).2.2;have htb:=(difB_iff.1 hmgb.2.2.2.2.2).2.2;have hsta:=hmga.2.2.2.1;have hl60:=hmga.2.2.1.2;simp only at hda hdb hta htb hsta hl60;rw [HAJ.out] at hta;rw [HBJ.out] at htb;rw [HAN.out] at hl60;have HDA:=hd_ hda;have HDB:=hd_ hdb;have HSTA:=hd_ hsta
 have han0:0<an:=by
  rw [← HAN.out];exact List.length_pos_iff.2 (HNE.out (by trivial))
 have hatl:atv.length=aj:=by have:=congrArg List.length HH.out.tv;simp only [List.length_map] at this;rw [this];exact HAJ.out
 have hbtl:btv.length=bj:=by have:=congrArg List.length HHB.out.tv;simp only [List.length_map] at this;rw [this];exact HBJ.out
 have HATL:=hd_ hatl;have HBTL:=hd_ hbtl;have hcc:=fun V (hV:PSv wq V)=>HCL.out V (HB.out.trans (Below.mono hV HB.out.size));have hco:=fun V (hV:PSv wq V) bk (kb:Blk V bk 25 #[.slice a3 atv.length qa3,.slice b3 btv.length qb3])=>concatL_any V B (Nat.le_trans HBH.out (HB.out.trans (Below.mono hV HB.out.size)).size) a3 atv qa3 ((HH.out.below ((HB.out.trans (Below.mono hV HB.out.size)).mono HBH.out)).ts) b3 btv qb3 ((HHB.out.below ((HB.out.trans (Below.mono hV HB.out.size)).mono HBH.out)).ts) (by omega) (by omega) bk kb;rw [hatl,hbtl] at hco;have HCC:=hd_ hcc;have HCO:=hd_ hco;obtain ⟨LV,hLV⟩:∃ L,atv++btv=L:=⟨_,rfl⟩;have hLVl:LV.length=aj+bj:=by rw [← hLV,List.length_append,hatl,hbtl]
 rw [hLV] at HCO;have HLV:=hd_ hLV;have HLVL:=hd_ hLVl;have hRD:∀ V,PSv wq V→Blk V w.heap.size 30 #[.string afr,.string atn,.slice a1 an qa1,.slice a2 ar qa2,.slice a3 aj qa3]∧Blk V (w.heap.size+1) 30 #[.string atn,.string btn,.slice b1 bn qb1,.slice b2 br qb2,.slice b3 bj qb3]:=fun V hV=>⟨K0.out.below hV K0.out.lt,K1.out.below hV K1.out.lt⟩;have RD:=hd_ hRD;clear hmga hmgb hda hdb hsta hatl hbtl hcc hco hLV hLVl hRD HCL;go_upto_region 3 with fail
 refine wp_region_rg2 (PSv wq) (R3 wq.heap.size afr btn an ast (aj+bj) LV) ([isV (.pointer (some ⟨w.heap.size,0,none⟩)),isV (.string afr),isV (.pointer (some ⟨w.heap.size+1,1,none⟩)),isV (.string btn),isV (.pointer (some ⟨w.heap.size,2,none⟩)),isV (.slice a1 an qa1),ownI wq.heap.size an ast,isV (.pointer (some ⟨w.heap.size,4,none⟩)),isV (.slice a3 aj qa3),isV (.pointer (some ⟨w.heap.size+1,4,none⟩)),isV (.slice b3 bj qb3),rowK wq.heap.size 25 #[.slice a3 aj qa3,.slice b3 bj qb3] 2 2,ownL wq.heap.size (aj+bj) LV,aggT wq.heap.size afr btn an ast (aj+bj) LV,ptrT wq.heap.size,finV wq.heap.size afr btn an ast (aj+bj) LV 14]) [0,1,2,3,4,5,6,7,8,9,10,11,12,13,14,15] (by kernel_rfl) (by kernel_rfl) (by kernel_rfl) (below_drewM wq) ⟨isV_mono _,isV_mono _,isV_mono _,isV_mono _,isV_mono _,isV_mono _,ownI_mono wq.heap.size afr btn an ast (aj+bj) LV _ _ _,isV_mono _,isV_mono _,isV_mono _,isV_mono _,rowK_mono wq.heap.size afr btn an ast (aj+bj) LV _ _ _ _ _ (by decide),ownL_mono wq.heap.size afr btn an ast (aj+bj) LV _ _ _,aggT_mono wq.heap.size afr btn an ast (aj+bj) LV,ptrT_mono wq.heap.size afr btn an ast (aj+bj) LV,finV_mono wq.heap.size afr btn an ast (aj+bj) LV 14,trivial⟩ ?_;intro F hF;simp only [putAll,List.map_cons,List.map_nil,Act.put,List.setIfInBounds_toArray,List.set_cons_succ,List.set_cons_zero] at hF;have HFX:=hd_ hF;clear hF;refine ⟨fun Q'=>⟨?_,?_,?_,?_,?_,?_,?_,?_,?_,?_,?_,?_,?_,?_,?_,?_,trivial⟩,?_⟩
 · intro u W hS hd hp
   have HS:=hd_ hS;clear hS;rw [HFX.out];clear hd hp;go_wp2_with fail
   exact ⟨_,by rw [HFX.out];simp [upd],rfl,HS.out,R3.of_below (Below.refl _ _)⟩
 · intro u W hS hd hp
   have HS:=hd_ hS;clear hS;obtain ⟨d0,-⟩:=hd;have e0:u 0 = .pointer (some ⟨w.heap.size,0,none⟩):=d0 rfl;rw [HFX.out];simp only [e0];clear hp d0;obtain ⟨r0,r1,r2⟩:=(RD.out W HS.out).1.all;go_wp2_with fail
   exact ⟨_,by rw [HFX.out];simp [upd,e0],rfl,HS.out,R3.of_below (Below.refl _ _)⟩
 · intro u W hS hd hp
   have HS:=hd_ hS;clear hS;rw [HFX.out];clear hd hp;go_wp2_with fail
   exact ⟨_,by rw [HFX.out];simp [upd],rfl,HS.out,R3.of_below (Below.refl _ _)⟩
 · intro u W hS hd hp
   have HS:=hd_ hS;clear hS;obtain ⟨d2,-⟩:=hd;have e2:u 2 = .pointer (some ⟨w.heap.size+1,1,none⟩):=d2 rfl;rw [HFX.out];simp only [e2];clear hp d2;obtain ⟨r0,r1,r2⟩:=(RD.out W HS.out).2.all;go_wp2_with fail
   exact ⟨_,by rw [HFX.out];simp [upd,e2],rfl,HS.out,R3.of_below (Below.refl _ _)⟩
 · intro u W hS hd hp
   have HS:=hd_ hS;clear hS;rw [HFX.out];clear hd hp;go_wp2_with fail
   exact ⟨_,by rw [HFX.out];simp [upd],rfl,HS.out,R3.of_below (Below.refl _ _)⟩
 · intro u W hS hd hp
   have HS:=hd_ hS;clear hS;obtain ⟨d4,-⟩:=hd;have e4:u 4 = .pointer (some ⟨w.heap.size,2,none⟩):=d4 rfl;rw [HFX.out];simp only [e4];clear hp d4;obtain ⟨r0,r1,r2⟩:=(RD.out W HS.out).1.all;go_wp2_with fail
   exact ⟨_,by rw [HFX.out];simp [upd,e4],rfl,HS.out,R3.of_below (Below.refl _ _)⟩
 · intro u W hS hd hp
   have HS:=hd_ hS;clear hS;obtain ⟨d5,-⟩:=hd;have e5:u 5 = .slice a1 an qa1:=d5 rfl;rw [HFX.out];simp only [e5];clear hp d5;have HC:=hd_ (HCC.out W HS.out);go_wp2_with fail
   refine HC.out.mono ?_;rintro e W2 ⟨A,c,rfl,ho,b2⟩;go_wp2_with fail
   exact ⟨_,by rw [HFX.out];simp [upd,e5],⟨A,c,rfl,owns_base ho (Below.size HS.out)⟩,PSv.go HS.out b2,R3.of_below b2⟩
 · intro u W hS hd hp
   have HS:=hd_ hS;clear hS;rw [HFX.out];clear hd hp;go_wp2_with fail
   exact ⟨_,by rw [HFX.out];simp [upd],rfl,HS.out,R3.of_below (Below.refl _ _)⟩
 · intro u W hS hd hp
   have HS:=hd_ hS;clear hS;obtain ⟨d7,-⟩:=hd;have e7:u 7 = .pointer (some ⟨w.heap.size,4,none⟩):=d7 rfl;rw [HFX.out];simp only [e7];clear hp d7;obtain ⟨r0,r1,r2⟩:=(RD.out W HS.out).1.all;go_wp2_with fail
   exact ⟨_,by rw [HFX.out];simp [upd,e7],rfl,HS.out,R3.of_below (Below.refl _ _)⟩
 · intro u W hS hd hp
   have HS:=hd_ hS;clear hS;rw [HFX.out];clear hd hp;go_wp2_with fail
   exact ⟨_,by rw [HFX.out];simp [upd],rfl,HS.out,R3.of_below (Below.refl _ _)⟩
 · intro u W hS hd hp
   have HS:=hd_ hS;clear hS;obtain ⟨d9,-⟩:=hd;have e9:u 9 = .pointer (some ⟨w.heap.size+1,4,none⟩):=d9 rfl;rw [HFX.out];simp only [e9];clear hp d9;obtain ⟨r0,r1,r2⟩:=(RD.out W HS.out).2.all;go_wp2_with fail
   exact ⟨_,by rw [HFX.out];simp [upd,e9],rfl,HS.out,R3.of_below (Below.refl _ _)⟩
 · intro u W hS hd hp
   have HS:=hd_ hS;clear hS;obtain ⟨d8,d10,-⟩:=hd;have e8:u 8 = .slice a3 aj qa3:=d8 rfl;have e10:u 10 = .slice b3 bj qb3:=d10 rfl;rw [HFX.out];simp only [e8,e10];clear hp d8 d10;have kn:=Blk.new W 25 #[.slice a3 aj qa3,.slice b3 bj qb3];have bn0:=below_self_alloc W (.cells #[.slice a3 aj qa3,.slice b3 bj qb3] 25);go_wp2_with fail
   exact ⟨_,by rw [HFX.out];simp [upd,e8,e10],⟨_,rfl,Below.size HS.out,kn⟩,PSv.go HS.out bn0,R3.of_below bn0⟩
 · intro u W hS hd hp
   have HS:=hd_ hS;clear hS;obtain ⟨d11,-⟩:=hd;obtain ⟨g11,e11,gb11,gk11⟩:(rowK wq.heap.size 25 #[.slice a3 aj qa3,.slice b3 bj qb3] 2 2).p (u 11) (u 11) W:=d11 rfl;rw [HFX.out];simp only [e11];clear hp d11;have HC:=hd_ (HCO.out W HS.out _ gk11);go_wp2_with fail
   refine HC.out.mono ?_;rintro e W2 ⟨vv,rfl,ho,b2⟩;rw [HLVL.out] at ho;obtain ⟨A,c,rfl⟩:=own_slice ho;go_wp2_with fail
   exact ⟨_,by rw [HFX.out];simp [upd,e11],⟨A,c,rfl,owns_base ho (Below.size HS.out)⟩,PSv.go HS.out b2,R3.of_below b2⟩
 · intro u W hS hd hp
   have HS:=hd_ hS;clear hS;obtain ⟨d1,d3,d6,d12,-⟩:=hd;have e1:u 1 = .string afr:=d1 rfl;have e3:u 3 = .string btn:=d3 rfl;obtain ⟨A6,c6,e6,o6⟩:(ownI wq.heap.size an ast).p (u 6) (u 6) W:=d6 rfl;obtain ⟨A12,c12,e12,o12⟩:(ownL wq.heap.size (aj+bj) LV).p (u 12) (u 12) W:=d12 rfl;rw [HFX.out];simp only [e1,e3,e6,e12];clear hp d1 d3 d6 d12;go_wp2_with fail
   exact ⟨_,by rw [HFX.out];simp [upd,e1,e3,e6,e12],⟨_,_,_,_,rfl,o6,o12⟩,HS.out,R3.of_below (Below.refl _ _)⟩
 · intro u W hS hd hp
   have HS:=hd_ hS;clear hS;rw [HFX.out];clear hd hp;have kn:=Blk.new W 30 #[.string ⟨#[]⟩,.string ⟨#[]⟩,.slice none 0 0,.slice none 0 0,.slice none 0 0];have bn0:=below_self_alloc W (.cells #[.string ⟨#[]⟩,.string ⟨#[]⟩,.slice none 0 0,.slice none 0 0,.slice none 0 0] 30);go_wp2_with fail
   exact ⟨_,by rw [HFX.out];simp [upd],⟨_,rfl,Below.size HS.out,_,kn,rfl⟩,PSv.go HS.out bn0,R3.of_below bn0⟩
 · intro u W hS hd hp
   have HS:=hd_ hS;clear hS;obtain ⟨d14,d13,-⟩:=hd;obtain ⟨g14,e14,gb14,gm14⟩:(ptrT wq.heap.size).p (u 14) (u 14) W:=d14 rfl;obtain ⟨A13,c13,A13',c13',e13,o13,o13'⟩:(aggT wq.heap.size afr btn an ast (aj+bj) LV).p (u 13) (u 13) W:=d13 rfl;rw [HFX.out];simp only [e14,e13];clear hp d14 d13;obtain ⟨cs0,km0,ks0⟩:=gm14;have HST:=hd_ (R3.store (base:=wq.heap.size) (fr:=afr) (bn:=btn) gb14 ⟨cs0,km0,ks0⟩ row_only (row_blk km0) o13 o13');go_wp2_with (refine wp_rowG rfl (.tmp 6) (.tmp 55) rfl g14 #[.string afr,.string btn,.slice A13 an c13,.slice none 0 0,.slice A13' (aj+bj) c13'] rfl rfl rfl one5 ks0 km0 ?_)
   exact ⟨undef,by rw [HFX.out];simp [upd,e14,e13],⟨g14,(show upd u 15 undef 14=_ from by simp [upd,e14]),gb14,HST.out.2⟩,PSv.go2 HS.out gb14,HST.out.1⟩
 intro u W hS hf;obtain ⟨bo,e14,hbo,A,c,A',c',hk,ho,hl⟩:(finV wq.heap.size afr btn an ast (aj+bj) LV 14).p (u 14) (u 15) W:=hf 15 (by decide);rw [HFX.out];simp only [e14];clear e14 hf HFX F;obtain ⟨gs,hA,hgs,-⟩:=row_some ho han0;subst hA;have hw3:w.heap.size≤wq.heap.size:=HB.out.size;have hk2:=K2.out.lt;have TS:=hd_ (⟨HB.out.trans (Below.mono hS hw3),K0.out.below hS K0.out.lt,K1.out.below hS K1.out.lt,K2.out.below hS K2.out.lt,hk,owns_base ho hw3,World.ownsRow_nil _ _ _ _,owns_base hl hw3,by omega⟩:ThS w W #[.string afr,.string atn,.slice a1 an qa1,.slice a2 ar qa2,.slice a3 aj qa3] #[.string atn,.string btn,.slice b1 bn qb1,.slice b2 br qb2,.slice b3 bj qb3] bo #[.string afr,.string btn,.slice (some ⟨gs,0,none⟩) an c,.slice none 0 0,.slice A' (aj+bj) c'] (.slice (some ⟨gs,0,none⟩) an c) an ast (.slice none 0 0) 0 [] (.slice A' (aj+bj) c') (aj+bj) LV);clear hk ho hl hbo hS hw3 hk2 K0 K1 K2 HB RD HCC HCO;obtain ⟨t0,t1,t2⟩:=TS.out.ka.all;go_wp2_with fail
 go_loopw [59] (fun i wr=>∃ k:Nat,k≤an∧i = .int .i64 (k:Int)∧Hid (ThS w wr #[.string afr,.string atn,.slice a1 an qa1,.slice a2 ar qa2,.slice a3 aj qa3] #[.string atn,.string btn,.slice b1 bn qb1,.slice b2 br qb2,.slice b3 bj qb3] bo #[.string afr,.string btn,.slice (some ⟨gs,0,none⟩) an c,.slice none 0 0,.slice A' (aj+bj) c'] (.slice (some ⟨gs,0,none⟩) an c) an (stK ⟨atn,btn,bst,brs,bts⟩ ast k) (.slice none 0 0) 0 [] (.slice A' (aj+bj) c') (aj+bj) LV)) (fun i _=>an - (intOf i).toNat)
 case atStart=>exact ⟨0,Nat.zero_le _,rfl,TS⟩
 case round=>
  clear TS t0 t1 t2;obtain ⟨k,hk,rfl,TS⟩:=hrel;by_cases hlt:k<an
  · obtain ⟨s,hs⟩:∃ s,ast[k]? = some s:=⟨_,List.getElem?_eq_getElem (by rw [HAN.out];exact hlt)⟩
    obtain ⟨ga,oa,hA1,hga,p0⟩:=(HH.out.below (TS.out.hb.mono HBH.out)).st k s hs;have hA1:a1=some ⟨ga,oa,none⟩:=hA1;subst hA1;have p0:wr.cell? ⟨ga,oa+k,none⟩=some (.int .i64 s):=p0;have ib0:(0:Int)≤(k:Int):=by omega
    have ib1:(k:Int)<(an:Int):=by omega
    by_cases hs0:0≤s
    case neg=>
     have hnx:=stK_skip (b:=⟨atn,btn,bst,brs,bts⟩) hs hs0;have TS2:Hid (ThS w wr #[.string afr,.string atn,.slice (some ⟨ga,oa,none⟩) an qa1,.slice a2 ar qa2,.slice a3 aj qa3] #[.string atn,.string btn,.slice b1 bn qb1,.slice b2 br qb2,.slice b3 bj qb3] bo _ _ an (stK ⟨atn,btn,bst,brs,bts⟩ ast (k+1)) _ 0 [] _ (aj+bj) LV):=hd_ (by rw [hnx];exact TS.out);have c0:decide (0≤s)=false:=decide_eq_false hs0;clear hs hnx hs0;go_wp2
     go_roundw
     case rel=>exact ⟨k+1,by omega,by go_num,TS2⟩
     case measure=>simp [intOf];omega
    obtain ⟨sn,rfl⟩:∃ n:Nat,s=(n:Int):=⟨s.toNat,by omega⟩;have hsn:=HALL.out _ (List.mem_of_getElem? hs);obtain ⟨ns,hns⟩:∃ x,bst[sn]? = some x:=⟨_,List.getElem?_eq_getElem (by rw [HBN.out];omega)⟩;obtain ⟨gb,ob,hB1,hgb,p1⟩:=(HHB.out.below (TS.out.hb.mono HBH.out)).st sn ns hns;have hB1:b1=some ⟨gb,ob,none⟩:=hB1;subst hB1;have p1:wr.cell? ⟨gb,ob+sn,none⟩=some (.int .i64 ns):=p1
    have hth:thenSt ⟨atn,btn,bst,brs,bts⟩ (sn:Int)=ns:=by
     unfold thenSt newSt;rw [if_pos (by omega),Int.toNat_natCast];show (bst[sn]?).getD 0=ns;rw [hns];rfl
    have hnx:=stK_next (b:=⟨atn,btn,bst,brs,bts⟩) hs;rw [hth] at hnx;have TS2:Hid (ThS w (wr.drew.setCell ⟨gs,k,none⟩ (.int .i64 ns)) #[.string afr,.string atn,.slice (some ⟨ga,oa,none⟩) an qa1,.slice a2 ar qa2,.slice a3 aj qa3] #[.string atn,.string btn,.slice (some ⟨gb,ob,none⟩) bn qb1,.slice b2 br qb2,.slice b3 bj qb3] bo _ _ an (stK ⟨atn,btn,bst,brs,bts⟩ ast (k+1)) _ 0 [] _ (aj+bj) LV):=hd_ (by rw [hnx];exact (TS.out.below (below_drewM wr)).stage k ns);have c0:decide (0≤(sn:Int))=true:=decide_eq_true hs0;have cs:=TS.out.os.cellAt k (by omega);obtain ⟨v0,hv0⟩:∃ v,(intCells (stK ⟨atn,btn,bst,brs,bts⟩ ast k))[k]? = some v:=⟨_,List.getElem?_eq_getElem (by rw [intCells_len,stK_len,HAN.out];omega)⟩;rw [hv0] at cs;have fz:=TS.out.os.frozenAt k;have ic0:(0:Int)≤(sn:Int):=by omega
    have jk:k<an*1:=by omega
    obtain ⟨t0,t1,t2⟩:=TS.out.kb.all;obtain ⟨u0,u1,u2⟩:=TS.out.ko.all;clear hs hns hth hnx hv0 TS;go_upto_region 8 with fail
    refine wp_region_tail 8 (by kernel_rfl) (by kernel_rfl) ?_;simp only [List.take_succ_cons,List.take_zero,List.drop_succ_cons,List.drop_zero]
    repeat still_step
    refine wpStill_nil ?_;go_wp2
    go_roundw
    case rel=>exact ⟨k+1,by omega,by go_num,TS2⟩
    case measure=>simp [intOf];omega
  · obtain rfl:k=an:=by omega
    have nb:¬ (k:Int)<(k:Int):=by omega
    rw [show stK ⟨atn,btn,bst,brs,bts⟩ ast k=ast.map (thenSt ⟨atn,btn,bst,brs,bts⟩) from by rw [← HAN.out];exact stK_all _ _] at TS;obtain ⟨SS,hSS⟩:∃ S,ast.map (thenSt ⟨atn,btn,bst,brs,bts⟩)=S:=⟨_,rfl⟩;rw [hSS] at TS;have HSS:=hd_ hSS;clear hSS nb hlt hk;obtain ⟨i0,hi0,hz0,hz1,hz2⟩:=info_parts Tryz.infoPair;have hna:=fun V (hV:PSv wr V)=>gnamed_any V B ⟨afr,atn,ast,ars,ats⟩ ⟨a1,qa1,a2,qa2,a3,qa3,atv⟩ ((HH.out.below ((TS.out.hb.trans (Below.mono hV TS.out.hb.size)).mono HBH.out)).rs) (Nat.le_trans HBH.out (Nat.le_trans TS.out.hb.size (Below.size hV))) (by have:=HDA.out.2;simp only at this ⊢;omega) HDA.out.1;have hnb:=fun V (hV:PSv wr V)=>gnamed_any V B ⟨atn,btn,bst,brs,bts⟩ ⟨b1,qb1,b2,qb2,b3,qb3,btv⟩ ((HHB.out.below ((TS.out.hb.trans (Below.mono hV TS.out.hb.size)).mono HBH.out)).rs) (Nat.le_trans HBH.out (Nat.le_trans TS.out.hb.size (Below.size hV))) (by have:=HDB.out.2;simp only at this ⊢;omega) HDB.out.1;rw [show mgC ⟨afr,atn,ast,ars,ats⟩ ⟨a1,qa1,a2,qa2,a3,qa3,atv⟩=#[.string afr,.string atn,.slice a1 k qa1,.slice a2 ar qa2,.slice a3 aj qa3] from by unfold mgC;simp only [HAN.out,HAR.out,HAJ.out]] at hna;rw [show mgC ⟨atn,btn,bst,brs,bts⟩ ⟨b1,qb1,b2,qb2,b3,qb3,btv⟩=#[.string atn,.string btn,.slice b1 bn qb1,.slice b2 br qb2,.slice b3 bj qb3] from by unfold mgC;simp only [HBN.out,HBR.out,HBJ.out]] at hnb;have CNA:=hd_ hna;have CNB:=hd_ hnb;clear hna hnb;go_upto_region 10 with fail
    refine wp_region_rg2 (PSv wr) RB ([isV (.agg #[.string afr,.string atn,.slice a1 k qa1,.slice a2 ar qa2,.slice a3 aj qa3]),mapNV wr.heap.size ars,isV (.agg #[.string atn,.string btn,.slice b1 bn qb1,.slice b2 br qb2,.slice b3 bj qb3]),mapNV wr.heap.size brs,mapNV wr.heap.size ars,mapNV wr.heap.size brs]) [0,1,2,3,4,5] (by kernel_rfl) (by kernel_rfl) (by kernel_rfl) (below_drewM wr) ⟨isV_mono _,mapNV_mono _ _,isV_mono _,mapNV_mono _ _,mapNV_mono _ _,mapNV_mono _ _,trivial⟩ ?_;intro F hF;simp only [putAll,List.map_cons,List.map_nil,Act.put,List.setIfInBounds_toArray,List.set_cons_succ,List.set_cons_zero] at hF;have HFX:=hd_ hF;clear hF;refine ⟨fun Q'=>⟨?_,?_,?_,?_,?_,?_,trivial⟩,?_⟩
    · intro u W hS hd hp
      have HS:=hd_ hS;clear hS;rw [HFX.out];clear hd hp;obtain ⟨r0,r1,r2⟩:=(TS.out.below HS.out).ka.all;go_wp2_with fail
      exact ⟨_,by rw [HFX.out];simp [upd],rfl,HS.out,Below.refl _ _⟩
    · intro u W hS hd hp
      have HS:=hd_ hS;clear hS;obtain ⟨d0,-⟩:=hd;have e0:u 0 = .agg #[.string afr,.string atn,.slice a1 k qa1,.slice a2 ar qa2,.slice a3 aj qa3]:=d0 rfl;rw [HFX.out];simp only [e0];clear hp d0;have HC:=hd_ (CNA.out W HS.out);go_wp2_with fail
      refine HC.out.mono ?_;rintro e W2 ⟨bq,rfl,hbq,hmq,b2⟩;go_wp2_with fail
      exact ⟨_,by rw [HFX.out];simp [upd,e0],⟨bq,rfl,Nat.le_trans (Below.size HS.out) hbq,hmq⟩,PSv.go HS.out b2,b2⟩
    · intro u W hS hd hp
      have HS:=hd_ hS;clear hS;rw [HFX.out];clear hd hp;obtain ⟨r0,r1,r2⟩:=(TS.out.below HS.out).kb.all;go_wp2_with fail
      exact ⟨_,by rw [HFX.out];simp [upd],rfl,HS.out,Below.refl _ _⟩
    · intro u W hS hd hp
      have HS:=hd_ hS;clear hS;obtain ⟨d2,-⟩:=hd;have e2:u 2 = .agg #[.string atn,.string btn,.slice b1 bn qb1,.slice b2 br qb2,.slice b3 bj qb3]:=d2 rfl;rw [HFX.out];simp only [e2];clear hp d2;have HC:=hd_ (CNB.out W HS.out);go_wp2_with fail
      refine HC.out.mono ?_;rintro e W2 ⟨bq,rfl,hbq,hmq,b2⟩;go_wp2_with fail
      exact ⟨_,by rw [HFX.out];simp [upd,e2],⟨bq,rfl,Nat.le_trans (Below.size HS.out) hbq,hmq⟩,PSv.go HS.out b2,b2⟩
    · intro u W hS hd hp
      have HS:=hd_ hS;clear hS;obtain ⟨d1,-⟩:=hd;obtain ⟨z1,e1,gb1,gm1⟩:(mapNV wr.heap.size ars).p (u 1) (u 1) W:=d1 rfl;rw [HFX.out];simp only [e1];clear hp d1;go_wp2_with fail
      exact ⟨_,by rw [HFX.out];simp [upd,e1],⟨z1,rfl,gb1,gm1⟩,HS.out,Below.refl _ _⟩
    · intro u W hS hd hp
      have HS:=hd_ hS;clear hS;obtain ⟨d3,-⟩:=hd;obtain ⟨z3,e3,gb3,gm3⟩:(mapNV wr.heap.size brs).p (u 3) (u 3) W:=d3 rfl;rw [HFX.out];simp only [e3];clear hp d3;go_wp2_with fail
      exact ⟨_,by rw [HFX.out];simp [upd,e3],⟨z3,rfl,gb3,gm3⟩,HS.out,Below.refl _ _⟩
    intro u W hS hf;obtain ⟨n1,e4,-,hm1⟩:(mapNV wr.heap.size ars).p (u 4) (u 4) W:=hf 4 (by decide);obtain ⟨n2,e5,-,hm2⟩:(mapNV wr.heap.size brs).p (u 5) (u 5) W:=hf 5 (by decide);rw [HFX.out];simp only [e4,e5];clear e4 e5 hf HFX F;replace TS:=hd_ (TS.out.below hS);have M1:=hd_ hm1;have M2:=hd_ hm2;clear hm1 hm2 hS CNA CNB;obtain ⟨t0,t1,t2⟩:=TS.out.ka.all;go_wp2_with fail
    go_loopg [83] ar (fun n i wr=>∃ (j:Nat) (A2:Option Addr) (q2:Nat),j+n=ar∧i = .int .i64 (j:Int)∧Hid (ThS w wr #[.string afr,.string atn,.slice a1 k qa1,.slice a2 ar qa2,.slice a3 aj qa3] #[.string atn,.string btn,.slice b1 bn qb1,.slice b2 br qb2,.slice b3 bj qb3] bo #[.string afr,.string btn,.slice (some ⟨gs,0,none⟩) k c,.slice A2 (rrK ⟨afr,atn,ast,ars,ats⟩ ⟨atn,btn,bst,brs,bts⟩ j).length q2,.slice A' (aj+bj) c'] (.slice (some ⟨gs,0,none⟩) k c) k SS (.slice A2 (rrK ⟨afr,atn,ast,ars,ats⟩ ⟨atn,btn,bst,brs,bts⟩ j).length q2) ((rrK ⟨afr,atn,ast,ars,ats⟩ ⟨atn,btn,bst,brs,bts⟩ j).length) (rrK ⟨afr,atn,ast,ars,ats⟩ ⟨atn,btn,bst,brs,bts⟩ j) (.slice A' (aj+bj) c') (aj+bj) LV)∧Hid (MapV wr n1 (nmL ars))∧Hid (MapV wr n2 (nmL brs)))
    case atStart=>exact ⟨0,none,0,Nat.zero_add _,rfl,TS,M1,M2⟩
    case round=>
     clear TS M1 M2 t0 t1 t2;obtain ⟨j,A2,q2,hj,rfl,TS,M1,M2⟩:=hrel;by_cases hlt:j<ar
     · obtain ⟨mm,rfl⟩:∃ m,gk=m+1:=⟨gk - 1,by omega⟩
       obtain ⟨r,hr⟩:∃ r,ars[j]? = some r:=⟨_,List.getElem?_eq_getElem (by rw [HAR.out];exact hlt)⟩;obtain ⟨rn,rm⟩:=r;obtain ⟨g5,o5,hA5,hg5,p0,p1⟩:=(HH.out.below (TS.out.hb.mono HBH.out)).rs j _ hr;have hA5:a2=some ⟨g5,o5,none⟩:=hA5;subst hA5;have p0:wr.cell? ⟨g5,o5+j*2,none⟩=some (.string rn):=p0;have p1:wr.cell? ⟨g5,o5+j*2+1,none⟩=some (.string rm):=p1;have hnx:=rrK_next (a:=⟨afr,atn,ast,ars,ats⟩) (b:=⟨atn,btn,bst,brs,bts⟩) hr;have hln:=rrK_len ⟨afr,atn,ast,ars,ats⟩ ⟨atn,btn,bst,brs,bts⟩ j;simp only at hnx hln;rw [HAR.out] at hln;have hda2:ar≤60:=by have:=HDA.out.2;rw [HAR.out] at this;exact this
       obtain ⟨rr,hrr⟩:∃ rr,rrK ⟨afr,atn,ast,ars,ats⟩ ⟨atn,btn,bst,brs,bts⟩ j=rr:=⟨_,rfl⟩;rw [hrr] at hnx hln TS;obtain ⟨nn,hnn⟩:∃ n,namedL brs rm=n:=⟨_,rfl⟩;have ka:=Blk.new wr 75 #[.string rn,.string rm];have b0:=below_self_alloc wr (.cells #[.string rn,.string rm] 75);rw [hnn] at hnx;have HNX:=hd_ hnx;have HNN:=hd_ hnn;have ib0:(0:Int)≤(j:Int):=by omega
       have ib1:(j:Int)<(ar:Int):=by omega
       clear hr hnx hrr hnn;go_upto_region 14 with fail
       have ts1:=TS.out.below b0;have m1:=M1.out.below b0 M1.out.lt;have m2:=M2.out.below b0 M2.out.lt;replace TS:=hd_ ts1;replace M1:=hd_ m1;replace M2:=hd_ m2;have KA:=hd_ ka;clear ts1 m1 m2 ka b0 p0 p1;generalize wr.alloc (.cells #[.string rn,.string rm] 75)=W1 at *;generalize wr.heap.size=gp at *;have HREN:Hid (∀ V,PSv W1 V→Calls Tryz.prog 38 #[.map (some n2),.string rm] V fun e w'=>e = .returned (.string nn)∧Below V.heap.size V w'):=hd_ (fun V hV=>by have:=grenamed_any V n2 brs (M2.out.below hV M2.out.lt) rm;rw [HNN.out] at this;exact this);refine wp_region_hold (fun V=>PSv W1 V) [0,1,2,3,4,5,6] [7,8,9] [10,11,12] (by kernel_rfl) (by kernel_rfl) (fun _ d _ _ _ h=>by cases d <;> exact h) (below_drewM W1) ?_;simp only [pick,List.drop_succ_cons,List.drop_zero,List.head?_cons,Option.toList_some,List.cons_append,List.nil_append,List.append_nil]
       repeat (refine wpHeld_step ?_ rfl ?_ ?_;rotate_left;· (intro V hV;obtain ⟨y0,y1,y2⟩:=(TS.out.below hV).ko.all;obtain ⟨v0,v1,v2⟩:=(KA.out.below hV KA.out.lt).all;go_simp;with_reducible rfl))
       refine wpHeld_nil ?_;simp only [wpEarly];have HC:=hd_ (HREN.out _ (below_drewM W1));go_wp2_with fail
       refine HC.out.mono ?_;rintro e W2 ⟨rfl,b2⟩;have HS2:=hd_ (PSv.go (below_drewM W1) b2);clear b2 HC HREN;go_wp2_with fail
       refine ⟨HS2.out,?_⟩;go_wp2_with fail
       refine ⟨HS2.out,?_⟩;have kn:=Blk.new W2 75 #[.string rn,.string nn];have HS3:=hd_ (PSv.go HS2.out (below_self_alloc W2 (.cells #[.string rn,.string nn] 75)));go_wp2_with fail
       refine ⟨HS3.out,?_⟩;have TS3:=hd_ (TS.out.below HS3.out);have M13:=hd_ (M1.out.below HS3.out M1.out.lt);have M23:=hd_ (M2.out.below HS3.out M2.out.lt);have own3:=TS3.out.or_;have hba:=TS3.out.hb.size;clear TS M1 M2 KA;go_wp2_with (at_builtin;refine wpList_append_lies _ rfl _ _ 28 rfl w.heap.size 75 i0 _ 2 32 Tryz.underlying28 hi0 hz0 hz1 hz2 rfl (by omega) (.slice A2 rr.length q2) rr.length (prCells rr) rfl own3 ⟨W2.heap.size,0,none⟩ 1 1 [.string rn,.string nn] rfl rfl (World.news_of_block kn) (prCells_one [(rn,nn)]) (by omega) (by unfold maxLen;omega) (by omega) hba _ rfl ?_;intro gz cz Y own4 gr4 l4 z4;have ts4:=TS3.out.right (rr':=rr++[(rn,nn)]) (by rw [prCells_app];exact own4) gr4;have m14:=M13.out.grown gr4 (fun f=>M13.out.ne_own own3 f.symm);have m24:=M23.out.grown gr4 (fun f=>M23.out.ne_own own3 f.symm);have TS4:=hd_ ts4;have M14:=hd_ m14;have M24:=hd_ m24;obtain ⟨y0,y1,y2⟩:=ts4.ko.all;clear ts4 m14 m24 own4 gr4 l4 own3 kn)
       have TS5:=hd_ (TS4.out.set 3 (.slice (some ⟨gz,0,none⟩) (rr.length+1) cz));have M15:=hd_ (M14.out.only (only_set3 (g:=bo) (i:=3) (v:=.slice (some ⟨gz,0,none⟩) (rr.length+1) cz)) (fun f=>M14.out.ne_blk TS4.out.ko f));have M25:=hd_ (M24.out.only (only_set3 (g:=bo) (i:=3) (v:=.slice (some ⟨gz,0,none⟩) (rr.length+1) cz)) (fun f=>M24.out.ne_blk TS4.out.ko f));clear TS3 M13 M23 TS4 M14 M24 y0 y1 y2 HS2 HS3 hba;go_wp2
       go_roundg mm
       case rel=>exact ⟨j+1,some ⟨gz,0,none⟩,cz,by omega,by go_num,by rw [HNX.out,List.length_append];exact TS5,M15,M25⟩
       case measure=>omega
     · obtain rfl:gk=0:=by omega
       obtain rfl:j=ar:=by omega
       have nb:¬ (j:Int)<(j:Int):=by omega
       rw [show rrK ⟨afr,atn,ast,ars,ats⟩ ⟨atn,btn,bst,brs,bts⟩ j=rrL ⟨afr,atn,ast,ars,ats⟩ ⟨atn,btn,bst,brs,bts⟩ 0 from by rw [← HAR.out];exact rrK_all _ _] at TS;obtain ⟨t0,t1,t2⟩:=TS.out.kb.all;clear hlt hj;go_wp2_with fail
       clear nb;go_loopg [103] br (fun n i wr=>∃ (j2:Nat) (A3:Option Addr) (q3:Nat),j2+n=br∧i = .int .i64 (j2:Int)∧Hid (ThS w wr #[.string afr,.string atn,.slice a1 k qa1,.slice a2 j qa2,.slice a3 aj qa3] #[.string atn,.string btn,.slice b1 bn qb1,.slice b2 br qb2,.slice b3 bj qb3] bo #[.string afr,.string btn,.slice (some ⟨gs,0,none⟩) k c,.slice A3 (rrL ⟨afr,atn,ast,ars,ats⟩ ⟨atn,btn,bst,brs,bts⟩ j2).length q3,.slice A' (aj+bj) c'] (.slice (some ⟨gs,0,none⟩) k c) k SS (.slice A3 (rrL ⟨afr,atn,ast,ars,ats⟩ ⟨atn,btn,bst,brs,bts⟩ j2).length q3) ((rrL ⟨afr,atn,ast,ars,ats⟩ ⟨atn,btn,bst,brs,bts⟩ j2).length) (rrL ⟨afr,atn,ast,ars,ats⟩ ⟨atn,btn,bst,brs,bts⟩ j2) (.slice A' (aj+bj) c') (aj+bj) LV)∧Hid (MapV wr n1 (nmL ars)))
       case atStart=>exact ⟨0,A2,q2,Nat.zero_add _,rfl,TS,M1⟩
       case round=>
        clear TS M1 M2 t0 t1 t2;obtain ⟨j2,A3,q3,hj,rfl,TS,M1⟩:=hrel;by_cases hlt:j2<br
        · obtain ⟨mm,rfl⟩:∃ m,gk=m+1:=⟨gk - 1,by omega⟩
          obtain ⟨r,hr⟩:∃ r,brs[j2]? = some r:=⟨_,List.getElem?_eq_getElem (by rw [HBR.out];exact hlt)⟩;obtain ⟨rn,rm⟩:=r;obtain ⟨g5,o5,hA5,hg5,p0,p1⟩:=(HHB.out.below (TS.out.hb.mono HBH.out)).rs j2 _ hr;have hA5:b2=some ⟨g5,o5,none⟩:=hA5;subst hA5;have p0:wr.cell? ⟨g5,o5+j2*2,none⟩=some (.string rn):=p0;have p1:wr.cell? ⟨g5,o5+j2*2+1,none⟩=some (.string rm):=p1;have hln:=rrL_len ⟨afr,atn,ast,ars,ats⟩ ⟨atn,btn,bst,brs,bts⟩ j2;have hni:rn∈ars.map (·.1)→rrL ⟨afr,atn,ast,ars,ats⟩ ⟨atn,btn,bst,brs,bts⟩ (j2+1)=rrL ⟨afr,atn,ast,ars,ats⟩ ⟨atn,btn,bst,brs,bts⟩ j2:=fun h=>rrL_in (a:=⟨afr,atn,ast,ars,ats⟩) (b:=⟨atn,btn,bst,brs,bts⟩) hr h;have hno:rn∉ars.map (·.1)→rrL ⟨afr,atn,ast,ars,ats⟩ ⟨atn,btn,bst,brs,bts⟩ (j2+1)=rrL ⟨afr,atn,ast,ars,ats⟩ ⟨atn,btn,bst,brs,bts⟩ j2++[(rn,rm)]:=fun h=>rrL_out (a:=⟨afr,atn,ast,ars,ats⟩) (b:=⟨atn,btn,bst,brs,bts⟩) hr h;simp only at hln;rw [HAR.out,HBR.out] at hln;have hda2:j≤60:=by have:=HDA.out.2;rw [HAR.out] at this;exact this
          have hdb2:br≤60:=by have:=HDB.out.2;rw [HBR.out] at this;exact this
          obtain ⟨rr,hrr⟩:∃ rr,rrL ⟨afr,atn,ast,ars,ats⟩ ⟨atn,btn,bst,brs,bts⟩ j2=rr:=⟨_,rfl⟩;rw [hrr] at hni hno hln TS;have ka:=Blk.new wr 75 #[.string rn,.string rm];have b0:=below_self_alloc wr (.cells #[.string rn,.string rm] 75);have HNI:=hd_ hni;have HNO:=hd_ hno;have ib0:(0:Int)≤(j2:Int):=by omega
          have ib1:(j2:Int)<(br:Int):=by omega
          clear hr hni hno hrr;go_upto_region 19 with fail
          have ts1:=TS.out.below b0;have m1:=M1.out.below b0 M1.out.lt;replace TS:=hd_ ts1;replace M1:=hd_ m1;have KA:=hd_ ka;clear ts1 m1 b0 p0 p1;generalize wr.alloc (.cells #[.string rn,.string rm] 75)=W1 at *;generalize wr.heap.size=gp at *;obtain ⟨v0,v1,v2⟩:=ka.all;clear ka;by_cases hin:rn∈ars.map (·.1)
          · obtain ⟨y,hy,hye⟩:=List.mem_map.1 hin
            have hmm:((.string rn:Value),(.string y.2:Value))∈nmL ars:=List.mem_map.2 ⟨y,hy,by rw [← hye]⟩;have lk:=M1.out.look_some kysStr Tryz.underlying83 (nmL_G _) hmm true;rw [if_pos rfl] at lk;have HNX:=hd_ (HNI.out hin);clear hin hy hye hmm HNI HNO;go_wp2
            go_roundg mm
            case rel=>exact ⟨j2+1,A3,q3,by omega,by go_num,by rw [HNX.out];exact TS,M1⟩
            case measure=>omega
          · have lk:=M1.out.look_none kysStr Tryz.underlying83 (nmL_G _) (x:=.string rn) ⟨_,rfl⟩ (nmL_ne hin) (Tryz.zeroValue9 W1) true
            rw [if_pos rfl] at lk;have HNX:=hd_ (HNO.out hin);clear hin HNI HNO;go_upto_region 21 with fail
            clear lk;have kn:=Blk.new W1 75 #[.string rn,.string rm];have TS3:=hd_ (TS.out.below (below_self_alloc W1 (.cells #[.string rn,.string rm] 75)));have M13:=hd_ (M1.out.below (below_self_alloc W1 (.cells #[.string rn,.string rm] 75)) M1.out.lt);have own3:=TS3.out.or_;have hba:=TS3.out.hb.size;obtain ⟨x0,x1,x2⟩:=TS.out.ko.all;clear TS M1 KA;go_upto_region 22 with (at_builtin;refine wpList_append_lies _ rfl _ _ 28 rfl w.heap.size 75 i0 _ 2 32 Tryz.underlying28 hi0 hz0 hz1 hz2 rfl (by omega) (.slice A3 rr.length q3) rr.length (prCells rr) rfl own3 ⟨W1.heap.size,0,none⟩ 1 1 [.string rn,.string rm] rfl rfl (World.news_of_block kn) (prCells_one [(rn,rm)]) (by omega) (by unfold maxLen;omega) (by omega) hba _ rfl ?_;intro gz cz Y own4 gr4 l4 z4;have ts4:=TS3.out.right (rr':=rr++[(rn,rm)]) (by rw [prCells_app];exact own4) gr4;have m14:=M13.out.grown gr4 (fun f=>M13.out.ne_own own3 f.symm);have TS4:=hd_ ts4;have M14:=hd_ m14;obtain ⟨y0,y1,y2⟩:=ts4.ko.all;clear ts4 m14 own4 gr4 l4 own3 kn)
            have TS5:=hd_ (TS4.out.set 3 (.slice (some ⟨gz,0,none⟩) (rr.length+1) cz));have M15:=hd_ (M14.out.only (only_set3 (g:=bo) (i:=3) (v:=.slice (some ⟨gz,0,none⟩) (rr.length+1) cz)) (fun f=>M14.out.ne_blk TS4.out.ko f));clear TS3 M13 TS4 M14 hba y0 y1 y2 x0 x1 x2 v0 v1 v2;go_wp2
            go_roundg mm
            case rel=>exact ⟨j2+1,some ⟨gz,0,none⟩,cz,by omega,by go_num,by rw [HNX.out,List.length_append];exact TS5,M15⟩
            case measure=>omega
        · obtain rfl:gk=0:=by omega
          obtain rfl:j2=br:=by omega
          have nb:¬ (j2:Int)<(j2:Int):=by omega
          rw [show rrL ⟨afr,atn,ast,ars,ats⟩ ⟨atn,btn,bst,brs,bts⟩ j2=thenRs ⟨afr,atn,ast,ars,ats⟩ ⟨atn,btn,bst,brs,bts⟩ from by rw [← HBR.out];exact rrL_all _ _] at TS;clear M1 hlt hj i0 hi0 hz0 hz1 hz2;obtain ⟨RR,hRR⟩:∃ R,thenRs ⟨afr,atn,ast,ars,ats⟩ ⟨atn,btn,bst,brs,bts⟩=R:=⟨_,rfl⟩;obtain ⟨NR,hNR⟩:∃ n,RR.length=n:=⟨_,rfl⟩;obtain ⟨NJ,hNJ⟩:∃ n,aj+bj=n:=⟨_,rfl⟩;have hpo:=fun W5 (hE:thenE ⟨afr,atn,ast,ars,ats⟩ ⟨atn,btn,bst,brs,bts⟩=0) ts=>then_post (W:=W5) (bo:=bo) (gs:=gs) (c:=c) (A3:=A3) (q3:=q3) (A':=A') (c':=c') (n:=k) (nr:=NR) (nj:=NJ) (LV:=LV) (Ca:=#[.string afr,.string atn,.slice a1 k qa1,.slice a2 j qa2,.slice a3 aj qa3]) (Cb:=#[.string atn,.string btn,.slice b1 bn qb1,.slice b2 j2 qb2,.slice b3 bj qb3]) (C:=#[.string afr,.string btn,.slice (some ⟨gs,0,none⟩) k c,.slice A3 NR q3,.slice A' NJ c']) HH.out HHB.out HBH.out hE ts HAN.out (by rw [hRR];exact hNR) (by rw [HLVL.out];exact hNJ) HLV.out;simp only at hpo;have hlv:=LmsAt.of_row2 HLVL.out TS.out.ol (by rw [← HLV.out];exact then_lms HH.out HHB.out TS.out.hb HBH.out);have hids:=then_ids HH.out.tv HHB.out.tv;rw [HLV.out] at hids;simp only at hids;have hon:=onceL_any wr wr.heap.size A' LV c' hlv (Nat.le_refl _) (by rw [HLVL.out];omega) 61 (enters_of Tryz.func61 (by kernel_rfl) rfl) keyT_any;rw [hids,HLVL.out,hNJ] at hon;have hal:(ats++bts).length=NJ:=by rw [List.length_append,HAJ.out,HBJ.out];exact hNJ
          obtain ⟨od,hod⟩:∃ r,decide (((ats++bts).map (·.id)).Nodup)=r:=⟨_,rfl⟩;rw [hod] at hon;have hte:=HTE.out;rw [if_neg (by simpa using HALL.out),hRR,hNR,hal] at hte;have HPO:=hd_ hpo;have HON:=hd_ hon;have HTE2:=hd_ hte;have HOD:=hd_ hod;have HSR:=hd_ hRR;rw [hRR,hNR,hNJ] at TS;clear hpo hlv hids hon hte hod hRR hNR hal HTE nb;obtain ⟨t0,t1,t2⟩:=TS.out.ko.all;go_wp2_with fail
          refine HON.out.mono ?_;rintro e W5 ⟨rfl,b5⟩;replace TS:=hd_ (TS.out.below b5);clear t0 t1 t2 HON b5 hNJ;obtain ⟨t0,t1,t2⟩:=TS.out.ko.all;have hlx:=row_loadG TS.out.kz #[.string ⟨#[]⟩,.string ⟨#[]⟩,.slice none 0 0,.slice none 0 0,.slice none 0 0] rfl;have HLX:=hd_ hlx;clear hlx
          cases od with
          | false=>
           have HFN:=hd_ (HFIN.out 9 (by rw [HTE2.out,if_pos (of_decide_eq_false HOD.out)]) (by decide));go_upto_region 24 with fail
           clear t0 t1 t2;go_wp2_with (refine wp_rowG rfl (.tmp 4) (.tmp 128) rfl (w.heap.size+1+1) #[.string ⟨#[]⟩,.string ⟨#[]⟩,.slice none 0 0,.slice none 0 0,.slice none 0 0] rfl rfl rfl one5 rfl TS.out.kz ?_)
           exact bodyPost_ret (v:=.tuple #[.agg #[.string ⟨#[]⟩,.string ⟨#[]⟩,.slice none 0 0,.slice none 0 0,.slice none 0 0],.int .i64 9]) (by simp [results,Tryz.results25,asAddr,HLX.out]) rfl (HFN.out _ (below_row TS.out.hb (show w.heap.size≤w.heap.size+1+1 by omega) #[.string ⟨#[]⟩,.string ⟨#[]⟩,.slice none 0 0,.slice none 0 0,.slice none 0 0]))
          | true=>
           have hte:=HTE2.out;rw [if_neg (fun h=>h (of_decide_eq_true HOD.out))] at hte;obtain ⟨M,hM⟩:∃ M:Int,M=max (NR:Int) (NJ:Int):=⟨_,rfl⟩;have hmx:=run_max2 (P:=Tryz.prog) (NR:Int) (NJ:Int) M hM;by_cases hb60:60<NR∨60<NJ
           · have c0:decide (60<M)=true:=decide_eq_true (by omega)
             have HFN:=hd_ (HFIN.out 2 (by rw [hte,if_pos hb60]) (by decide));clear hM hte hb60;go_upto_region 26 with fail
             clear t0 t1 t2;go_wp2_with (refine wp_rowG rfl (.tmp 4) (.tmp 138) rfl (w.heap.size+1+1) #[.string ⟨#[]⟩,.string ⟨#[]⟩,.slice none 0 0,.slice none 0 0,.slice none 0 0] rfl rfl rfl one5 rfl TS.out.kz ?_)
             exact bodyPost_ret (v:=.tuple #[.agg #[.string ⟨#[]⟩,.string ⟨#[]⟩,.slice none 0 0,.slice none 0 0,.slice none 0 0],.int .i64 2]) (by simp [results,Tryz.results25,asAddr,HLX.out]) rfl (HFN.out _ (below_row TS.out.hb (show w.heap.size≤w.heap.size+1+1 by omega) #[.string ⟨#[]⟩,.string ⟨#[]⟩,.slice none 0 0,.slice none 0 0,.slice none 0 0]))
           · have c0:decide (60<M)=false:=decide_eq_false (by omega)
             rw [if_neg hb60] at hte;have HTE3:=hd_ hte;have HP:=hd_ (HPO.out W5 HTE3.out (by rw [HSS.out,HSR.out];exact TS.out));have HLY:=hd_ (row_loadG TS.out.kz #[.string afr,.string btn,.slice (some ⟨gs,0,none⟩) k c,.slice A3 NR q3,.slice A' NJ c'] rfl);clear hM hte hb60;go_upto_region 27 with fail
             go_wp2_with (refine wp_rowG rfl (.tmp 4) (.tmp 139) rfl (w.heap.size+1+1) #[.string afr,.string btn,.slice (some ⟨gs,0,none⟩) k c,.slice A3 NR q3,.slice A' NJ c'] rfl rfl rfl one5 rfl TS.out.kz ?_)
             exact bodyPost_ret (v:=.tuple #[.agg #[.string afr,.string btn,.slice (some ⟨gs,0,none⟩) k c,.slice A3 NR q3,.slice A' NJ c'],.int .i64 0]) (by simp [results,Tryz.results25,asAddr,HLY.out]) rfl HP.out
end Go.Proofs.YtknchlpcpgflkaaGreatDoor

import Derived.Test.YtknchlpcpgflkaaGreatDoorKNx
import Derived.Test.YtknchlpcpgflkaaGreatDoorKGBG
import Derived.Test.YtknchlpcpgflkaaGreatDoorKGBB
import Derived.Test.YtknchlpcpgflkaaGreatDoorKWn
import Derived.Test.YtknchlpcpgflkaaGreatDoorKGAB
import Derived.Deep.LoopGhost
set_option maxRecDepth 100000
set_option maxHeartbeats 16000000
namespace Go.Proofs.YtknchlpcpgflkaaGreatDoor
open Go.RowKit Go.Shelf
theorem apply_sml {m:Mt} {g:Mg} {p q:Pc} {day:Int} {l:List Int} (h:Sml m):Sml (applyM m g p q day l):=by
 by_cases h0:applyE m g p q day l=0
 · obtain ⟨-,-,-,-,-,he⟩:=apply_ok h0
   rw [he];refine ⟨h.1,h.2.1,Nat.le_trans (mergeR_len _ _) h.2.2.1,?_⟩;show (chgL g.ts day l m.ls).length≤_;unfold chgL;rw [List.length_map];exact h.2.2.2
 · rw [apply_no h0]
   exact ⟨Nat.zero_le _,Nat.zero_le _,Nat.zero_le _,Nat.zero_le _⟩
theorem then_sml {a b:Mg} (h:SmlG a):SmlG (thenM a b):=by
 by_cases h0:thenE a b=0
 · obtain ⟨he,-,-,-,-,-,h1,h2⟩:=then_ok h0
   rw [he];refine ⟨?_,Nat.le_trans h1 (by decide),Nat.le_trans h2 (by decide)⟩;show (a.st.map (thenSt b)).length≤_;rw [List.length_map];exact h.1
 · rw [show thenM a b=Mg.zero from if_neg h0]
   exact ⟨Nat.zero_le _,Nat.zero_le _,Nat.zero_le _⟩
theorem rsame_any (w:World) (B:Nat) (m n:Mt) (x y:MtX) (hm:MtAt w B m x) (hn:MtAt w B n y) (hB:B≤w.heap.size) (hs:Sml m) (hs2:Sml n) (q:Bool) (hq:q=true↔m=n) :
 Calls Tryz.prog 27 #[.agg (mtC m x),.agg (mtC n y)] w fun e w'=>e = .returned (.bool q)∧Below w.heap.size w w':=by
 have HM:=hd_ hm;have HN:=hd_ hn;have HS:=hd_ hs;have HS2:=hd_ hs2;obtain ⟨id,o,cs,pr,st,mv,rs,ls⟩:=m;obtain ⟨id2,o2,cs2,pr2,st2,mv2,rs2,ls2⟩:=n;obtain ⟨a1,c1,a2,c2,a3,c3,a4,c4,lv⟩:=x;obtain ⟨b1,e1,b2,e2,b3,e3,b4,e4,lv2⟩:=y;have hno:¬ ((⟨id,o,cs,pr,st,mv,rs,ls⟩:Mt)=⟨id2,o2,cs2,pr2,st2,mv2,rs2,ls2⟩)→q=false:=fun h=>by cases q with | false=>rfl | true=>exact absurd (hq.1 rfl) h
 have HNO:=hd_ hno;have HQ:=hd_ hq;have hll:=hm.len;have hll2:=hn.len;simp only at hll hll2;obtain ⟨nc,h1⟩:∃ k,cs.length=k:=⟨_,rfl⟩;obtain ⟨nm,h2⟩:∃ k,mv.length=k:=⟨_,rfl⟩;obtain ⟨nr,h3⟩:∃ k,rs.length=k:=⟨_,rfl⟩;obtain ⟨nl,h4⟩:∃ k,ls.length=k:=⟨_,rfl⟩;obtain ⟨nc2,g1⟩:∃ k,cs2.length=k:=⟨_,rfl⟩;obtain ⟨nm2,g2⟩:∃ k,mv2.length=k:=⟨_,rfl⟩;obtain ⟨nr2,g3⟩:∃ k,rs2.length=k:=⟨_,rfl⟩;obtain ⟨nl2,g4⟩:∃ k,ls2.length=k:=⟨_,rfl⟩;obtain ⟨z1,z2,z3,z4⟩:=hs;obtain ⟨y1,y2,y3,y4⟩:=hs2;simp only at z1 z2 z3 z4 y1 y2 y3 y4;rw [h1] at z1;rw [h2] at z2;rw [h3] at z3;rw [h4] at z4;rw [g1] at y1;rw [g2] at y2;rw [g3] at y3;rw [g4] at y4
 have hgo:Calls Tryz.prog 27 #[.agg #[.string id,.int .i64 o,.slice a1 nc c1,.string pr,.int .i64 st,.slice a2 nm c2,.slice a3 nr c3,.slice a4 nl c4],.agg #[.string id2,.int .i64 o2,.slice b1 nc2 e1,.string pr2,.int .i64 st2,.slice b2 nm2 e2,.slice b3 nr2 e3,.slice b4 nl2 e4]] w fun e w'=>e = .returned (.bool q)∧Below w.heap.size w w':=by
  have HV1:=hd_ h1;have HV2:=hd_ h2;have HV3:=hd_ h3;have HV4:=hd_ h4;have HU1:=hd_ g1;have HU2:=hd_ g2;have HU3:=hd_ g3;have HU4:=hd_ g4;have HLL:=hd_ (hll.trans h4);have HLL2:=hd_ (hll2.trans g4);have HBB:=hd_ hB;clear hm hn hq hno h1 h2 h3 h4 g1 g2 g3 g4 hll hll2 HS HS2 hB;by_cases q1:id=id2
  case neg=>
   obtain rfl:false=q:=(HNO.out fun e=>q1 (by injection e)).symm
   have d:(id.toList == id2.toList)=false:=by
    rw [beq_eq_false_iff_ne];intro e;rw [Lib.toList_data,Lib.toList_data] at e;exact q1 (ByteArray.ext (Array.toList_inj.1 e))
   clear HM HN HQ HNO;have hb:=(below_self_alloc w (.cells #[.string id,.int .i64 o,.slice a1 nc c1,.string pr,.int .i64 st,.slice a2 nm c2,.slice a3 nr c3,.slice a4 nl c4] 27)).alloc (by simp) (.cells #[.string id2,.int .i64 o2,.slice b1 nc2 e1,.string pr2,.int .i64 st2,.slice b2 nm2 e2,.slice b3 nr2 e3,.slice b4 nl2 e4] 27);have k0:=(Blk.new w 27 #[.string id,.int .i64 o,.slice a1 nc c1,.string pr,.int .i64 st,.slice a2 nm c2,.slice a3 nr c3,.slice a4 nl c4]).alloc (.cells #[.string id2,.int .i64 o2,.slice b1 nc2 e1,.string pr2,.int .i64 st2,.slice b2 nm2 e2,.slice b3 nr2 e3,.slice b4 nl2 e4] 27);have k1:=Blk.new1 w (.cells #[.string id,.int .i64 o,.slice a1 nc c1,.string pr,.int .i64 st,.slice a2 nm c2,.slice a3 nr c3,.slice a4 nl c4] 27) 27 #[.string id2,.int .i64 o2,.slice b1 nc2 e1,.string pr2,.int .i64 st2,.slice b2 nm2 e2,.slice b3 nr2 e3,.slice b4 nl2 e4];obtain ⟨t0,t1,-⟩:=k0.all;obtain ⟨s0,s1,-⟩:=k1.all;go_enter Tryz.func27,Tryz.ntmps27
   go_wp2
   go_ret
   exact ⟨rfl,hb⟩
  case pos=>
   subst q1;by_cases q2:o=o2
   case neg=>
    obtain rfl:false=q:=(HNO.out fun e=>q2 (by injection e)).symm;have d:(o == o2)=false:=by simp [q2]
    clear HM HN HQ HNO;have hb:=(below_self_alloc w (.cells #[.string id,.int .i64 o,.slice a1 nc c1,.string pr,.int .i64 st,.slice a2 nm c2,.slice a3 nr c3,.slice a4 nl c4] 27)).alloc (by simp) (.cells #[.string id,.int .i64 o2,.slice b1 nc2 e1,.string pr2,.int .i64 st2,.slice b2 nm2 e2,.slice b3 nr2 e3,.slice b4 nl2 e4] 27);have k0:=(Blk.new w 27 #[.string id,.int .i64 o,.slice a1 nc c1,.string pr,.int .i64 st,.slice a2 nm c2,.slice a3 nr c3,.slice a4 nl c4]).alloc (.cells #[.string id,.int .i64 o2,.slice b1 nc2 e1,.string pr2,.int .i64 st2,.slice b2 nm2 e2,.slice b3 nr2 e3,.slice b4 nl2 e4] 27);have k1:=Blk.new1 w (.cells #[.string id,.int .i64 o,.slice a1 nc c1,.string pr,.int .i64 st,.slice a2 nm c2,.slice a3 nr c3,.slice a4 nl c4] 27) 27 #[.string id,.int .i64 o2,.slice b1 nc2 e1,.string pr2,.int .i64 st2,.slice b2 nm2 e2,.slice b3 nr2 e3,.slice b4 nl2 e4];obtain ⟨t0,t1,-⟩:=k0.all;obtain ⟨s0,s1,-⟩:=k1.all;go_enter Tryz.func27,Tryz.ntmps27
    go_wp2
    go_ret
    exact ⟨rfl,hb⟩
   case pos=>
    subst q2;by_cases q3:pr=pr2
    case neg=>
     obtain rfl:false=q:=(HNO.out fun e=>q3 (by injection e)).symm
     have d:(pr.toList == pr2.toList)=false:=by
      rw [beq_eq_false_iff_ne];intro e;rw [Lib.toList_data,Lib.toList_data] at e;exact q3 (ByteArray.ext (Array.toList_inj.1 e))
     clear HM HN HQ HNO;have hb:=(below_self_alloc w (.cells #[.string id,.int .i64 o,.slice a1 nc c1,.string pr,.int .i64 st,.slice a2 nm c2,.slice a3 nr c3,.slice a4 nl c4] 27)).alloc (by simp) (.cells #[.string id,.int .i64 o,.slice b1 nc2 e1,.string pr2,.int .i64 st2,.slice b2 nm2 e2,.slice b3 nr2 e3,.slice b4 nl2 e4] 27);have k0:=(Blk.new w 27 #[.string id,.int .i64 o,.slice a1 nc c1,.string pr,.int .i64 st,.slice a2 nm c2,.slice a3 nr c3,.slice a4 nl c4]).alloc (.cells #[.string id,.int .i64 o,.slice b1 nc2 e1,.string pr2,.int .i64 st2,.slice b2 nm2 e2,.slice b3 nr2 e3,.slice b4 nl2 e4] 27);have k1:=Blk.new1 w (.cells #[.string id,.int .i64 o,.slice a1 nc c1,.string pr,.int .i64 st,.slice a2 nm c2,.slice a3 nr c3,.slice a4 nl c4] 27) 27 #[.string id,.int .i64 o,.slice b1 nc2 e1,.string pr2,.int .i64 st2,.slice b2 nm2 e2,.slice b3 nr2 e3,.slice b4 nl2 e4];obtain ⟨t0,t1,-⟩:=k0.all;obtain ⟨s0,s1,-⟩:=k1.all;go_enter Tryz.func27,Tryz.ntmps27
     go_wp2
     go_ret
     exact ⟨rfl,hb⟩
    case pos=>
     subst q3;by_cases q4:st=st2
     case neg=>
      obtain rfl:false=q:=(HNO.out fun e=>q4 (by injection e)).symm;have d:(st == st2)=false:=by simp [q4]
      clear HM HN HQ HNO;have hb:=(below_self_alloc w (.cells #[.string id,.int .i64 o,.slice a1 nc c1,.string pr,.int .i64 st,.slice a2 nm c2,.slice a3 nr c3,.slice a4 nl c4] 27)).alloc (by simp) (.cells #[.string id,.int .i64 o,.slice b1 nc2 e1,.string pr,.int .i64 st2,.slice b2 nm2 e2,.slice b3 nr2 e3,.slice b4 nl2 e4] 27);have k0:=(Blk.new w 27 #[.string id,.int .i64 o,.slice a1 nc c1,.string pr,.int .i64 st,.slice a2 nm c2,.slice a3 nr c3,.slice a4 nl c4]).alloc (.cells #[.string id,.int .i64 o,.slice b1 nc2 e1,.string pr,.int .i64 st2,.slice b2 nm2 e2,.slice b3 nr2 e3,.slice b4 nl2 e4] 27);have k1:=Blk.new1 w (.cells #[.string id,.int .i64 o,.slice a1 nc c1,.string pr,.int .i64 st,.slice a2 nm c2,.slice a3 nr c3,.slice a4 nl c4] 27) 27 #[.string id,.int .i64 o,.slice b1 nc2 e1,.string pr,.int .i64 st2,.slice b2 nm2 e2,.slice b3 nr2 e3,.slice b4 nl2 e4];obtain ⟨t0,t1,-⟩:=k0.all;obtain ⟨s0,s1,-⟩:=k1.all;go_enter Tryz.func27,Tryz.ntmps27
      go_wp2
      go_ret
      exact ⟨rfl,hb⟩
     case pos=>
      subst q4;by_cases q5:cs=cs2
      case neg=>
       obtain rfl:false=q:=(HNO.out fun e=>q5 (by injection e)).symm;have hb:=(below_self_alloc w (.cells #[.string id,.int .i64 o,.slice a1 nc c1,.string pr,.int .i64 st,.slice a2 nm c2,.slice a3 nr c3,.slice a4 nl c4] 27)).alloc (by simp) (.cells #[.string id,.int .i64 o,.slice b1 nc2 e1,.string pr,.int .i64 st,.slice b2 nm2 e2,.slice b3 nr2 e3,.slice b4 nl2 e4] 27);have k0:=(Blk.new w 27 #[.string id,.int .i64 o,.slice a1 nc c1,.string pr,.int .i64 st,.slice a2 nm c2,.slice a3 nr c3,.slice a4 nl c4]).alloc (.cells #[.string id,.int .i64 o,.slice b1 nc2 e1,.string pr,.int .i64 st,.slice b2 nm2 e2,.slice b3 nr2 e3,.slice b4 nl2 e4] 27);have k1:=Blk.new1 w (.cells #[.string id,.int .i64 o,.slice a1 nc c1,.string pr,.int .i64 st,.slice a2 nm c2,.slice a3 nr c3,.slice a4 nl c4] 27) 27 #[.string id,.int .i64 o,.slice b1 nc2 e1,.string pr,.int .i64 st,.slice b2 nm2 e2,.slice b3 nr2 e3,.slice b4 nl2 e4];obtain ⟨t0,t1,-⟩:=k0.all;obtain ⟨s0,s1,-⟩:=k1.all;have r1:=fun (Q:Bool) (hQ:Q=true↔cs=cs2) W (hW:Below w.heap.size w W)=>rints_any W W.heap.size a1 b1 cs cs2 c1 e1 ((HM.out.cs.below (hW.mono HBB.out)).wide (Nat.le_trans HBB.out hW.size)) ((HN.out.cs.below (hW.mono HBB.out)).wide (Nat.le_trans HBB.out hW.size)) (by rw [HV1.out];omega) (by rw [HU1.out];omega) Q hQ;have r2:=fun (Q:Bool) (hQ:Q=true↔mv=mv2) W (hW:Below w.heap.size w W)=>rints_any W W.heap.size a2 b2 mv mv2 c2 e2 ((HM.out.mv.below (hW.mono HBB.out)).wide (Nat.le_trans HBB.out hW.size)) ((HN.out.mv.below (hW.mono HBB.out)).wide (Nat.le_trans HBB.out hW.size)) (by rw [HV2.out];omega) (by rw [HU2.out];omega) Q hQ;rw [HV1.out,HU1.out] at r1;rw [HV2.out,HU2.out] at r2;have R1:=hd_ r1;have R2:=hd_ r2;clear r1 r2;go_enter Tryz.func27,Tryz.ntmps27
       go_upto_region 1 with fail
       generalize (w.alloc (.cells #[.string id,.int .i64 o,.slice a1 nc c1,.string pr,.int .i64 st,.slice a2 nm c2,.slice a3 nr c3,.slice a4 nl c4] 27)).alloc (.cells #[.string id,.int .i64 o,.slice b1 nc2 e1,.string pr,.int .i64 st,.slice b2 nm2 e2,.slice b3 nr2 e3,.slice b4 nl2 e4] 27)=W0 at *;have HB0:=hd_ hb;have hc:=R1.out false (by simp [q5]) W0 hb;have HC:=hd_ hc;clear hc;go_wp2_with fail
       refine HC.out.mono ?_;rintro e W1 ⟨rfl,x1⟩;have hb1:=HB0.out.trans (x1.mono HB0.out.size);have m0:=k0.below x1 k0.lt;have m1:=k1.below x1 k1.lt;clear x1 t0 t1 s0 s1 k0 k1 HC HB0 hb;obtain ⟨t0,t1,-⟩:=m0.all;obtain ⟨s0,s1,-⟩:=m1.all;go_wp2
       go_ret
       exact ⟨rfl,hb1⟩
      case pos=>
       by_cases q6:mv=mv2
       case neg=>
        obtain rfl:false=q:=(HNO.out fun e=>q6 (by injection e)).symm;have hb:=(below_self_alloc w (.cells #[.string id,.int .i64 o,.slice a1 nc c1,.string pr,.int .i64 st,.slice a2 nm c2,.slice a3 nr c3,.slice a4 nl c4] 27)).alloc (by simp) (.cells #[.string id,.int .i64 o,.slice b1 nc2 e1,.string pr,.int .i64 st,.slice b2 nm2 e2,.slice b3 nr2 e3,.slice b4 nl2 e4] 27);have k0:=(Blk.new w 27 #[.string id,.int .i64 o,.slice a1 nc c1,.string pr,.int .i64 st,.slice a2 nm c2,.slice a3 nr c3,.slice a4 nl c4]).alloc (.cells #[.string id,.int .i64 o,.slice b1 nc2 e1,.string pr,.int .i64 st,.slice b2 nm2 e2,.slice b3 nr2 e3,.slice b4 nl2 e4] 27);have k1:=Blk.new1 w (.cells #[.string id,.int .i64 o,.slice a1 nc c1,.string pr,.int .i64 st,.slice a2 nm c2,.slice a3 nr c3,.slice a4 nl c4] 27) 27 #[.string id,.int .i64 o,.slice b1 nc2 e1,.string pr,.int .i64 st,.slice b2 nm2 e2,.slice b3 nr2 e3,.slice b4 nl2 e4];obtain ⟨t0,t1,-⟩:=k0.all;obtain ⟨s0,s1,-⟩:=k1.all;have r1:=fun (Q:Bool) (hQ:Q=true↔cs=cs2) W (hW:Below w.heap.size w W)=>rints_any W W.heap.size a1 b1 cs cs2 c1 e1 ((HM.out.cs.below (hW.mono HBB.out)).wide (Nat.le_trans HBB.out hW.size)) ((HN.out.cs.below (hW.mono HBB.out)).wide (Nat.le_trans HBB.out hW.size)) (by rw [HV1.out];omega) (by rw [HU1.out];omega) Q hQ;have r2:=fun (Q:Bool) (hQ:Q=true↔mv=mv2) W (hW:Below w.heap.size w W)=>rints_any W W.heap.size a2 b2 mv mv2 c2 e2 ((HM.out.mv.below (hW.mono HBB.out)).wide (Nat.le_trans HBB.out hW.size)) ((HN.out.mv.below (hW.mono HBB.out)).wide (Nat.le_trans HBB.out hW.size)) (by rw [HV2.out];omega) (by rw [HU2.out];omega) Q hQ;rw [HV1.out,HU1.out] at r1;rw [HV2.out,HU2.out] at r2;have R1:=hd_ r1;have R2:=hd_ r2;clear r1 r2;go_enter Tryz.func27,Tryz.ntmps27
        go_upto_region 1 with fail
        generalize (w.alloc (.cells #[.string id,.int .i64 o,.slice a1 nc c1,.string pr,.int .i64 st,.slice a2 nm c2,.slice a3 nr c3,.slice a4 nl c4] 27)).alloc (.cells #[.string id,.int .i64 o,.slice b1 nc2 e1,.string pr,.int .i64 st,.slice b2 nm2 e2,.slice b3 nr2 e3,.slice b4 nl2 e4] 27)=W0 at *;have HB0:=hd_ hb;have hc:=R1.out true (by simp [q5]) W0 hb;have HC:=hd_ hc;clear hc;go_wp2_with fail
        refine HC.out.mono ?_;rintro e W1 ⟨rfl,x1⟩;have hb1:=HB0.out.trans (x1.mono HB0.out.size);have m0:=k0.below x1 k0.lt;have m1:=k1.below x1 k1.lt;clear x1 t0 t1 s0 s1 k0 k1 HC HB0 hb;obtain ⟨t0,t1,-⟩:=m0.all;obtain ⟨s0,s1,-⟩:=m1.all;have hc:=R2.out false (by simp [q6]) W1 hb1;have HC:=hd_ hc;clear hc;go_wp2_with fail
        refine HC.out.mono ?_;rintro e W2 ⟨rfl,x1⟩;have hb2:=hb1.trans (x1.mono hb1.size);have n0:=m0.below x1 m0.lt;have n1:=m1.below x1 m1.lt;clear x1 t0 t1 s0 s1 m0 m1 HC hb1;obtain ⟨t0,t1,-⟩:=n0.all;obtain ⟨s0,s1,-⟩:=n1.all;go_wp2
        go_ret
        exact ⟨rfl,hb2⟩
       case pos=>
        by_cases q7:nr=nr2
        case neg=>
         obtain rfl:false=q:=(HNO.out fun e=>q7 (by have e2:rs=rs2:=(by injection e);rw [← HV3.out,← HU3.out,e2])).symm;have dn:((nr:Int) == (nr2:Int))=false:=by simp;omega
         have dn2:¬ (nr:Int)=(nr2:Int):=by omega
         have hb:=(below_self_alloc w (.cells #[.string id,.int .i64 o,.slice a1 nc c1,.string pr,.int .i64 st,.slice a2 nm c2,.slice a3 nr c3,.slice a4 nl c4] 27)).alloc (by simp) (.cells #[.string id,.int .i64 o,.slice b1 nc2 e1,.string pr,.int .i64 st,.slice b2 nm2 e2,.slice b3 nr2 e3,.slice b4 nl2 e4] 27);have k0:=(Blk.new w 27 #[.string id,.int .i64 o,.slice a1 nc c1,.string pr,.int .i64 st,.slice a2 nm c2,.slice a3 nr c3,.slice a4 nl c4]).alloc (.cells #[.string id,.int .i64 o,.slice b1 nc2 e1,.string pr,.int .i64 st,.slice b2 nm2 e2,.slice b3 nr2 e3,.slice b4 nl2 e4] 27);have k1:=Blk.new1 w (.cells #[.string id,.int .i64 o,.slice a1 nc c1,.string pr,.int .i64 st,.slice a2 nm c2,.slice a3 nr c3,.slice a4 nl c4] 27) 27 #[.string id,.int .i64 o,.slice b1 nc2 e1,.string pr,.int .i64 st,.slice b2 nm2 e2,.slice b3 nr2 e3,.slice b4 nl2 e4];obtain ⟨t0,t1,-⟩:=k0.all;obtain ⟨s0,s1,-⟩:=k1.all;have r1:=fun (Q:Bool) (hQ:Q=true↔cs=cs2) W (hW:Below w.heap.size w W)=>rints_any W W.heap.size a1 b1 cs cs2 c1 e1 ((HM.out.cs.below (hW.mono HBB.out)).wide (Nat.le_trans HBB.out hW.size)) ((HN.out.cs.below (hW.mono HBB.out)).wide (Nat.le_trans HBB.out hW.size)) (by rw [HV1.out];omega) (by rw [HU1.out];omega) Q hQ;have r2:=fun (Q:Bool) (hQ:Q=true↔mv=mv2) W (hW:Below w.heap.size w W)=>rints_any W W.heap.size a2 b2 mv mv2 c2 e2 ((HM.out.mv.below (hW.mono HBB.out)).wide (Nat.le_trans HBB.out hW.size)) ((HN.out.mv.below (hW.mono HBB.out)).wide (Nat.le_trans HBB.out hW.size)) (by rw [HV2.out];omega) (by rw [HU2.out];omega) Q hQ;rw [HV1.out,HU1.out] at r1;rw [HV2.out,HU2.out] at r2;have R1:=hd_ r1;have R2:=hd_ r2;clear r1 r2;go_enter Tryz.func27,Tryz.ntmps27
         go_upto_region 1 with fail
         generalize (w.alloc (.cells #[.string id,.int .i64 o,.slice a1 nc c1,.string pr,.int .i64 st,.slice a2 nm c2,.slice a3 nr c3,.slice a4 nl c4] 27)).alloc (.cells #[.string id,.int .i64 o,.slice b1 nc2 e1,.string pr,.int .i64 st,.slice b2 nm2 e2,.slice b3 nr2 e3,.slice b4 nl2 e4] 27)=W0 at *;have HB0:=hd_ hb;have hc:=R1.out true (by simp [q5]) W0 hb;have HC:=hd_ hc;clear hc;go_wp2_with fail
         refine HC.out.mono ?_;rintro e W1 ⟨rfl,x1⟩;have hb1:=HB0.out.trans (x1.mono HB0.out.size);have m0:=k0.below x1 k0.lt;have m1:=k1.below x1 k1.lt;clear x1 t0 t1 s0 s1 k0 k1 HC HB0 hb;obtain ⟨t0,t1,-⟩:=m0.all;obtain ⟨s0,s1,-⟩:=m1.all;have hc:=R2.out true (by simp [q6]) W1 hb1;have HC:=hd_ hc;clear hc;go_wp2_with fail
         refine HC.out.mono ?_;rintro e W2 ⟨rfl,x1⟩;have hb2:=hb1.trans (x1.mono hb1.size);have n0:=m0.below x1 m0.lt;have n1:=m1.below x1 m1.lt;clear x1 t0 t1 s0 s1 m0 m1 HC hb1;obtain ⟨t0,t1,-⟩:=n0.all;obtain ⟨s0,s1,-⟩:=n1.all;go_wp2
         go_ret
         exact ⟨rfl,hb2⟩
        case pos=>
         subst q7;by_cases q8:nl=nl2
         case neg=>
          obtain rfl:false=q:=(HNO.out fun e=>q8 (by have e2:ls=ls2:=(by injection e);rw [← HV4.out,← HU4.out,e2])).symm;have dn:((nl:Int) == (nl2:Int))=false:=by simp;omega
          have dn2:¬ (nl:Int)=(nl2:Int):=by omega
          have hb:=(below_self_alloc w (.cells #[.string id,.int .i64 o,.slice a1 nc c1,.string pr,.int .i64 st,.slice a2 nm c2,.slice a3 nr c3,.slice a4 nl c4] 27)).alloc (by simp) (.cells #[.string id,.int .i64 o,.slice b1 nc2 e1,.string pr,.int .i64 st,.slice b2 nm2 e2,.slice b3 nr e3,.slice b4 nl2 e4] 27);have k0:=(Blk.new w 27 #[.string id,.int .i64 o,.slice a1 nc c1,.string pr,.int .i64 st,.slice a2 nm c2,.slice a3 nr c3,.slice a4 nl c4]).alloc (.cells #[.string id,.int .i64 o,.slice b1 nc2 e1,.string pr,.int .i64 st,.slice b2 nm2 e2,.slice b3 nr e3,.slice b4 nl2 e4] 27);have k1:=Blk.new1 w (.cells #[.string id,.int .i64 o,.slice a1 nc c1,.string pr,.int .i64 st,.slice a2 nm c2,.slice a3 nr c3,.slice a4 nl c4] 27) 27 #[.string id,.int .i64 o,.slice b1 nc2 e1,.string pr,.int .i64 st,.slice b2 nm2 e2,.slice b3 nr e3,.slice b4 nl2 e4];obtain ⟨t0,t1,-⟩:=k0.all;obtain ⟨s0,s1,-⟩:=k1.all;have r1:=fun (Q:Bool) (hQ:Q=true↔cs=cs2) W (hW:Below w.heap.size w W)=>rints_any W W.heap.size a1 b1 cs cs2 c1 e1 ((HM.out.cs.below (hW.mono HBB.out)).wide (Nat.le_trans HBB.out hW.size)) ((HN.out.cs.below (hW.mono HBB.out)).wide (Nat.le_trans HBB.out hW.size)) (by rw [HV1.out];omega) (by rw [HU1.out];omega) Q hQ;have r2:=fun (Q:Bool) (hQ:Q=true↔mv=mv2) W (hW:Below w.heap.size w W)=>rints_any W W.heap.size a2 b2 mv mv2 c2 e2 ((HM.out.mv.below (hW.mono HBB.out)).wide (Nat.le_trans HBB.out hW.size)) ((HN.out.mv.below (hW.mono HBB.out)).wide (Nat.le_trans HBB.out hW.size)) (by rw [HV2.out];omega) (by rw [HU2.out];omega) Q hQ;rw [HV1.out,HU1.out] at r1;rw [HV2.out,HU2.out] at r2;have R1:=hd_ r1;have R2:=hd_ r2;clear r1 r2;go_enter Tryz.func27,Tryz.ntmps27
          go_upto_region 1 with fail
          generalize (w.alloc (.cells #[.string id,.int .i64 o,.slice a1 nc c1,.string pr,.int .i64 st,.slice a2 nm c2,.slice a3 nr c3,.slice a4 nl c4] 27)).alloc (.cells #[.string id,.int .i64 o,.slice b1 nc2 e1,.string pr,.int .i64 st,.slice b2 nm2 e2,.slice b3 nr e3,.slice b4 nl2 e4] 27)=W0 at *;have HB0:=hd_ hb;have hc:=R1.out true (by simp [q5]) W0 hb;have HC:=hd_ hc;clear hc;go_wp2_with fail
          refine HC.out.mono ?_;rintro e W1 ⟨rfl,x1⟩;have hb1:=HB0.out.trans (x1.mono HB0.out.size);have m0:=k0.below x1 k0.lt;have m1:=k1.below x1 k1.lt;clear x1 t0 t1 s0 s1 k0 k1 HC HB0 hb;obtain ⟨t0,t1,-⟩:=m0.all;obtain ⟨s0,s1,-⟩:=m1.all;have hc:=R2.out true (by simp [q6]) W1 hb1;have HC:=hd_ hc;clear hc;go_wp2_with fail
          refine HC.out.mono ?_;rintro e W2 ⟨rfl,x1⟩;have hb2:=hb1.trans (x1.mono hb1.size);have n0:=m0.below x1 m0.lt;have n1:=m1.below x1 m1.lt;clear x1 t0 t1 s0 s1 m0 m1 HC hb1;obtain ⟨t0,t1,-⟩:=n0.all;obtain ⟨s0,s1,-⟩:=n1.all;go_wp2
          go_ret
          exact ⟨rfl,hb2⟩
         case pos=>
          subst q8;have hb:=(below_self_alloc w (.cells #[.string id,.int .i64 o,.slice a1 nc c1,.string pr,.int .i64 st,.slice a2 nm c2,.slice a3 nr c3,.slice a4 nl c4] 27)).alloc (by simp) (.cells #[.string id,.int .i64 o,.slice b1 nc2 e1,.string pr,.int .i64 st,.slice b2 nm2 e2,.slice b3 nr e3,.slice b4 nl e4] 27);have k0:=(Blk.new w 27 #[.string id,.int .i64 o,.slice a1 nc c1,.string pr,.int .i64 st,.slice a2 nm c2,.slice a3 nr c3,.slice a4 nl c4]).alloc (.cells #[.string id,.int .i64 o,.slice b1 nc2 e1,.string pr,.int .i64 st,.slice b2 nm2 e2,.slice b3 nr e3,.slice b4 nl e4] 27);have k1:=Blk.new1 w (.cells #[.string id,.int .i64 o,.slice a1 nc c1,.string pr,.int .i64 st,.slice a2 nm c2,.slice a3 nr c3,.slice a4 nl c4] 27) 27 #[.string id,.int .i64 o,.slice b1 nc2 e1,.string pr,.int .i64 st,.slice b2 nm2 e2,.slice b3 nr e3,.slice b4 nl e4];obtain ⟨t0,t1,-⟩:=k0.all;obtain ⟨s0,s1,-⟩:=k1.all;have r1:=fun (Q:Bool) (hQ:Q=true↔cs=cs2) W (hW:Below w.heap.size w W)=>rints_any W W.heap.size a1 b1 cs cs2 c1 e1 ((HM.out.cs.below (hW.mono HBB.out)).wide (Nat.le_trans HBB.out hW.size)) ((HN.out.cs.below (hW.mono HBB.out)).wide (Nat.le_trans HBB.out hW.size)) (by rw [HV1.out];omega) (by rw [HU1.out];omega) Q hQ;have r2:=fun (Q:Bool) (hQ:Q=true↔mv=mv2) W (hW:Below w.heap.size w W)=>rints_any W W.heap.size a2 b2 mv mv2 c2 e2 ((HM.out.mv.below (hW.mono HBB.out)).wide (Nat.le_trans HBB.out hW.size)) ((HN.out.mv.below (hW.mono HBB.out)).wide (Nat.le_trans HBB.out hW.size)) (by rw [HV2.out];omega) (by rw [HU2.out];omega) Q hQ;rw [HV1.out,HU1.out] at r1;rw [HV2.out,HU2.out] at r2;have R1:=hd_ r1;have R2:=hd_ r2;clear r1 r2;go_enter Tryz.func27,Tryz.ntmps27
          go_upto_region 1 with fail
          generalize (w.alloc (.cells #[.string id,.int .i64 o,.slice a1 nc c1,.string pr,.int .i64 st,.slice a2 nm c2,.slice a3 nr c3,.slice a4 nl c4] 27)).alloc (.cells #[.string id,.int .i64 o,.slice b1 nc2 e1,.string pr,.int .i64 st,.slice b2 nm2 e2,.slice b3 nr e3,.slice b4 nl e4] 27)=W0 at *;have HB0:=hd_ hb;have hc:=R1.out true (by simp [q5]) W0 hb;have HC:=hd_ hc;clear hc;go_wp2_with fail
          refine HC.out.mono ?_;rintro e W1 ⟨rfl,x1⟩;have hb1:=HB0.out.trans (x1.mono HB0.out.size);have m0:=k0.below x1 k0.lt;have m1:=k1.below x1 k1.lt;clear x1 t0 t1 s0 s1 k0 k1 HC HB0 hb;obtain ⟨t0,t1,-⟩:=m0.all;obtain ⟨s0,s1,-⟩:=m1.all;have hc:=R2.out true (by simp [q6]) W1 hb1;have HC:=hd_ hc;clear hc;go_wp2_with fail
          refine HC.out.mono ?_;rintro e W2 ⟨rfl,x1⟩;have hb2:=hb1.trans (x1.mono hb1.size);have n0:=m0.below x1 m0.lt;have n1:=m1.below x1 m1.lt;clear x1 t0 t1 s0 s1 m0 m1 HC hb1;obtain ⟨t0,t1,-⟩:=n0.all;obtain ⟨s0,s1,-⟩:=n1.all;go_wp2_with fail
          have hrs:RtsAt W2 W2.heap.size a3 rs:=(HM.out.rs.below (hb2.mono HBB.out)).wide (Nat.le_trans HBB.out hb2.size);have hrs2:RtsAt W2 W2.heap.size b3 rs2:=(HN.out.rs.below (hb2.mono HBB.out)).wide (Nat.le_trans HBB.out hb2.size);have HR:=hd_ hrs;have HR2:=hd_ hrs2;have N0:=hd_ n0;have N1:=hd_ n1;have HB2:=hd_ hb2;clear t0 t1 s0 s1 n0 n1 hb2 hrs hrs2;go_loopw [5] (fun i wr=>∃ k:Nat,k≤nr∧i = .int .i64 (k:Int)∧Hid (rs.take k=rs2.take k)∧∃ j,wr=W2.drewN j) (fun i _=>nr - (intOf i).toNat)
          case atStart=>exact ⟨0,Nat.zero_le _,rfl,hd_ rfl,0,rfl⟩
          case round=>
           obtain ⟨k,hk,rfl,HT,j,rfl⟩:=hrel;have k0:=N0.out.drewN j;have k1:=N1.out.drewN j;obtain ⟨t0,t1,-⟩:=k0.all;obtain ⟨s0,s1,-⟩:=k1.all;by_cases hlt:k<nr
           · obtain ⟨x,hx⟩:∃ x,rs[k]? = some x:=⟨_,List.getElem?_eq_getElem (by rw [HV3.out];exact hlt)⟩
             obtain ⟨y,hy⟩:∃ y,rs2[k]? = some y:=⟨_,List.getElem?_eq_getElem (by rw [HU3.out];exact hlt)⟩;obtain ⟨ga,oa,hA,hga,p0,p1⟩:=HR.out k x hx;obtain ⟨gb,ob,hA',hgb,r0,r1⟩:=HR2.out k y hy;subst hA hA';have HX:=hd_ hx;have HY:=hd_ hy;clear hx hy;obtain ⟨x1,x2⟩:=x;obtain ⟨y1,y2⟩:=y;have p0':(W2.drewN j).cell? ⟨ga,oa+k*2,none⟩=some (.string x1):=p0;have p1':(W2.drewN j).cell? ⟨ga,oa+k*2+1,none⟩=some (.int .i64 x2):=p1;have r0':(W2.drewN j).cell? ⟨gb,ob+k*2,none⟩=some (.string y1):=r0;have r1':(W2.drewN j).cell? ⟨gb,ob+k*2+1,none⟩=some (.int .i64 y2):=r1;have ib0:(0:Int)≤(k:Int):=by omega
             have ib1:(k:Int)<(nr:Int):=by omega
             clear p0 p1 r0 r1
             have hne:¬ (x1=y1∧x2=y2)→q=false:=fun h=>HNO.out fun e=>h (by
              have e2:rs=rs2:=(by injection e);have h1:=HX.out;rw [e2,HY.out] at h1;injection h1 with h1;injection h1 with h1 h2;exact ⟨h1.symm,h2.symm⟩)
             by_cases hx1:x1=y1
             · subst hx1
               by_cases hx2:x2=y2
               · subst hx2
                 have HST:=hd_ (take_eq_snoc HT.out HX.out HY.out);clear hne;go_wp2_with fail
                 generalize hW:W2.drewN j=W at *;go_quiet (fail)
                 subst hW;go_wp2
                 go_roundw
                 case rel=>exact ⟨k+1,by omega,by go_num,HST,j+nq,rfl⟩
                 case measure=>simp [intOf];omega
               · obtain rfl:q=false:=hne fun h=>hx2 h.2
                 have d2:(x2 == y2)=false:=by simp [hx2]
                 clear hne;go_wp2_with fail
                 generalize hW:W2.drewN j=W at *;go_quiet (fail)
                 subst hW;go_wp2
                 go_ret
                 exact ⟨rfl,below_dN (below_dN HB2.out j) nq⟩
             · obtain rfl:q=false:=hne fun h=>hx1 h.1
               have d2:(x1.toList == y1.toList)=false:=by
                rw [beq_eq_false_iff_ne];intro e;rw [Lib.toList_data,Lib.toList_data] at e;exact hx1 (ByteArray.ext (Array.toList_inj.1 e))
               clear hne;go_wp2_with fail
               generalize hW:W2.drewN j=W at *;go_quiet (fail)
               subst hW;go_wp2
               go_ret
               exact ⟨rfl,below_dN (below_dN HB2.out j) nq⟩
           · obtain rfl:nr=k:=by omega
             have hrr:rs=rs2:=by
              have:=HT.out;rwa [List.take_of_length_le (by rw [HV3.out];exact Nat.le_refl _),List.take_of_length_le (by rw [HU3.out];exact Nat.le_refl _)] at this
             have HRR:=hd_ hrr;clear hrr;go_wp2_with fail
             have hb3:=below_dN HB2.out j;have k0:=N0.out.drewN j;have k1:=N1.out.drewN j;clear t0 t1 s0 s1;generalize W2.drewN j=W3 at *;have K0:=hd_ k0;have K1:=hd_ k1;have HB3:=hd_ hb3;clear k0 k1 hb3;go_loopg [6] nl (fun nn i wr=>∃ k:Nat,k+nn=nl∧i = .int .i64 (k:Int)∧Hid (ls.take k=ls2.take k)∧Hid (Below w.heap.size w wr)∧Hid (Blk wr w.heap.size 27 #[.string id,.int .i64 o,.slice a1 nc c1,.string pr,.int .i64 st,.slice a2 nm c2,.slice a3 nr c3,.slice a4 nl c4])∧Hid (Blk wr (w.heap.size+1) 27 #[.string id,.int .i64 o,.slice b1 nc2 e1,.string pr,.int .i64 st,.slice b2 nm2 e2,.slice b3 nr e3,.slice b4 nl e4]))
             case atStart=>exact ⟨0,Nat.zero_add _,rfl,hd_ rfl,HB3,K0,K1⟩
             case round=>
              clear HB3 K0 K1 HT HR HR2;obtain ⟨k,hk,rfl,HT,HB3,K0,K1⟩:=hrel;obtain ⟨t0,t1,-⟩:=K0.out.all;obtain ⟨s0,s1,-⟩:=K1.out.all;by_cases hlt:k<nl
              · obtain ⟨x,hx⟩:∃ x,lv[k]? = some x:=⟨_,List.getElem?_eq_getElem (by rw [HLL.out];exact hlt)⟩
                obtain ⟨y,hy⟩:∃ y,lv2[k]? = some y:=⟨_,List.getElem?_eq_getElem (by rw [HLL2.out];exact hlt)⟩;have hxl:ls[k]? = some x.1:=by have e:=HM.out.lv;simp only at e;rw [← e,List.getElem?_map,hx];rfl
                have hyl:ls2[k]? = some y.1:=by have e:=HN.out.lv;simp only at e;rw [← e,List.getElem?_map,hy];rfl
                have HLS:Hid (LmsAt wr wr.heap.size a4 lv):=hd_ ((HM.out.ls.below (HB3.out.mono HBB.out)).wide (Nat.le_trans HBB.out HB3.out.size));have HLS2:Hid (LmsAt wr wr.heap.size b4 lv2):=hd_ ((HN.out.ls.below (HB3.out.mono HBB.out)).wide (Nat.le_trans HBB.out HB3.out.size));obtain ⟨ga,oa,hA,hga,u0,u1,u2,u3,u4,hLa⟩:=HLS.out k x hx;obtain ⟨gb,ob,hA',hgb,v0,v1,v2,v3,v4,hLb⟩:=HLS2.out k y hy;subst hA hA';obtain ⟨⟨i1,n1,w1,f1,S1⟩,A1,C1⟩:=x;obtain ⟨⟨i2,n2,w2,f2,S2⟩,A2,C2⟩:=y;have ib0:(0:Int)≤(k:Int):=by omega
                have ib1:(k:Int)<(nl:Int):=by omega
                simp only at u0 u1 u2 u3 u4 v0 v1 v2 v3 v4 hLa hLb hxl hyl;have HXL:=hd_ hxl;have HYL:=hd_ hyl;have HLA:=hd_ hLa;have HLB:=hd_ hLb;clear hx hy hxl hyl hLa hLb;have cc:∀ (Q:Bool),(Q=true↔(⟨i1,n1,w1,f1,S1⟩:Lm)=⟨i2,n2,w2,f2,S2⟩)→∀ W,Below wr.heap.size wr W→Calls Tryz.prog 13 #[.agg #[.string i1,.int .i64 n1,.int .i64 w1,.int .i64 f1,.slice A1 S1.length C1],.agg #[.string i2,.int .i64 n2,.int .i64 w2,.int .i64 f2,.slice A2 S2.length C2]] W fun e w'=>e = .returned (.bool Q)∧Below W.heap.size W w':=fun Q hQ W hW=>rsameL_any W wr.heap.size ⟨i1,n1,w1,f1,S1⟩ ⟨i2,n2,w2,f2,S2⟩ A1 A2 C1 C2 (HLA.out.below hW) (HLB.out.below hW) hW.size Q hQ;have CCH:=hd_ cc;clear cc;go_upto_region 11 with fail
                refine wp_region_hold (fun V=>Below wr.heap.size wr V) [0,1,2,3,4,5,6,7,8,9] [10] [11] (by kernel_rfl) (by kernel_rfl) (fun _ d _ _ _ h=>by cases d <;> exact h) (Below.refl _ wr).drew ?_;simp only [pick,List.drop_succ_cons,List.drop_zero,List.head?_cons,Option.toList_some,List.cons_append,List.nil_append]
                repeat (refine wpHeld_step ?_ rfl ?_ ?_;rotate_left;· (intro V hV;obtain ⟨t0,t1,-⟩:=(K0.out.below hV K0.out.lt).all;obtain ⟨s0,s1,-⟩:=(K1.out.below hV K1.out.lt).all;have u0:=(hV.cell (p:=⟨ga,oa+k*5,none⟩) hga).trans u0;have u1:=(hV.cell (p:=⟨ga,oa+k*5+1,none⟩) hga).trans u1;have u2:=(hV.cell (p:=⟨ga,oa+k*5+2,none⟩) hga).trans u2;have u3:=(hV.cell (p:=⟨ga,oa+k*5+3,none⟩) hga).trans u3;have u4:=(hV.cell (p:=⟨ga,oa+k*5+4,none⟩) hga).trans u4;have v0:=(hV.cell (p:=⟨gb,ob+k*5,none⟩) hgb).trans v0;have v1:=(hV.cell (p:=⟨gb,ob+k*5+1,none⟩) hgb).trans v1;have v2:=(hV.cell (p:=⟨gb,ob+k*5+2,none⟩) hgb).trans v2;have v3:=(hV.cell (p:=⟨gb,ob+k*5+3,none⟩) hgb).trans v3;have v4:=(hV.cell (p:=⟨gb,ob+k*5+4,none⟩) hgb).trans v4;go_simp;with_reducible rfl))
                refine wpHeld_nil ?_;simp only [wpEarly];clear t0 t1 s0 s1 u0 u1 u2 u3 u4 v0 v1 v2 v3 v4;have hwd:=(Below.refl wr.heap.size wr).drew;have HWD:=hd_ hwd;clear hwd;generalize wr.drew=Wd at *;by_cases hxy:(⟨i1,n1,w1,f1,S1⟩:Lm)=⟨i2,n2,w2,f2,S2⟩
                · have hst:ls.take (k+1)=ls2.take (k+1):=take_eq_snoc HT.out HXL.out (by rw [hxy];exact HYL.out)
                  have HST:=hd_ hst;have hc:=CCH.out true (by simp [hxy]) Wd HWD.out;have HC:=hd_ hc;clear hc hst hxy;go_wp2_with fail
                  refine HC.out.mono ?_;rintro e We ⟨rfl,x1⟩;have hwe:=HWD.out.trans (x1.mono HWD.out.size);have HWE:=hd_ hwe;clear x1 hwe;go_wp2_with fail
                  refine ⟨HWE.out,?_⟩;have HB4:=hd_ (HB3.out.trans (HWE.out.mono HB3.out.size));have K0b:=hd_ (K0.out.below HWE.out K0.out.lt);have K1b:=hd_ (K1.out.below HWE.out K1.out.lt);go_wp2
                  go_roundg (gk - 1)
                  case rel=>exact ⟨k+1,by omega,by go_num,HST,HB4,K0b,K1b⟩
                  case measure=>omega
                · obtain rfl:q=false:=HNO.out fun e=>hxy (by
                   have e2:ls=ls2:=(by injection e);have h1:=HXL.out;rw [e2,HYL.out] at h1;injection h1 with h1;exact h1.symm)
                  have hc:=CCH.out false (by simp only [Bool.false_eq_true,false_iff];exact hxy) Wd HWD.out;have HC:=hd_ hc;clear hc hxy;go_wp2_with fail
                  refine HC.out.mono ?_;rintro e We ⟨rfl,x1⟩;have hwe:=HWD.out.trans (x1.mono HWD.out.size);have HWE:=hd_ hwe;clear x1 hwe;go_wp2_with fail
                  refine ⟨HWE.out,?_⟩;have HB4:=hd_ (HB3.out.trans (HWE.out.mono HB3.out.size));go_wp2
                  go_ret
                  exact ⟨rfl,HB4.out⟩
              · obtain rfl:nl=k:=by omega
                have hyes:true=q:=(HQ.out.2 (by
                 have:=HT.out;rw [List.take_of_length_le (by rw [HV4.out];exact Nat.le_refl _),List.take_of_length_le (by rw [HU4.out];exact Nat.le_refl _)] at this;rw [q5,q6,HRR.out,this])).symm
                subst hyes;go_wp2
                go_ret
                exact ⟨rfl,HB3.out⟩
 have ec:mtC ⟨id,o,cs,pr,st,mv,rs,ls⟩ ⟨a1,c1,a2,c2,a3,c3,a4,c4,lv⟩=#[.string id,.int .i64 o,.slice a1 nc c1,.string pr,.int .i64 st,.slice a2 nm c2,.slice a3 nr c3,.slice a4 nl c4]:=by simp [mtC,h1,h2,h3,h4]
 have ed:mtC ⟨id2,o2,cs2,pr2,st2,mv2,rs2,ls2⟩ ⟨b1,e1,b2,e2,b3,e3,b4,e4,lv2⟩=#[.string id2,.int .i64 o2,.slice b1 nc2 e1,.string pr2,.int .i64 st2,.slice b2 nm2 e2,.slice b3 nr2 e3,.slice b4 nl2 e4]:=by simp [mtC,g1,g2,g3,g4]
 rw [ec,ed];exact hgo
end Go.Proofs.YtknchlpcpgflkaaGreatDoor

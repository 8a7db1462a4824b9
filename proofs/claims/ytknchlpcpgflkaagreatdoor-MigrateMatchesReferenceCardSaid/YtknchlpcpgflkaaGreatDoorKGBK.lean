import Derived.Test.YtknchlpcpgflkaaGreatDoorKGBJ
import Derived.Test.YtknchlpcpgflkaaGreatDoorKGAY
import Derived.ChangeKeysEq
import Derived.Test.YtknchlpcpgflkaaGreatDoorKGAO
set_option maxRecDepth 100000
set_option maxHeartbeats 16000000
namespace Go.Proofs.YtknchlpcpgflkaaGreatDoor
open Go.RowKit Go.Shelf
theorem eq_pair (a b c d:ByteArray) (q r v:Bool) (hq:(a.toList == c.toList)=q) (hr:(b.toList == d.toList)=r) (hv:(q && r)=v) (W:World) :
 (Op.equalIn 10000 75 (.agg #[.string a,.string b]) (.agg #[.string c,.string d])).run Tryz.prog W = .ok v W:=by
 subst hv;obtain ⟨i0,hi0,hz0,hz1,hz2⟩:=info_parts Tryz.infoStr;have hc:Tryz.prog.cellsOf 9=1:=by kernel_rfl
 have hu:Tryz.prog.underlying 75=some (.array 2 9):=by kernel_rfl
 have hs:Tryz.prog.underlying 9=some .string:=by kernel_rfl
 have h1:=fun d x y=>run_equalIn_string (P:=Tryz.prog) (w:=W) d 9 x y hs;have h2:∀ x y,(Op.equalIn 9999 9 (.string x) (.string y)).run Tryz.prog W = .ok (x.toList == y.toList) W:=h1 9998
 have hp:∀ (cs:Array Value) (i:Nat) (v:ByteArray),cs[i]? = some (.string v)→(part 9 cs i).run Tryz.prog W = .ok (.string v) W:=by
  intro cs i v h;exact run_part_plain (P:=Tryz.prog) (w:=W) (by kernel_rfl) h
 have ha:=run_equalIn_array (P:=Tryz.prog) W 9999 #[.string a,.string b] #[.string c,.string d] hu hi0;rw [hc] at ha;refine ha.trans ?_;simp only [List.range,List.range.loop,Op.eqItems,Sem.run_bind,Nat.zero_mul,Nat.one_mul,hp #[.string a,.string b] 0 a rfl,hp #[.string c,.string d] 0 c rfl,Result.andThen_ok,h2,hq]
 cases q <;> cases r <;> simp [hp #[.string a,.string b] 1 b rfl,hp #[.string c,.string d] 1 d rfl,h2,hr]
theorem rsameG_any (w:World) (B:Nat) (m n:Mg) (x y:MgX) (hm:MgAt w B m x) (hn:MgAt w B n y) (hB:B≤w.heap.size) (hs:SmlG m) (hs2:SmlG n) (q:Bool) (hq:q=true↔m=n) :
 Calls Tryz.prog 28 #[.agg (mgC m x),.agg (mgC n y)] w fun e w'=>e = .returned (.bool q)∧Below w.heap.size w w':=by
 have HM:=hd_ hm;have HN:=hd_ hn;obtain ⟨fr,tn,cs,rs,ls⟩:=m;obtain ⟨fr2,tn2,cs2,rs2,ls2⟩:=n;obtain ⟨a1,c1,a2,c3,a3,c4,lv⟩:=x;obtain ⟨b1,e1,b2,e3,b3,e4,lv2⟩:=y;have hno:¬ ((⟨fr,tn,cs,rs,ls⟩:Mg)=⟨fr2,tn2,cs2,rs2,ls2⟩)→q=false:=fun h=>by cases q with | false=>rfl | true=>exact absurd (hq.1 rfl) h
 have HNO:=hd_ hno;have HQ:=hd_ hq;have hll:lv.length=ls.length:=by have:=congrArg List.length hm.tv;simp only [List.length_map] at this;exact this
 have hll2:lv2.length=ls2.length:=by have:=congrArg List.length hn.tv;simp only [List.length_map] at this;exact this
 obtain ⟨nc,h1⟩:∃ k,cs.length=k:=⟨_,rfl⟩;obtain ⟨nr,h3⟩:∃ k,rs.length=k:=⟨_,rfl⟩;obtain ⟨nl,h4⟩:∃ k,ls.length=k:=⟨_,rfl⟩;obtain ⟨nc2,g1⟩:∃ k,cs2.length=k:=⟨_,rfl⟩;obtain ⟨nr2,g3⟩:∃ k,rs2.length=k:=⟨_,rfl⟩;obtain ⟨nl2,g4⟩:∃ k,ls2.length=k:=⟨_,rfl⟩;obtain ⟨z1,z3,z4⟩:=hs;obtain ⟨y1,y3,y4⟩:=hs2;simp only at z1 z3 z4 y1 y3 y4;rw [h1] at z1;rw [h3] at z3;rw [h4] at z4;rw [g1] at y1;rw [g3] at y3;rw [g4] at y4
 have hgo:Calls Tryz.prog 28 #[.agg #[.string fr,.string tn,.slice a1 nc c1,.slice a2 nr c3,.slice a3 nl c4],.agg #[.string fr2,.string tn2,.slice b1 nc2 e1,.slice b2 nr2 e3,.slice b3 nl2 e4]] w fun e w'=>e = .returned (.bool q)∧Below w.heap.size w w':=by
  have HV1:=hd_ h1;have HV3:=hd_ h3;have HV4:=hd_ h4;have HU1:=hd_ g1;have HU3:=hd_ g3;have HU4:=hd_ g4;have HLL:=hd_ (hll.trans h4);have HLL2:=hd_ (hll2.trans g4);have HBB:=hd_ hB;clear hm hn hq hno h1 h3 h4 g1 g3 g4 hll hll2 hB;by_cases q1:fr=fr2
  case neg=>
   obtain rfl:false=q:=(HNO.out fun e=>q1 (by injection e)).symm
   have d:(fr.toList == fr2.toList)=false:=by
    rw [beq_eq_false_iff_ne];intro e;rw [Lib.toList_data,Lib.toList_data] at e;exact q1 (ByteArray.ext (Array.toList_inj.1 e))
   clear HM HN HQ HNO;have hb:=(below_self_alloc w (.cells #[.string fr,.string tn,.slice a1 nc c1,.slice a2 nr c3,.slice a3 nl c4] 30)).alloc (by simp) (.cells #[.string fr2,.string tn2,.slice b1 nc2 e1,.slice b2 nr2 e3,.slice b3 nl2 e4] 30);have k0:=(Blk.new w 30 #[.string fr,.string tn,.slice a1 nc c1,.slice a2 nr c3,.slice a3 nl c4]).alloc (.cells #[.string fr2,.string tn2,.slice b1 nc2 e1,.slice b2 nr2 e3,.slice b3 nl2 e4] 30);have k1:=Blk.new1 w (.cells #[.string fr,.string tn,.slice a1 nc c1,.slice a2 nr c3,.slice a3 nl c4] 30) 30 #[.string fr2,.string tn2,.slice b1 nc2 e1,.slice b2 nr2 e3,.slice b3 nl2 e4];obtain ⟨t0,t1,-⟩:=k0.all;obtain ⟨s0,s1,-⟩:=k1.all;go_enter Tryz.func28,Tryz.ntmps28
   go_wp2
   go_ret
   exact ⟨rfl,hb⟩
  case pos=>
   subst q1;by_cases q3:tn=tn2
   case neg=>
    obtain rfl:false=q:=(HNO.out fun e=>q3 (by injection e)).symm
    have d:(tn.toList == tn2.toList)=false:=by
     rw [beq_eq_false_iff_ne];intro e;rw [Lib.toList_data,Lib.toList_data] at e;exact q3 (ByteArray.ext (Array.toList_inj.1 e))
    clear HM HN HQ HNO;have hb:=(below_self_alloc w (.cells #[.string fr,.string tn,.slice a1 nc c1,.slice a2 nr c3,.slice a3 nl c4] 30)).alloc (by simp) (.cells #[.string fr,.string tn2,.slice b1 nc2 e1,.slice b2 nr2 e3,.slice b3 nl2 e4] 30);have k0:=(Blk.new w 30 #[.string fr,.string tn,.slice a1 nc c1,.slice a2 nr c3,.slice a3 nl c4]).alloc (.cells #[.string fr,.string tn2,.slice b1 nc2 e1,.slice b2 nr2 e3,.slice b3 nl2 e4] 30);have k1:=Blk.new1 w (.cells #[.string fr,.string tn,.slice a1 nc c1,.slice a2 nr c3,.slice a3 nl c4] 30) 30 #[.string fr,.string tn2,.slice b1 nc2 e1,.slice b2 nr2 e3,.slice b3 nl2 e4];obtain ⟨t0,t1,-⟩:=k0.all;obtain ⟨s0,s1,-⟩:=k1.all;go_enter Tryz.func28,Tryz.ntmps28
    go_wp2
    go_ret
    exact ⟨rfl,hb⟩
   case pos=>
    subst q3;by_cases q5:nc=nc2
    case neg=>
     obtain rfl:false=q:=(HNO.out fun e=>q5 (by have e2:cs=cs2:=(by injection e);rw [← HV1.out,← HU1.out,e2])).symm;have dn:((nc:Int) == (nc2:Int))=false:=by simp;omega
     have dn2:¬ (nc:Int)=(nc2:Int):=by omega
     clear HM HN HQ HNO;have hb:=(below_self_alloc w (.cells #[.string fr,.string tn,.slice a1 nc c1,.slice a2 nr c3,.slice a3 nl c4] 30)).alloc (by simp) (.cells #[.string fr,.string tn,.slice b1 nc2 e1,.slice b2 nr2 e3,.slice b3 nl2 e4] 30);have k0:=(Blk.new w 30 #[.string fr,.string tn,.slice a1 nc c1,.slice a2 nr c3,.slice a3 nl c4]).alloc (.cells #[.string fr,.string tn,.slice b1 nc2 e1,.slice b2 nr2 e3,.slice b3 nl2 e4] 30);have k1:=Blk.new1 w (.cells #[.string fr,.string tn,.slice a1 nc c1,.slice a2 nr c3,.slice a3 nl c4] 30) 30 #[.string fr,.string tn,.slice b1 nc2 e1,.slice b2 nr2 e3,.slice b3 nl2 e4];obtain ⟨t0,t1,-⟩:=k0.all;obtain ⟨s0,s1,-⟩:=k1.all;go_enter Tryz.func28,Tryz.ntmps28
     go_wp2
     go_ret
     exact ⟨rfl,hb⟩
    case pos=>
     subst q5;by_cases q7:nr=nr2
     case neg=>
      obtain rfl:false=q:=(HNO.out fun e=>q7 (by have e2:rs=rs2:=(by injection e);rw [← HV3.out,← HU3.out,e2])).symm;have dn:((nr:Int) == (nr2:Int))=false:=by simp;omega
      have dn2:¬ (nr:Int)=(nr2:Int):=by omega
      clear HM HN HQ HNO;have hb:=(below_self_alloc w (.cells #[.string fr,.string tn,.slice a1 nc c1,.slice a2 nr c3,.slice a3 nl c4] 30)).alloc (by simp) (.cells #[.string fr,.string tn,.slice b1 nc e1,.slice b2 nr2 e3,.slice b3 nl2 e4] 30);have k0:=(Blk.new w 30 #[.string fr,.string tn,.slice a1 nc c1,.slice a2 nr c3,.slice a3 nl c4]).alloc (.cells #[.string fr,.string tn,.slice b1 nc e1,.slice b2 nr2 e3,.slice b3 nl2 e4] 30);have k1:=Blk.new1 w (.cells #[.string fr,.string tn,.slice a1 nc c1,.slice a2 nr c3,.slice a3 nl c4] 30) 30 #[.string fr,.string tn,.slice b1 nc e1,.slice b2 nr2 e3,.slice b3 nl2 e4];obtain ⟨t0,t1,-⟩:=k0.all;obtain ⟨s0,s1,-⟩:=k1.all;go_enter Tryz.func28,Tryz.ntmps28
      go_wp2
      go_ret
      exact ⟨rfl,hb⟩
     case pos=>
      subst q7;by_cases q8:nl=nl2
      case neg=>
       obtain rfl:false=q:=(HNO.out fun e=>q8 (by have e2:ls=ls2:=(by injection e);rw [← HV4.out,← HU4.out,e2])).symm;have dn:((nl:Int) == (nl2:Int))=false:=by simp;omega
       have dn2:¬ (nl:Int)=(nl2:Int):=by omega
       clear HM HN HQ HNO;have hb:=(below_self_alloc w (.cells #[.string fr,.string tn,.slice a1 nc c1,.slice a2 nr c3,.slice a3 nl c4] 30)).alloc (by simp) (.cells #[.string fr,.string tn,.slice b1 nc e1,.slice b2 nr e3,.slice b3 nl2 e4] 30);have k0:=(Blk.new w 30 #[.string fr,.string tn,.slice a1 nc c1,.slice a2 nr c3,.slice a3 nl c4]).alloc (.cells #[.string fr,.string tn,.slice b1 nc e1,.slice b2 nr e3,.slice b3 nl2 e4] 30);have k1:=Blk.new1 w (.cells #[.string fr,.string tn,.slice a1 nc c1,.slice a2 nr c3,.slice a3 nl c4] 30) 30 #[.string fr,.string tn,.slice b1 nc e1,.slice b2 nr e3,.slice b3 nl2 e4];obtain ⟨t0,t1,-⟩:=k0.all;obtain ⟨s0,s1,-⟩:=k1.all;go_enter Tryz.func28,Tryz.ntmps28
       go_wp2
       go_ret
       exact ⟨rfl,hb⟩
      case pos=>
       subst q8;have hb:=(below_self_alloc w (.cells #[.string fr,.string tn,.slice a1 nc c1,.slice a2 nr c3,.slice a3 nl c4] 30)).alloc (by simp) (.cells #[.string fr,.string tn,.slice b1 nc e1,.slice b2 nr e3,.slice b3 nl e4] 30);have k0:=(Blk.new w 30 #[.string fr,.string tn,.slice a1 nc c1,.slice a2 nr c3,.slice a3 nl c4]).alloc (.cells #[.string fr,.string tn,.slice b1 nc e1,.slice b2 nr e3,.slice b3 nl e4] 30);have k1:=Blk.new1 w (.cells #[.string fr,.string tn,.slice a1 nc c1,.slice a2 nr c3,.slice a3 nl c4] 30) 30 #[.string fr,.string tn,.slice b1 nc e1,.slice b2 nr e3,.slice b3 nl e4];obtain ⟨t0,t1,-⟩:=k0.all;obtain ⟨s0,s1,-⟩:=k1.all;go_enter Tryz.func28,Tryz.ntmps28
       go_upto_region 3 with fail
       generalize (w.alloc (.cells #[.string fr,.string tn,.slice a1 nc c1,.slice a2 nr c3,.slice a3 nl c4] 30)).alloc (.cells #[.string fr,.string tn,.slice b1 nc e1,.slice b2 nr e3,.slice b3 nl e4] 30)=W2 at *;have hst0:IntsAt W2 W2.heap.size a1 cs:=(HM.out.st.below (hb.mono HBB.out)).wide (Nat.le_trans HBB.out hb.size);have hst1:IntsAt W2 W2.heap.size b1 cs2:=(HN.out.st.below (hb.mono HBB.out)).wide (Nat.le_trans HBB.out hb.size);have HI:=hd_ hst0;have HI2:=hd_ hst1;have hrs:PrsAt W2 W2.heap.size a2 rs:=(HM.out.rs.below (hb.mono HBB.out)).wide (Nat.le_trans HBB.out hb.size);have hrs2:PrsAt W2 W2.heap.size b2 rs2:=(HN.out.rs.below (hb.mono HBB.out)).wide (Nat.le_trans HBB.out hb.size);have HR:=hd_ hrs;have HR2:=hd_ hrs2;have N0:=hd_ k0;have N1:=hd_ k1;have HB2:=hd_ hb;clear t0 t1 s0 s1 k0 k1 hb hrs hrs2 hst0 hst1;go_wp2_with fail
       go_loopw [5] (fun i wr=>∃ k:Nat,k≤nc∧i = .int .i64 (k:Int)∧Hid (cs.take k=cs2.take k)∧∃ j,wr=W2.drewN j) (fun i _=>nc - (intOf i).toNat)
       case atStart=>exact ⟨0,Nat.zero_le _,rfl,hd_ rfl,0,rfl⟩
       case round=>
        obtain ⟨k,hk,rfl,HT,j,rfl⟩:=hrel;have k0:=N0.out.drewN j;have k1:=N1.out.drewN j;obtain ⟨t0,t1,-⟩:=k0.all;obtain ⟨s0,s1,-⟩:=k1.all;by_cases hlt:k<nc
        · obtain ⟨x,hx⟩:∃ x,cs[k]? = some x:=⟨_,List.getElem?_eq_getElem (by rw [HV1.out];exact hlt)⟩
          obtain ⟨y,hy⟩:∃ y,cs2[k]? = some y:=⟨_,List.getElem?_eq_getElem (by rw [HU1.out];exact hlt)⟩;obtain ⟨ga,oa,hA,hga,p0⟩:=HI.out k x hx;obtain ⟨gb,ob,hA',hgb,r0⟩:=HI2.out k y hy;subst hA hA';have HX:=hd_ hx;have HY:=hd_ hy;clear hx hy;have p0':(W2.drewN j).cell? ⟨ga,oa+k,none⟩=some (.int .i64 x):=p0;have r0':(W2.drewN j).cell? ⟨gb,ob+k,none⟩=some (.int .i64 y):=r0;have ib0:(0:Int)≤(k:Int):=by omega
          have ib1:(k:Int)<(nc:Int):=by omega
          clear p0 r0
          have hne:¬ x=y→q=false:=fun h=>HNO.out fun e=>h (by
           have e2:cs=cs2:=(by injection e);have h1:=HX.out;rw [e2,HY.out] at h1;injection h1 with h1;exact h1.symm)
          by_cases hxy:x=y
          · subst hxy
            have HST:=hd_ (take_eq_snoc HT.out HX.out HY.out);clear hne;go_wp2_with fail
            generalize hW:W2.drewN j=W at *;go_quiet (fail)
            subst hW;go_wp2
            go_roundw
            case rel=>exact ⟨k+1,by omega,by go_num,HST,j+nq,rfl⟩
            case measure=>simp [intOf];omega
          · obtain rfl:q=false:=hne hxy
            have d2:(x == y)=false:=by simp [hxy]
            clear hne;go_wp2_with fail
            generalize hW:W2.drewN j=W at *;go_quiet (fail)
            subst hW;go_wp2
            go_ret
            exact ⟨rfl,below_dN (below_dN HB2.out j) nq⟩
        · obtain rfl:nc=k:=by omega
          have hcc:cs=cs2:=by
           have:=HT.out;rwa [List.take_of_length_le (by rw [HV1.out];exact Nat.le_refl _),List.take_of_length_le (by rw [HU1.out];exact Nat.le_refl _)] at this
          have HCC:=hd_ hcc;clear hcc;go_wp2_with fail
          clear t0 t1 s0 s1 k0 k1;go_loopw [6] (fun i wr=>∃ k:Nat,k≤nr∧i = .int .i64 (k:Int)∧Hid (rs.take k=rs2.take k)∧∃ j,wr=W2.drewN j) (fun i _=>nr - (intOf i).toNat)
          case atStart=>exact ⟨0,Nat.zero_le _,rfl,hd_ rfl,j,rfl⟩
          case round=>
           clear HT;obtain ⟨k,hk,rfl,HT,j,rfl⟩:=hrel;have k0:=N0.out.drewN j;have k1:=N1.out.drewN j;obtain ⟨t0,t1,-⟩:=k0.all;obtain ⟨s0,s1,-⟩:=k1.all;by_cases hlt:k<nr
           · obtain ⟨x,hx⟩:∃ x,rs[k]? = some x:=⟨_,List.getElem?_eq_getElem (by rw [HV3.out];exact hlt)⟩
             obtain ⟨y,hy⟩:∃ y,rs2[k]? = some y:=⟨_,List.getElem?_eq_getElem (by rw [HU3.out];exact hlt)⟩;obtain ⟨ga,oa,hA,hga,p0,p1⟩:=HR.out k x hx;obtain ⟨gb,ob,hA',hgb,r0,r1⟩:=HR2.out k y hy;subst hA hA';have HX:=hd_ hx;have HY:=hd_ hy;clear hx hy;obtain ⟨x1,x2⟩:=x;obtain ⟨y1',y2⟩:=y;have p0':(W2.drewN j).cell? ⟨ga,oa+k*2,none⟩=some (.string x1):=p0;have p1':(W2.drewN j).cell? ⟨ga,oa+k*2+1,none⟩=some (.string x2):=p1;have r0':(W2.drewN j).cell? ⟨gb,ob+k*2,none⟩=some (.string y1'):=r0;have r1':(W2.drewN j).cell? ⟨gb,ob+k*2+1,none⟩=some (.string y2):=r1;have ib0:(0:Int)≤(k:Int):=by omega
             have ib1:(k:Int)<(nr:Int):=by omega
             clear p0 p1 r0 r1
             have hne:¬ (x1=y1'∧x2=y2)→q=false:=fun h=>HNO.out fun e=>h (by
              have e2:rs=rs2:=(by injection e);have h1:=HX.out;rw [e2,HY.out] at h1;injection h1 with h1;injection h1 with h1 h2;exact ⟨h1.symm,h2.symm⟩)
             by_cases hx1:x1=y1'
             · subst hx1
               by_cases hx2:x2=y2
               · subst hx2
                 have HST:=hd_ (take_eq_snoc HT.out HX.out HY.out);have ep:=eq_pair x1 x2 x1 x2 true true true (by simp) (by simp) rfl;clear hne;go_wp2_with fail
                 generalize hW:W2.drewN j=W at *;go_quiet (fail)
                 subst hW;go_wp2
                 go_roundw
                 case rel=>exact ⟨k+1,by omega,by go_num,HST,j+nq,rfl⟩
                 case measure=>simp [intOf];omega
               · obtain rfl:q=false:=hne fun h=>hx2 h.2
                 have ep:=eq_pair x1 x2 x1 y2 true false false (by simp) (str_no hx2) rfl;clear hne;go_wp2_with fail
                 generalize hW:W2.drewN j=W at *;go_quiet (fail)
                 subst hW;go_wp2
                 go_ret
                 exact ⟨rfl,below_dN (below_dN HB2.out j) nq⟩
             · obtain rfl:q=false:=hne fun h=>hx1 h.1
               obtain ⟨rq,hrq⟩:∃ r,(x2.toList == y2.toList)=r:=⟨_,rfl⟩;have ep:=eq_pair x1 x2 y1' y2 false rq false (str_no hx1) hrq (Bool.false_and rq);clear hrq;clear hne;go_wp2_with fail
               generalize hW:W2.drewN j=W at *;go_quiet (fail)
               subst hW;go_wp2
               go_ret
               exact ⟨rfl,below_dN (below_dN HB2.out j) nq⟩
           · obtain rfl:nr=k:=by omega
             have hrr:rs=rs2:=by
              have:=HT.out;rwa [List.take_of_length_le (by rw [HV3.out];exact Nat.le_refl _),List.take_of_length_le (by rw [HU3.out];exact Nat.le_refl _)] at this
             have HRR:=hd_ hrr;clear hrr;go_wp2_with fail
             have hb3:=below_dN HB2.out j;have k0:=N0.out.drewN j;have k1:=N1.out.drewN j;clear t0 t1 s0 s1;generalize W2.drewN j=W3 at *;have K0:=hd_ k0;have K1:=hd_ k1;have HB3:=hd_ hb3;clear k0 k1 hb3;go_loopg [7] nl (fun nn i wr=>∃ k:Nat,k+nn=nl∧i = .int .i64 (k:Int)∧Hid (ls.take k=ls2.take k)∧Hid (Below w.heap.size w wr)∧Hid (Blk wr w.heap.size 30 #[.string fr,.string tn,.slice a1 nc c1,.slice a2 nr c3,.slice a3 nl c4])∧Hid (Blk wr (w.heap.size+1) 30 #[.string fr,.string tn,.slice b1 nc e1,.slice b2 nr e3,.slice b3 nl e4]))
             case atStart=>exact ⟨0,Nat.zero_add _,rfl,hd_ rfl,HB3,K0,K1⟩
             case round=>
              clear HB3 K0 K1 HT HR HR2;obtain ⟨k,hk,rfl,HT,HB3,K0,K1⟩:=hrel;obtain ⟨t0,t1,-⟩:=K0.out.all;obtain ⟨s0,s1,-⟩:=K1.out.all;by_cases hlt:k<nl
              · obtain ⟨x,hx⟩:∃ x,lv[k]? = some x:=⟨_,List.getElem?_eq_getElem (by rw [HLL.out];exact hlt)⟩
                obtain ⟨y,hy⟩:∃ y,lv2[k]? = some y:=⟨_,List.getElem?_eq_getElem (by rw [HLL2.out];exact hlt)⟩;have hxl:ls[k]? = some x.1:=by have e:=HM.out.tv;simp only at e;rw [← e,List.getElem?_map,hx];rfl
                have hyl:ls2[k]? = some y.1:=by have e:=HN.out.tv;simp only at e;rw [← e,List.getElem?_map,hy];rfl
                have HLS:Hid (LmsAt wr wr.heap.size a3 lv):=hd_ ((HM.out.ts.below (HB3.out.mono HBB.out)).wide (Nat.le_trans HBB.out HB3.out.size));have HLS2:Hid (LmsAt wr wr.heap.size b3 lv2):=hd_ ((HN.out.ts.below (HB3.out.mono HBB.out)).wide (Nat.le_trans HBB.out HB3.out.size));obtain ⟨ga,oa,hA,hga,u0,u1,u2,u3,u4,hLa⟩:=HLS.out k x hx;obtain ⟨gb,ob,hA',hgb,v0,v1,v2,v3,v4,hLb⟩:=HLS2.out k y hy;subst hA hA';obtain ⟨⟨i1,n1,w1,f1,S1⟩,A1,C1⟩:=x;obtain ⟨⟨i2,n2,w2,f2,S2⟩,A2,C2⟩:=y;have ib0:(0:Int)≤(k:Int):=by omega
                have ib1:(k:Int)<(nl:Int):=by omega
                simp only at u0 u1 u2 u3 u4 v0 v1 v2 v3 v4 hLa hLb hxl hyl;have HXL:=hd_ hxl;have HYL:=hd_ hyl;have HLA:=hd_ hLa;have HLB:=hd_ hLb;clear hx hy hxl hyl hLa hLb;have cc:∀ (Q:Bool),(Q=true↔(⟨i1,n1,w1,f1,S1⟩:Lm)=⟨i2,n2,w2,f2,S2⟩)→∀ W,Below wr.heap.size wr W→Calls Tryz.prog 13 #[.agg #[.string i1,.int .i64 n1,.int .i64 w1,.int .i64 f1,.slice A1 S1.length C1],.agg #[.string i2,.int .i64 n2,.int .i64 w2,.int .i64 f2,.slice A2 S2.length C2]] W fun e w'=>e = .returned (.bool Q)∧Below W.heap.size W w':=fun Q hQ W hW=>rsameL_any W wr.heap.size ⟨i1,n1,w1,f1,S1⟩ ⟨i2,n2,w2,f2,S2⟩ A1 A2 C1 C2 (HLA.out.below hW) (HLB.out.below hW) hW.size Q hQ;have CCH:=hd_ cc;clear cc;go_upto_region 17 with fail
                refine wp_region_hold (fun V=>Below wr.heap.size wr V) [0,1,2,3,4,5,6,7,8,9] [10] [11] (by kernel_rfl) (by kernel_rfl) (fun _ d _ _ _ h=>by cases d <;> exact h) (Below.refl _ wr).drew ?_;simp only [pick,List.drop_succ_cons,List.drop_zero,List.head?_cons,Option.toList_some,List.cons_append,List.nil_append]
                repeat (refine wpHeld_step ?_ rfl ?_ ?_;rotate_left;· (intro V hV;obtain ⟨t0,t1,-⟩:=(K0.out.below hV K0.out.lt).all;obtain ⟨s0,s1,-⟩:=(K1.out.below hV K1.out.lt).all;have u0:=(hV.cell (p:=⟨ga,oa+k*5,none⟩) hga).trans u0;have u1:=(hV.cell (p:=⟨ga,oa+k*5+1,none⟩) hga).trans u1;have u2:=(hV.cell (p:=⟨ga,oa+k*5+2,none⟩) hga).trans u2;have u3:=(hV.cell (p:=⟨ga,oa+k*5+3,none⟩) hga).trans u3;have u4:=(hV.cell (p:=⟨ga,oa+k*5+4,none⟩) hga).trans u4;have v0:=(hV.cell (p:=⟨gb,ob+k*5,none⟩) hgb).trans v0;have v1:=(hV.cell (p:=⟨gb,ob+k*5+1,none⟩) hgb).trans v1;have v2:=(hV.cell (p:=⟨gb,ob+k*5+2,none⟩) hgb).trans v2;have v3:=(hV.cell (p:=⟨gb,ob+k*5+3,none⟩) hgb).trans v3;have v4:=(hV.cell (p:=⟨gb,ob+k*5+4,none⟩) hgb).trans v4;go_simp;with_reducible rfl))
                refine wpHeld_nil ?_;simp only [wpEarly];clear t0 t1 s0 s1 u0 u1 u2 u3 u4 v0 v1 v2 v3 v4;have hwd:=(Below.refl wr.heap.size wr).drew;have HWD:=hd_ hwd;clear hwd;generalize wr.drew=Wd at *;by_cases hxy:(⟨i1,n1,w1,f1,S1⟩:Lm)=⟨i2,n2,w2,f2,S2⟩
                · have hst:ls.take (k+1)=ls2.take (k+1):=take_eq_snoc HT.out HXL.out (by rw [hxy];exact HYL.out)
                  have HST:=hd_ hst;have hc:=CCH.out true (by simp [hxy]) Wd HWD.out;have HC:=hd_ hc;clear hc hst hxy;go_wp2_with fail
                  refine HC.out.mono ?_;rintro e We ⟨rfl,x1⟩;have hwe:=HWD.out.trans (x1.mono HWD.out.size);have HWE:=hd_ hwe;clear x1 hwe;go_wp2_with fail
                  refine ⟨HWE.out,?_⟩;have HB4:=hd_ (HB3.out.trans (HWE.out.mono HB3.out.size));have K0b:=hd_ (K0.out.below HWE.out K0.out.lt);have K1b:=hd_ (K1.out.below HWE.out K1.out.lt);go_wp2
                  go_roundg (gk - 1)
                  case rel=>exact ⟨k+1,by omega,by go_num,HST,HB4,K0b,K1b⟩
                  case measure=>omega
                · obtain rfl:q=false:=HNO.out fun e=>hxy (by
                   have e2:ls=ls2:=(by injection e);have h1:=HXL.out;rw [e2,HYL.out] at h1;injection h1 with h1;exact h1.symm)
                  have hc:=CCH.out false (by simp only [Bool.false_eq_true,false_iff];exact hxy) Wd HWD.out;have HC:=hd_ hc;clear hc hxy;go_wp2_with fail
                  refine HC.out.mono ?_;rintro e We ⟨rfl,x1⟩;have hwe:=HWD.out.trans (x1.mono HWD.out.size);have HWE:=hd_ hwe;clear x1 hwe;go_wp2_with fail
                  refine ⟨HWE.out,?_⟩;have HB4:=hd_ (HB3.out.trans (HWE.out.mono HB3.out.size));go_wp2
                  go_ret
                  exact ⟨rfl,HB4.out⟩
              · obtain rfl:nl=k:=by omega
                have hyes:true=q:=(HQ.out.2 (by
                 have:=HT.out;rw [List.take_of_length_le (by rw [HV4.out];exact Nat.le_refl _),List.take_of_length_le (by rw [HU4.out];exact Nat.le_refl _)] at this;rw [HCC.out,HRR.out,this])).symm
                subst hyes;go_wp2
                go_ret
                exact ⟨rfl,HB3.out⟩
 have ec:mgC ⟨fr,tn,cs,rs,ls⟩ ⟨a1,c1,a2,c3,a3,c4,lv⟩=#[.string fr,.string tn,.slice a1 nc c1,.slice a2 nr c3,.slice a3 nl c4]:=by unfold mgC;simp only [h1,h3,h4]
 have ed:mgC ⟨fr2,tn2,cs2,rs2,ls2⟩ ⟨b1,e1,b2,e3,b3,e4,lv2⟩=#[.string fr2,.string tn2,.slice b1 nc2 e1,.slice b2 nr2 e3,.slice b3 nl2 e4]:=by unfold mgC;simp only [g1,g3,g4]
 rw [ec,ed];exact hgo
def flipM (ms:List I2):List I2:=ms.map fun m=>(m.2,m.1)
def RchOn (ms:List I2) (s:Int) (v:List Bool):Prop:=∀ i:Nat,onAt v i→Rch ms s (i:Int)
theorem RchOn.one {ms:List I2} {n:Nat} (hin:MvIn n ms) {s:Int} {v:List Bool} (h:RchOn ms s v) {m:I2} (hm:m∈ms):RchOn ms s (swp1 v (m.2,m.1)):=by
 intro i hi;obtain ⟨⟨h1,-⟩,h2,-⟩:=hin m hm;rcases swp1_only hi with h' | ⟨rfl,h'⟩
 · exact h i h'
 · have:=h _ h'
   simp only at this ⊢;rw [Int.toNat_of_nonneg h1] at this;rw [Int.toNat_of_nonneg h2];exact this.snoc hm
theorem RchOn.round {ms:List I2} {n:Nat} (hin:MvIn n ms) {s:Int} : ∀ (l:List I2) {v:List Bool},(∀ m∈l,m∈ms)→RchOn ms s v→RchOn ms s (swp (flipM l) v)
 | [],_,_,h=>h
 | m::l,v,hl,h=>by
  show RchOn ms s (swp (flipM l) (swp1 v (m.2,m.1)));exact RchOn.round hin l (fun x hx=>hl x (List.mem_cons_of_mem _ hx)) (h.one hin (hl m (by simp)))
theorem RchOn.rounds {ms:List I2} {n:Nat} (hin:MvIn n ms) {s:Int} {v:List Bool} (h:RchOn ms s v):∀ k,RchOn ms s (swpN (flipM ms) k v)
 | 0=>h
 | k+1=>RchOn.round hin ms (fun _ h=>h) (RchOn.rounds hin h k)
theorem swpN_on (ms:List I2) {v:List Bool} {i:Nat} (h:onAt v i):∀ k,onAt (swpN ms k v) i
 | 0=>h
 | k+1=>swp_on ms (swpN_on ms h k)
end Go.Proofs.YtknchlpcpgflkaaGreatDoor

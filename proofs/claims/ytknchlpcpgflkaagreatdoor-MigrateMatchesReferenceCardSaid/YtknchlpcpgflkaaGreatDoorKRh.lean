import Derived.Test.YtknchlpcpgflkaaGreatDoorKGBN
import Derived.Test.YtknchlpcpgflkaaGreatDoorKGBM
set_option maxRecDepth 100000
set_option maxHeartbeats 16000000
namespace Go.Proofs.YtknchlpcpgflkaaGreatDoor
open Go.RowKit Go.Shelf
theorem boxes4 {w W:World} {c0 c1 c2 c3:Array Value} {t0 t1 t2 t3:TypeId} (hW:(((w.alloc (.cells c0 t0)).alloc (.cells c1 t1)).alloc (.cells c2 t2)).alloc (.cells c3 t3)=W) :
 Below w.heap.size w W∧Blk W w.heap.size t0 c0∧Blk W (w.heap.size+1) t1 c1∧Blk W (w.heap.size+1+1) t2 c2∧Blk W (w.heap.size+1+1+1) t3 c3:=by
 subst hW;have s:∀ (V:World) (o:Obj),(V.alloc o).heap.size=V.heap.size+1:=fun V o=>by simp
 have b0:=below_self_alloc w (.cells c0 t0);have b1:=b0.alloc b0.size (.cells c1 t1);have b2:=b1.alloc b1.size (.cells c2 t2);have k1:=Blk.new (w.alloc (.cells c0 t0)) t1 c1;have k2:=Blk.new ((w.alloc (.cells c0 t0)).alloc (.cells c1 t1)) t2 c2;have k3:=Blk.new (((w.alloc (.cells c0 t0)).alloc (.cells c1 t1)).alloc (.cells c2 t2)) t3 c3;simp only [s] at k1 k2 k3;exact ⟨b2.alloc b2.size _,(((Blk.new w t0 c0).alloc _).alloc _).alloc _,(k1.alloc _).alloc _,k2.alloc _,k3⟩
theorem rthen_any (w:World) (B:Nat) (a:Mg) (x:MgX) (h:MgAt w B a x) (hB:B≤w.heap.size) (hs:SmlG a) (b:Mg) (y:MgX) (hb:MgAt w B b y) (hsb:SmlG b) :
 Calls Tryz.prog 26 #[.agg (mgC a x),.agg (mgC b y)] w (ThenPost w a b):=by
 have hfa:=fun W (hW:Below w.heap.size w W)=>rformedG_any W B a x (h.below (hW.mono hB)) (Nat.le_trans hB hW.size) hs;have hfb:=fun W (hW:Below w.heap.size w W)=>rformedG_any W B b y (hb.below (hW.mono hB)) (Nat.le_trans hB hW.size) hsb;have hfin:=fun (E:Int) (hE:thenE a b=E) (h0:E≠0) W (hb:Below w.heap.size w W)=>then_err hE h0 hb;have hte:thenE a b=if (mgB a && (mgB b && (decide (a.tn=b.fr) && a.st.all fun s=>decide (s<(b.st.length:Int)))))=false then 1 else if ¬ ((a.ts++b.ts).map (·.id)).Nodup then 9 else if 60<(thenRs a b).length∨60<(a.ts++b.ts).length then 2 else 0:=rfl;have hids:=fun ha hb=>ids_both (a:=a) (b:=b) ha hb;have HH:=hd_ h;have HHB:=hd_ hb;obtain ⟨fa,hfa1⟩:∃ r,mgB a=r:=⟨_,rfl⟩;obtain ⟨fb,hfb1⟩:∃ r,mgB b=r:=⟨_,rfl⟩;have HFA1:=hd_ hfa1;have HFB1:=hd_ hfb1;rw [hfa1] at hfa hte;rw [hfb1] at hfb hte;clear hfa1 hfb1 h hb;obtain ⟨afr,atn,ast,ars,ats⟩:=a;obtain ⟨a1,qa1,a2,qa2,a3,qa3,atv⟩:=x;obtain ⟨bfr,btn,bst,brs,bts⟩:=b;obtain ⟨b1,qb1,b2,qb2,b3,qb3,btv⟩:=y;obtain ⟨an,han⟩:∃ k,ast.length=k:=⟨_,rfl⟩;obtain ⟨ar,har⟩:∃ k,ars.length=k:=⟨_,rfl⟩;obtain ⟨aj,haj⟩:∃ k,ats.length=k:=⟨_,rfl⟩;obtain ⟨bn,hbn⟩:∃ k,bst.length=k:=⟨_,rfl⟩;obtain ⟨br,hbr⟩:∃ k,brs.length=k:=⟨_,rfl⟩;obtain ⟨bj,hbj⟩:∃ k,bts.length=k:=⟨_,rfl⟩;have eA:mgC ⟨afr,atn,ast,ars,ats⟩ ⟨a1,qa1,a2,qa2,a3,qa3,atv⟩=#[.string afr,.string atn,.slice a1 an qa1,.slice a2 ar qa2,.slice a3 aj qa3]:=by unfold mgC;simp only [han,har,haj]
 have eB:mgC ⟨bfr,btn,bst,brs,bts⟩ ⟨b1,qb1,b2,qb2,b3,qb3,btv⟩=#[.string bfr,.string btn,.slice b1 bn qb1,.slice b2 br qb2,.slice b3 bj qb3]:=by unfold mgC;simp only [hbn,hbr,hbj]
 rw [eA] at hfa;rw [eB] at hfb;rw [eA,eB];simp only at hte hids;rw [hbn] at hte;have HFA:=hd_ hfa;have HFB:=hd_ hfb;have HFIN:=hd_ hfin;have HTE:=hd_ hte;have HIDS:=hd_ hids;have HAN:=hd_ han;have HAR:=hd_ har;have HAJ:=hd_ haj;have HBN:=hd_ hbn;have HBR:=hd_ hbr;have HBJ:=hd_ hbj;have HS:=hd_ hs;have HSB:=hd_ hsb;have HBH:=hd_ hB;have EA:=hd_ eA;have EB:=hd_ eB;clear eA eB hfa hfb hfin hte hids han har haj hbn hbr hbj hs hsb hB;go_enter Tryz.func26,Tryz.ntmps26
 go_upto_region 2 with fail
 generalize hW0:(((w.alloc (.cells #[.string afr,.string atn,.slice a1 an qa1,.slice a2 ar qa2,.slice a3 aj qa3] 30)).alloc (.cells #[.string bfr,.string btn,.slice b1 bn qb1,.slice b2 br qb2,.slice b3 bj qb3] 30)).alloc (.cells #[.string ⟨#[]⟩,.string ⟨#[]⟩,.slice none 0 0,.slice none 0 0,.slice none 0 0] 30)).alloc (.cells #[.string ⟨#[]⟩,.string ⟨#[]⟩,.slice none 0 0,.slice none 0 0,.slice none 0 0] 30)=W0 at *;obtain ⟨hb,k0,k1,k2,k3⟩:=boxes4 hW0;have HB:=hd_ hb;have K0:=hd_ k0;have K1:=hd_ k1;have K2:=hd_ k2;have K3:=hd_ k3;clear hb k0 k1 k2 k3 hW0;obtain ⟨t0,t1,t2⟩:=K0.out.all;obtain ⟨u0,u1,u2⟩:=K1.out.all;obtain ⟨v0,v1,v2⟩:=K3.out.all;go_wp2_with fail
 refine (HFA.out W0 HB.out).mono ?_;rintro e W1 ⟨rfl,bb⟩;replace K0:=hd_ (K0.out.below bb K0.out.lt);replace K1:=hd_ (K1.out.below bb K1.out.lt);replace K2:=hd_ (K2.out.below bb K2.out.lt);replace K3:=hd_ (K3.out.below bb K3.out.lt);replace HB:=hd_ (HB.out.trans (bb.mono HB.out.size));clear bb t0 t1 t2 u0 u1 u2 v0 v1 v2;obtain ⟨t0,t1,t2⟩:=K0.out.all;obtain ⟨u0,u1,u2⟩:=K1.out.all;obtain ⟨v0,v1,v2⟩:=K3.out.all
 cases fa with
 | false=>
  have HFN:=hd_ (HFIN.out 1 (by rw [HTE.out];rfl) (by decide));have HLX:=hd_ (row_loadG K2.out #[.string ⟨#[]⟩,.string ⟨#[]⟩,.slice none 0 0,.slice none 0 0,.slice none 0 0] rfl);go_upto_region 3 with fail
  clear t0 t1 t2 u0 u1 u2;go_wp2_with (refine wp_rowG rfl (.tmp 4) (.tmp 31) rfl (w.heap.size+1+1) #[.string ⟨#[]⟩,.string ⟨#[]⟩,.slice none 0 0,.slice none 0 0,.slice none 0 0] rfl rfl rfl one5 rfl K2.out ?_)
  exact bodyPost_ret (v:=.tuple #[.agg #[.string ⟨#[]⟩,.string ⟨#[]⟩,.slice none 0 0,.slice none 0 0,.slice none 0 0],.int .i64 1]) (by simp [results,Tryz.results26,asAddr,HLX.out]) rfl (HFN.out _ (below_row HB.out (show w.heap.size≤w.heap.size+1+1 by omega) #[.string ⟨#[]⟩,.string ⟨#[]⟩,.slice none 0 0,.slice none 0 0,.slice none 0 0]))
 | true=>
 go_wp2_with fail
 refine (HFB.out W1 HB.out).mono ?_;rintro e W2 ⟨rfl,bb⟩;replace K0:=hd_ (K0.out.below bb K0.out.lt);replace K1:=hd_ (K1.out.below bb K1.out.lt);replace K2:=hd_ (K2.out.below bb K2.out.lt);replace K3:=hd_ (K3.out.below bb K3.out.lt);replace HB:=hd_ (HB.out.trans (bb.mono HB.out.size));clear bb t0 t1 t2 u0 u1 u2 v0 v1 v2;obtain ⟨t0,t1,t2⟩:=K0.out.all;obtain ⟨u0,u1,u2⟩:=K1.out.all;obtain ⟨v0,v1,v2⟩:=K3.out.all
 cases fb with
 | false=>
  have HFN:=hd_ (HFIN.out 1 (by rw [HTE.out];rfl) (by decide));have HLX:=hd_ (row_loadG K2.out #[.string ⟨#[]⟩,.string ⟨#[]⟩,.slice none 0 0,.slice none 0 0,.slice none 0 0] rfl);go_upto_region 3 with fail
  clear t0 t1 t2 u0 u1 u2;go_wp2_with (refine wp_rowG rfl (.tmp 4) (.tmp 31) rfl (w.heap.size+1+1) #[.string ⟨#[]⟩,.string ⟨#[]⟩,.slice none 0 0,.slice none 0 0,.slice none 0 0] rfl rfl rfl one5 rfl K2.out ?_)
  exact bodyPost_ret (v:=.tuple #[.agg #[.string ⟨#[]⟩,.string ⟨#[]⟩,.slice none 0 0,.slice none 0 0,.slice none 0 0],.int .i64 1]) (by simp [results,Tryz.results26,asAddr,HLX.out]) rfl (HFN.out _ (below_row HB.out (show w.heap.size≤w.heap.size+1+1 by omega) #[.string ⟨#[]⟩,.string ⟨#[]⟩,.slice none 0 0,.slice none 0 0,.slice none 0 0]))
 | true=>
 by_cases hnm:atn=bfr
 case neg=>
  have es:=str_no hnm;have HFN:=hd_ (HFIN.out 1 (by rw [HTE.out];rw [decide_eq_false hnm];rfl) (by decide));have HLX:=hd_ (row_loadG K2.out #[.string ⟨#[]⟩,.string ⟨#[]⟩,.slice none 0 0,.slice none 0 0,.slice none 0 0] rfl);go_upto_region 3 with fail
  clear t0 t1 t2 u0 u1 u2;go_wp2_with (refine wp_rowG rfl (.tmp 4) (.tmp 31) rfl (w.heap.size+1+1) #[.string ⟨#[]⟩,.string ⟨#[]⟩,.slice none 0 0,.slice none 0 0,.slice none 0 0] rfl rfl rfl one5 rfl K2.out ?_)
  exact bodyPost_ret (v:=.tuple #[.agg #[.string ⟨#[]⟩,.string ⟨#[]⟩,.slice none 0 0,.slice none 0 0,.slice none 0 0],.int .i64 1]) (by simp [results,Tryz.results26,asAddr,HLX.out]) rfl (HFN.out _ (below_row HB.out (show w.heap.size≤w.heap.size+1+1 by omega) #[.string ⟨#[]⟩,.string ⟨#[]⟩,.slice none 0 0,.slice none 0 0,.slice none 0 0]))
 subst hnm;go_upto_region 5 with fail
 have ko:=Blk.new W2 30 #[.string afr,.string btn,.slice none 0 0,.slice none 0 0,.slice none 0 0];have bb:=below_self_alloc W2 (.cells #[.string afr,.string btn,.slice none 0 0,.slice none 0 0,.slice none 0 0] 30);have hlo:=K3.out.lt;have hb2:=HB.out.trans (bb.mono HB.out.size);have RS:Hid (RtS w (W2.alloc (.cells #[.string afr,.string btn,.slice none 0 0,.slice none 0 0,.slice none 0 0] 30)) #[.string afr,.string atn,.slice a1 an qa1,.slice a2 ar qa2,.slice a3 aj qa3] #[.string atn,.string btn,.slice b1 bn qb1,.slice b2 br qb2,.slice b3 bj qb3] W2.heap.size #[.string afr,.string btn,.slice none 0 0,.slice none 0 0,.slice none 0 0] (.slice none 0 0) 0 [] (.slice none 0 0) 0 [] (.slice none 0 0) 0 []):=hd_ ⟨⟨hb2,K0.out.below bb K0.out.lt,K1.out.below bb K1.out.lt,K2.out.below bb K2.out.lt,ko,World.ownsRow_nil _ _ _ _,World.ownsRow_nil _ _ _ _,World.ownsRow_nil _ _ _ _,by omega⟩,K3.out.below bb K3.out.lt,hlo⟩;clear ko bb hlo hb2 t0 t1 t2 u0 u1 u2 v0 v1 v2 K0 K1 K2 K3 HB HFA HFB;generalize W2.alloc (.cells #[.string afr,.string btn,.slice none 0 0,.slice none 0 0,.slice none 0 0] 30)=W3 at *;generalize W2.heap.size=bo at *;obtain ⟨i0,hi0,hz0,hz1,hz2⟩:=info_parts Tryz.infoInt;have hmga:=mgB_iff.1 HFA1.out;have hmgb:=mgB_iff.1 HFB1.out;have hda:=(difB_iff.1 hmga.2.2.2.2.1).2.2;have hdb:=(difB_iff.1 hmgb.2.2.2.2.1).2.2;have hta:=(difB_iff.1 hmga.2.2.2.2.2).2.2;have htb:=(difB_iff.1 hmgb.2.2.2.2.2).2.2;have hl60:=hmga.2.2.1.2;simp only at hda hdb hta htb hl60;rw [HAR.out] at hda;rw [HBR.out] at hdb;rw [HAJ.out] at hta;rw [HBJ.out] at htb;rw [HAN.out] at hl60;clear hmga hmgb;go_wp2_with fail
 go_loopg [8] an (fun nn i wr=>∃ (k:Nat) (A:Option Addr) (c:Nat),k+nn=an∧i = .int .i64 (k:Int)∧Hid (RtS w wr #[.string afr,.string atn,.slice a1 an qa1,.slice a2 ar qa2,.slice a3 aj qa3] #[.string atn,.string btn,.slice b1 bn qb1,.slice b2 br qb2,.slice b3 bj qb3] bo #[.string afr,.string btn,.slice A k c,.slice none 0 0,.slice none 0 0] (.slice A k c) k ((ast.take k).map (thenSt ⟨atn,btn,bst,brs,bts⟩)) (.slice none 0 0) 0 [] (.slice none 0 0) 0 [])∧Hid (∀ s∈ast.take k,s<(bn:Int)))
 case atStart=>exact ⟨0,none,0,Nat.zero_add _,rfl,RS,hd_ (fun s hs=>by simp at hs)⟩
 case round=>
  clear RS;obtain ⟨k,A,c,hk,rfl,RS,HI⟩:=hrel;obtain ⟨t0,t1,t2⟩:=RS.out.th.ka.all;obtain ⟨u0,u1,u2⟩:=RS.out.th.kb.all;obtain ⟨v0,v1,v2⟩:=(show Blk wr (w.heap.size+1+1+1) 30 #[.string ⟨#[]⟩,.string ⟨#[]⟩,.slice none 0 0,.slice none 0 0,.slice none 0 0] from RS.out.k6).all;by_cases hlt:k<an
  · obtain ⟨mm,rfl⟩:∃ m,gk=m+1:=⟨gk - 1,by omega⟩
    obtain ⟨s,hs⟩:∃ s,ast[k]? = some s:=⟨_,List.getElem?_eq_getElem (by rw [HAN.out];exact hlt)⟩;obtain ⟨ga,oa,hA1,hga,p0⟩:=(HH.out.below (RS.out.th.hb.mono HBH.out)).st k s hs;have hA1:a1=some ⟨ga,oa,none⟩:=hA1;subst hA1;have p0:wr.cell? ⟨ga,oa+k,none⟩=some (.int .i64 s):=p0;have ib0:(0:Int)≤(k:Int):=by omega
    have ib1:(k:Int)<(an:Int):=by omega
    have HSS:=hd_ hs;clear hs;by_cases hsb:s<(bn:Int)
    case neg=>
     have d0:decide ((bn:Int)≤s)=true:=decide_eq_true (by omega);have hall:¬ ∀ s∈ast,s<(bn:Int):=fun h=>hsb (h s (List.mem_of_getElem? HSS.out));have HALL:=hd_ hall;clear hsb hall;have HFN:=hd_ (HFIN.out 1 (by rw [HTE.out];rw [if_pos];simpa using HALL.out) (by decide));have HLX:=hd_ (row_loadG RS.out.th.kz #[.string ⟨#[]⟩,.string ⟨#[]⟩,.slice none 0 0,.slice none 0 0,.slice none 0 0] rfl);go_upto_region 10 with fail
     clear t0 t1 t2 u0 u1 u2;go_wp2_with (refine wp_rowG rfl (.tmp 4) (.tmp 54) rfl (w.heap.size+1+1) #[.string ⟨#[]⟩,.string ⟨#[]⟩,.slice none 0 0,.slice none 0 0,.slice none 0 0] rfl rfl rfl one5 rfl RS.out.th.kz ?_)
     exact bodyPost_ret (v:=.tuple #[.agg #[.string ⟨#[]⟩,.string ⟨#[]⟩,.slice none 0 0,.slice none 0 0,.slice none 0 0],.int .i64 1]) (by simp [results,Tryz.results26,asAddr,HLX.out]) rfl (HFN.out _ (below_row RS.out.th.hb (show w.heap.size≤w.heap.size+1+1 by omega) #[.string ⟨#[]⟩,.string ⟨#[]⟩,.slice none 0 0,.slice none 0 0,.slice none 0 0]))
    have d0:decide ((bn:Int)≤s)=false:=decide_eq_false (by omega);have HI2:=hd_ (all_step (p:=fun s=>s<(bn:Int)) HSS.out HI.out hsb);have hnx:(ast.take (k+1)).map (thenSt ⟨atn,btn,bst,brs,bts⟩)=(ast.take k).map (thenSt ⟨atn,btn,bst,brs,bts⟩)++[thenSt ⟨atn,btn,bst,brs,bts⟩ s]:=by rw [take_snoc' HSS.out,List.map_append];rfl
    have hln:((ast.take k).map (thenSt ⟨atn,btn,bst,brs,bts⟩)).length=k:=by rw [List.length_map,List.length_take,HAN.out];omega
    obtain ⟨ss,hss⟩:∃ l,(ast.take k).map (thenSt ⟨atn,btn,bst,brs,bts⟩)=l:=⟨_,rfl⟩;rw [hss] at hnx hln RS;by_cases hs0:0≤s
    · have d1':decide (0≤s)=true:=decide_eq_true hs0
      obtain ⟨sn,rfl⟩:∃ n:Nat,s=(n:Int):=⟨s.toNat,by omega⟩;obtain ⟨ns,hns⟩:∃ x,bst[sn]? = some x:=⟨_,List.getElem?_eq_getElem (by rw [HBN.out];omega)⟩;obtain ⟨gb,ob,hB1,hgb,p1⟩:=(HHB.out.below (RS.out.th.hb.mono HBH.out)).st sn ns hns;have hB1:b1=some ⟨gb,ob,none⟩:=hB1;subst hB1;have p1:wr.cell? ⟨gb,ob+sn,none⟩=some (.int .i64 ns):=p1
      have hth:thenSt ⟨atn,btn,bst,brs,bts⟩ (sn:Int)=ns:=by
       unfold thenSt newSt;rw [if_pos (by omega),Int.toNat_natCast];show (bst[sn]?).getD 0=ns;rw [hns];rfl
      rw [hth] at hnx;have HNX:=hd_ hnx;have ic0:(0:Int)≤(sn:Int):=by omega
      clear hnx hth hns hss;go_upto_region 13 with fail
      have kn:=Blk.new wr 3 #[.int .i64 ns];have RS3:=hd_ (RS.out.below (below_self_alloc wr (.cells #[.int .i64 ns] 3)));have own3:=RS3.out.th.os;have hba:=RS3.out.th.hb.size;obtain ⟨x0,x1,x2⟩:=RS.out.th.ko.all;clear RS;go_upto_region 7 with (at_builtin;refine wpList_append_lies _ rfl _ _ 22 rfl w.heap.size 3 i0 _ 1 8 Tryz.underlying22 hi0 hz0 hz1 hz2 rfl (by omega) (.slice A k c) k _ rfl own3 ⟨wr.heap.size,0,none⟩ 1 1 [.int .i64 ns] rfl rfl (World.news_of_block kn) (intCells_one [ns]) (by omega) (by unfold maxLen;omega) (by omega) hba _ rfl ?_;intro gz cz Y own4 gr4 l4 z4;have rs4:=RS3.out.stage (n':=k+1) (ss':=ss++[ns]) (by rw [intCells_app];exact own4) gr4;have RS4:=hd_ rs4;obtain ⟨y0,y1,y2⟩:=rs4.th.ko.all;clear rs4 own4 gr4 l4 own3 kn)
      have RS5:=hd_ (RS4.out.set 2 (.slice (some ⟨gz,0,none⟩) (k+1) cz));clear RS3 RS4 hba t0 t1 t2 u0 u1 u2 v0 v1 v2 x0 x1 x2 y0 y1 y2;go_wp2
      go_roundg mm
      case rel=>exact ⟨k+1,some ⟨gz,0,none⟩,cz,by omega,by go_num,by rw [HNX.out];exact RS5,HI2⟩
      case measure=>omega
    · have d1':decide (0≤s)=false:=decide_eq_false hs0
      have hth:thenSt ⟨atn,btn,bst,brs,bts⟩ s=s:=if_neg hs0;rw [hth] at hnx;have HNX:=hd_ hnx;clear hnx hth hss;go_upto_region 13 with fail
      have kn:=Blk.new wr 3 #[.int .i64 s];have RS3:=hd_ (RS.out.below (below_self_alloc wr (.cells #[.int .i64 s] 3)));have own3:=RS3.out.th.os;have hba:=RS3.out.th.hb.size;obtain ⟨x0,x1,x2⟩:=RS.out.th.ko.all;clear RS;go_upto_region 7 with (at_builtin;refine wpList_append_lies _ rfl _ _ 22 rfl w.heap.size 3 i0 _ 1 8 Tryz.underlying22 hi0 hz0 hz1 hz2 rfl (by omega) (.slice A k c) k _ rfl own3 ⟨wr.heap.size,0,none⟩ 1 1 [.int .i64 s] rfl rfl (World.news_of_block kn) (intCells_one [s]) (by omega) (by unfold maxLen;omega) (by omega) hba _ rfl ?_;intro gz cz Y own4 gr4 l4 z4;have rs4:=RS3.out.stage (n':=k+1) (ss':=ss++[s]) (by rw [intCells_app];exact own4) gr4;have RS4:=hd_ rs4;obtain ⟨y0,y1,y2⟩:=rs4.th.ko.all;clear rs4 own4 gr4 l4 own3 kn)
      have RS5:=hd_ (RS4.out.set 2 (.slice (some ⟨gz,0,none⟩) (k+1) cz));clear RS3 RS4 hba t0 t1 t2 u0 u1 u2 v0 v1 v2 x0 x1 x2 y0 y1 y2;go_wp2
      go_roundg mm
      case rel=>exact ⟨k+1,some ⟨gz,0,none⟩,cz,by omega,by go_num,by rw [HNX.out];exact RS5,HI2⟩
      case measure=>omega
  · obtain rfl:gk=0:=by omega
    obtain rfl:k=an:=by omega
    have nb:¬ (k:Int)<(k:Int):=by omega
    have hall:∀ s∈ast,s<(bn:Int):=by have:=HI.out;rwa [List.take_of_length_le (by rw [HAN.out];exact Nat.le_refl _)] at this
    have HALL:=hd_ hall;rw [show ast.take k=ast from List.take_of_length_le (by rw [HAN.out];exact Nat.le_refl _)] at RS;clear hall HI hlt hk hi0 hz0 hz1 hz2 i0;go_wp2_with fail
    clear nb;obtain ⟨SS,hSS⟩:∃ S,ast.map (thenSt ⟨atn,btn,bst,brs,bts⟩)=S:=⟨_,rfl⟩;rw [hSS] at RS;have HSS:=hd_ hSS;clear hSS t0 t1 t2 u0 u1 u2 v0 v1 v2;obtain ⟨u0,u1,u2⟩:=RS.out.th.kb.all;have htl:btv.length=bj:=by have:=congrArg List.length HHB.out.tv;simp only [List.length_map] at this;rw [this];exact HBJ.out
    have htl2:atv.length=aj:=by have:=congrArg List.length HH.out.tv;simp only [List.length_map] at this;rw [this];exact HAJ.out
    have HTL:=hd_ htl;have HTLA:=hd_ htl2;have HTV:Hid (btv.map (·.1)=bts):=hd_ HHB.out.tv;have HTVA:Hid (atv.map (·.1)=ats):=hd_ HH.out.tv;clear htl htl2;go_loopw [10] (fun i wr=>∃ j:Nat,j≤bj∧i = .int .i64 (j:Int)∧Hid (∀ t∈bts.take j,termI ats t.id = -1)∧Hid (RtS w wr #[.string afr,.string atn,.slice a1 k qa1,.slice a2 ar qa2,.slice a3 aj qa3] #[.string atn,.string btn,.slice b1 bn qb1,.slice b2 br qb2,.slice b3 bj qb3] bo #[.string afr,.string btn,.slice A k c,.slice none 0 0,.slice none 0 0] (.slice A k c) k SS (.slice none 0 0) 0 [] (.slice none 0 0) 0 [])) (fun i _=>bj - (intOf i).toNat)
    case atStart=>exact ⟨0,Nat.zero_le _,rfl,hd_ (fun s hs=>by simp at hs),RS⟩
    case round=>
     clear RS u0 u1 u2;obtain ⟨j,hj,rfl,HI,RS⟩:=hrel;obtain ⟨u0,u1,u2⟩:=RS.out.th.kb.all;by_cases hlt:j<bj
     · obtain ⟨t,ht⟩:∃ t,btv[j]? = some t:=⟨_,List.getElem?_eq_getElem (by rw [HTL.out];exact hlt)⟩
       have hts:bts[j]? = some t.1:=by rw [← HTV.out,List.getElem?_map,ht];rfl
       obtain ⟨gb,ob,hB3,hgb,p0,-⟩:=(HHB.out.below (RS.out.th.hb.mono HBH.out)).ts j t ht;have hB3:b3=some ⟨gb,ob,none⟩:=hB3;subst hB3;obtain ⟨⟨ti,tk,tu,tf,tS⟩,tA,tc⟩:=t;simp only at p0 hts;have P0:=hd_ p0;have PGL:Hid (gb<wr.heap.size):=hd_ (Nat.lt_of_lt_of_le hgb (Nat.le_trans HBH.out RS.out.th.hb.size));have HTS:=hd_ hts;have hcl:=fun V (hV:PSv wr V)=>rterm32_any V B ⟨afr,atn,ast,ars,ats⟩ ⟨a1,qa1,a2,qa2,a3,qa3,atv⟩ ((HH.out.below ((RS.out.th.hb.trans (Below.mono hV RS.out.th.hb.size)).mono HBH.out)).ts) (by rw [HTLA.out];exact HAJ.out) (Nat.le_trans HBH.out (Nat.le_trans RS.out.th.hb.size (Below.size hV))) (by rw [HAJ.out];omega) ti;rw [EA.out] at hcl;simp only [HTVA.out] at hcl;obtain ⟨tv,htv⟩:∃ n,termI ats ti=n:=⟨_,rfl⟩;rw [htv] at hcl;have CT:Hid (∀ V,PSv wr V→Calls Tryz.prog 56 #[.agg #[.string afr,.string atn,.slice a1 k qa1,.slice a2 ar qa2,.slice a3 aj qa3],.string ti] V fun e w'=>e = .returned (.int .i64 tv)∧Below V.heap.size V w'):=hd_ hcl;have htn:tv = -1∨0≤tv:=by rw [← htv];exact termI_neg
       have HTV2:=hd_ htv;have jb0:(0:Int)≤(j:Int):=by omega
       have jb1:(j:Int)<(bj:Int):=by omega
       clear ht hts p0 hcl htv hgb;go_upto_region 17 with fail
       clear u0 u1 u2;by_cases h0:0≤tv
       · have E0:Hid (decide (0≤tv)=true):=hd_ (decide_eq_true h0)
         have hnd:¬ ((ats++bts).map (·.id)).Nodup:=fun h=>by
          have:=(HIDS.out HFA1.out HFB1.out).1 h _ (List.mem_of_getElem? HTS.out);simp only at this;rw [HTV2.out] at this;omega
         have HND:=hd_ hnd;clear h0 htn hnd;refine wp_region_rg2 (PSv wr) RB ([isV (.agg #[.string afr,.string atn,.slice a1 k qa1,.slice a2 ar qa2,.slice a3 aj qa3]),isV (.pointer (some ⟨w.heap.size+1,4,none⟩)),isV (.slice (some ⟨gb,ob,none⟩) bj qb3),isV (.int .i64 (j:Int)),isV (.pointer (some ⟨gb,ob+j*5,none⟩)),isV (.pointer (some ⟨gb,ob+j*5,none⟩)),isV (.string ti),isV (.int .i64 tv),isV (.bool true)]) [0,1,2,3,4,5,6,7,8] (by kernel_rfl) (by kernel_rfl) (by kernel_rfl) (below_drewM wr) ⟨isV_mono _,isV_mono _,isV_mono _,isV_mono _,isV_mono _,isV_mono _,isV_mono _,isV_mono _,isV_mono _,trivial⟩ ?_;intro F hF;simp only [putAll,List.map_cons,List.map_nil,Act.put,List.setIfInBounds_toArray,List.set_cons_succ,List.set_cons_zero] at hF;have HFX:=hd_ hF;clear hF;refine ⟨fun Q'=>⟨?_,?_,?_,?_,?_,?_,?_,?_,?_,trivial⟩,?_⟩
         · intro u W hS hd hp
           have HS:=hd_ hS;clear hS;rw [HFX.out];clear hd hp;obtain ⟨r0,r1,r2⟩:=(RS.out.below HS.out).th.ka.all;go_wp2_with fail
           exact ⟨_,by rw [HFX.out];simp [upd],rfl,HS.out,Below.refl _ _⟩
         · intro u W hS hd hp
           have HS:=hd_ hS;clear hS;rw [HFX.out];clear hd hp;go_wp2_with fail
           exact ⟨_,by rw [HFX.out];simp [upd],rfl,HS.out,Below.refl _ _⟩
         · intro u W hS hd hp
           have HS:=hd_ hS;clear hS;obtain ⟨d1,-⟩:=hd;have e1:u 1 = .pointer (some ⟨w.heap.size+1,4,none⟩):=d1 rfl;rw [HFX.out];simp only [e1];clear hp d1;obtain ⟨r0,r1,r2⟩:=(RS.out.below HS.out).th.kb.all;go_wp2_with fail
           exact ⟨_,by rw [HFX.out];simp [upd,e1],rfl,HS.out,Below.refl _ _⟩
         · intro u W hS hd hp
           have HS:=hd_ hS;clear hS;rw [HFX.out];clear hd hp;go_wp2_with fail
           exact ⟨_,by rw [HFX.out];simp [upd],rfl,HS.out,Below.refl _ _⟩
         · intro u W hS hd hp
           have HS:=hd_ hS;clear hS;obtain ⟨d2,d3,-⟩:=hd;have e2:u 2 = .slice (some ⟨gb,ob,none⟩) bj qb3:=d2 rfl;have e3:u 3 = .int .i64 (j:Int):=d3 rfl;rw [HFX.out];simp only [e2,e3];clear hp d2 d3;have kb0:=jb0;have kb1:=jb1;go_wp2_with fail
           exact ⟨_,by rw [HFX.out];simp [upd,e2,e3],rfl,HS.out,Below.refl _ _⟩
         · intro u W hS hd hp
           have HS:=hd_ hS;clear hS;obtain ⟨d4,-⟩:=hd;have e4:u 4 = .pointer (some ⟨gb,ob+j*5,none⟩):=d4 rfl;rw [HFX.out];simp only [e4];clear hp d4;go_wp2_with fail
           exact ⟨_,by rw [HFX.out];simp [upd,e4],rfl,HS.out,Below.refl _ _⟩
         · intro u W hS hd hp
           have HS:=hd_ hS;clear hS;obtain ⟨d5,-⟩:=hd;have e5:u 5 = .pointer (some ⟨gb,ob+j*5,none⟩):=d5 rfl;rw [HFX.out];simp only [e5];clear hp d5;have r0:=(HS.out.cell (p:=⟨gb,ob+j*5,none⟩) (by have:=PGL.out;omega)).trans P0.out;go_wp2_with fail
           exact ⟨_,by rw [HFX.out];simp [upd,e5],rfl,HS.out,Below.refl _ _⟩
         · intro u W hS hd hp
           have HS:=hd_ hS;clear hS;obtain ⟨d0,d6,-⟩:=hd;have e0:u 0 = .agg #[.string afr,.string atn,.slice a1 k qa1,.slice a2 ar qa2,.slice a3 aj qa3]:=d0 rfl;have e6:u 6 = .string ti:=d6 rfl;rw [HFX.out];simp only [e0,e6];clear hp d0 d6;have HC:=hd_ (CT.out W HS.out);go_wp2_with fail
           refine HC.out.mono ?_;rintro e W2 ⟨rfl,b2⟩;go_wp2_with fail
           exact ⟨_,by rw [HFX.out];simp [upd,e0,e6],rfl,PSv.go HS.out b2,b2⟩
         · intro u W hS hd hp
           have HS:=hd_ hS;clear hS;obtain ⟨d7,-⟩:=hd;have e7:u 7 = .int .i64 tv:=d7 rfl;rw [HFX.out];simp only [e7];clear hp d7;have es:decide (0≤tv)=true:=E0.out;go_wp2_with fail
           exact ⟨_,by rw [HFX.out];simp [upd,e7],rfl,HS.out,Below.refl _ _⟩
         intro u W hS hf;have eE:u 8 = .bool true:=hf 8 (by decide);rw [HFX.out];simp only [eE];clear eE hf HFX F;replace RS:=hd_ (RS.out.below hS);clear hS;obtain ⟨v0,v1,v2⟩:=(show Blk W (w.heap.size+1+1+1) 30 #[.string ⟨#[]⟩,.string ⟨#[]⟩,.slice none 0 0,.slice none 0 0,.slice none 0 0] from RS.out.k6).all;have HFN:=hd_ (HFIN.out 9 (by rw [HTE.out];rw [if_neg (by simpa using HALL.out),if_pos HND.out]) (by decide));have HLX:=hd_ (row_loadG RS.out.th.kz #[.string ⟨#[]⟩,.string ⟨#[]⟩,.slice none 0 0,.slice none 0 0,.slice none 0 0] rfl);go_upto_region 18 with fail
         go_wp2_with (refine wp_rowG rfl (.tmp 4) (.tmp 84) rfl (w.heap.size+1+1) #[.string ⟨#[]⟩,.string ⟨#[]⟩,.slice none 0 0,.slice none 0 0,.slice none 0 0] rfl rfl rfl one5 rfl RS.out.th.kz ?_)
         exact bodyPost_ret (v:=.tuple #[.agg #[.string ⟨#[]⟩,.string ⟨#[]⟩,.slice none 0 0,.slice none 0 0,.slice none 0 0],.int .i64 9]) (by simp [results,Tryz.results26,asAddr,HLX.out]) rfl (HFN.out _ (below_row RS.out.th.hb (show w.heap.size≤w.heap.size+1+1 by omega) #[.string ⟨#[]⟩,.string ⟨#[]⟩,.slice none 0 0,.slice none 0 0,.slice none 0 0]))
       · have E0:Hid (decide (0≤tv)=false):=hd_ (decide_eq_false h0)
         have HI2:=hd_ (all_step (p:=fun t:Lm=>termI ats t.id = -1) HTS.out HI.out (by show termI ats ti = -1;rw [HTV2.out];omega));clear h0 htn;refine wp_region_rg2 (PSv wr) RB ([isV (.agg #[.string afr,.string atn,.slice a1 k qa1,.slice a2 ar qa2,.slice a3 aj qa3]),isV (.pointer (some ⟨w.heap.size+1,4,none⟩)),isV (.slice (some ⟨gb,ob,none⟩) bj qb3),isV (.int .i64 (j:Int)),isV (.pointer (some ⟨gb,ob+j*5,none⟩)),isV (.pointer (some ⟨gb,ob+j*5,none⟩)),isV (.string ti),isV (.int .i64 tv),isV (.bool false)]) [0,1,2,3,4,5,6,7,8] (by kernel_rfl) (by kernel_rfl) (by kernel_rfl) (below_drewM wr) ⟨isV_mono _,isV_mono _,isV_mono _,isV_mono _,isV_mono _,isV_mono _,isV_mono _,isV_mono _,isV_mono _,trivial⟩ ?_;intro F hF;simp only [putAll,List.map_cons,List.map_nil,Act.put,List.setIfInBounds_toArray,List.set_cons_succ,List.set_cons_zero] at hF;have HFX:=hd_ hF;clear hF;refine ⟨fun Q'=>⟨?_,?_,?_,?_,?_,?_,?_,?_,?_,trivial⟩,?_⟩
         · intro u W hS hd hp
           have HS:=hd_ hS;clear hS;rw [HFX.out];clear hd hp;obtain ⟨r0,r1,r2⟩:=(RS.out.below HS.out).th.ka.all;go_wp2_with fail
           exact ⟨_,by rw [HFX.out];simp [upd],rfl,HS.out,Below.refl _ _⟩
         · intro u W hS hd hp
           have HS:=hd_ hS;clear hS;rw [HFX.out];clear hd hp;go_wp2_with fail
           exact ⟨_,by rw [HFX.out];simp [upd],rfl,HS.out,Below.refl _ _⟩
         · intro u W hS hd hp
           have HS:=hd_ hS;clear hS;obtain ⟨d1,-⟩:=hd;have e1:u 1 = .pointer (some ⟨w.heap.size+1,4,none⟩):=d1 rfl;rw [HFX.out];simp only [e1];clear hp d1;obtain ⟨r0,r1,r2⟩:=(RS.out.below HS.out).th.kb.all;go_wp2_with fail
           exact ⟨_,by rw [HFX.out];simp [upd,e1],rfl,HS.out,Below.refl _ _⟩
         · intro u W hS hd hp
           have HS:=hd_ hS;clear hS;rw [HFX.out];clear hd hp;go_wp2_with fail
           exact ⟨_,by rw [HFX.out];simp [upd],rfl,HS.out,Below.refl _ _⟩
         · intro u W hS hd hp
           have HS:=hd_ hS;clear hS;obtain ⟨d2,d3,-⟩:=hd;have e2:u 2 = .slice (some ⟨gb,ob,none⟩) bj qb3:=d2 rfl;have e3:u 3 = .int .i64 (j:Int):=d3 rfl;rw [HFX.out];simp only [e2,e3];clear hp d2 d3;have kb0:=jb0;have kb1:=jb1;go_wp2_with fail
           exact ⟨_,by rw [HFX.out];simp [upd,e2,e3],rfl,HS.out,Below.refl _ _⟩
         · intro u W hS hd hp
           have HS:=hd_ hS;clear hS;obtain ⟨d4,-⟩:=hd;have e4:u 4 = .pointer (some ⟨gb,ob+j*5,none⟩):=d4 rfl;rw [HFX.out];simp only [e4];clear hp d4;go_wp2_with fail
           exact ⟨_,by rw [HFX.out];simp [upd,e4],rfl,HS.out,Below.refl _ _⟩
         · intro u W hS hd hp
           have HS:=hd_ hS;clear hS;obtain ⟨d5,-⟩:=hd;have e5:u 5 = .pointer (some ⟨gb,ob+j*5,none⟩):=d5 rfl;rw [HFX.out];simp only [e5];clear hp d5;have r0:=(HS.out.cell (p:=⟨gb,ob+j*5,none⟩) (by have:=PGL.out;omega)).trans P0.out;go_wp2_with fail
           exact ⟨_,by rw [HFX.out];simp [upd,e5],rfl,HS.out,Below.refl _ _⟩
         · intro u W hS hd hp
           have HS:=hd_ hS;clear hS;obtain ⟨d0,d6,-⟩:=hd;have e0:u 0 = .agg #[.string afr,.string atn,.slice a1 k qa1,.slice a2 ar qa2,.slice a3 aj qa3]:=d0 rfl;have e6:u 6 = .string ti:=d6 rfl;rw [HFX.out];simp only [e0,e6];clear hp d0 d6;have HC:=hd_ (CT.out W HS.out);go_wp2_with fail
           refine HC.out.mono ?_;rintro e W2 ⟨rfl,b2⟩;go_wp2_with fail
           exact ⟨_,by rw [HFX.out];simp [upd,e0,e6],rfl,PSv.go HS.out b2,b2⟩
         · intro u W hS hd hp
           have HS:=hd_ hS;clear hS;obtain ⟨d7,-⟩:=hd;have e7:u 7 = .int .i64 tv:=d7 rfl;rw [HFX.out];simp only [e7];clear hp d7;have es:decide (0≤tv)=false:=E0.out;go_wp2_with fail
           exact ⟨_,by rw [HFX.out];simp [upd,e7],rfl,HS.out,Below.refl _ _⟩
         intro u W hS hf;have eE:u 8 = .bool false:=hf 8 (by decide);rw [HFX.out];simp only [eE];clear eE hf HFX F;have RS2:=hd_ (RS.out.below hS);clear hS;go_wp2
         go_roundw
         case rel=>exact ⟨j+1,by omega,by go_num,HI2,RS2⟩
         case measure=>simp [intOf];omega
     · obtain rfl:j=bj:=by omega
       have nb:¬ (j:Int)<(j:Int):=by omega
       have hnd:((ats++bts).map (·.id)).Nodup:=(HIDS.out HFA1.out HFB1.out).2 (by have:=HI.out;rwa [List.take_of_length_le (by rw [HBJ.out];exact Nat.le_refl _)] at this);have HND:=hd_ hnd;clear hnd HI hlt hj;go_wp2_with fail
       clear nb;obtain ⟨i0,hi0,hz0,hz1,hz2⟩:=info_parts Tryz.infoPair;clear u0 u1 u2;obtain ⟨t0,t1,t2⟩:=RS.out.th.ka.all;go_loopg [11] ar (fun nn i wr=>∃ (j2:Nat) (A2:Option Addr) (q2:Nat),j2+nn=ar∧i = .int .i64 (j2:Int)∧Hid (RtS w wr #[.string afr,.string atn,.slice a1 k qa1,.slice a2 ar qa2,.slice a3 aj qa3] #[.string atn,.string btn,.slice b1 bn qb1,.slice b2 br qb2,.slice b3 j qb3] bo #[.string afr,.string btn,.slice A k c,.slice A2 (rrK ⟨afr,atn,ast,ars,ats⟩ ⟨atn,btn,bst,brs,bts⟩ j2).length q2,.slice none 0 0] (.slice A k c) k SS (.slice A2 (rrK ⟨afr,atn,ast,ars,ats⟩ ⟨atn,btn,bst,brs,bts⟩ j2).length q2) (rrK ⟨afr,atn,ast,ars,ats⟩ ⟨atn,btn,bst,brs,bts⟩ j2).length (rrK ⟨afr,atn,ast,ars,ats⟩ ⟨atn,btn,bst,brs,bts⟩ j2) (.slice none 0 0) 0 []))
       case atStart=>exact ⟨0,none,0,Nat.zero_add _,rfl,RS⟩
       case round=>
        clear RS t0 t1 t2;obtain ⟨j2,A2,q2,hj,rfl,RS⟩:=hrel;obtain ⟨t0,t1,t2⟩:=RS.out.th.ka.all;by_cases hlt:j2<ar
        · obtain ⟨mm,rfl⟩:∃ m,gk=m+1:=⟨gk - 1,by omega⟩
          obtain ⟨r,hr⟩:∃ r,ars[j2]? = some r:=⟨_,List.getElem?_eq_getElem (by rw [HAR.out];exact hlt)⟩;obtain ⟨rn,rm⟩:=r;obtain ⟨g5,o5,hA5,hg5,p0,p1⟩:=(HH.out.below (RS.out.th.hb.mono HBH.out)).rs j2 _ hr;have hA5:a2=some ⟨g5,o5,none⟩:=hA5;subst hA5;have p0:wr.cell? ⟨g5,o5+j2*2,none⟩=some (.string rn):=p0;have p1:wr.cell? ⟨g5,o5+j2*2+1,none⟩=some (.string rm):=p1;have P0:=hd_ p0;have P1:=hd_ p1;have PGL:g5<wr.heap.size:=Nat.lt_of_lt_of_le hg5 (Nat.le_trans HBH.out RS.out.th.hb.size);have hnx:=rrK_next (a:=⟨afr,atn,ast,ars,ats⟩) (b:=⟨atn,btn,bst,brs,bts⟩) hr;have hln:=rrK_len ⟨afr,atn,ast,ars,ats⟩ ⟨atn,btn,bst,brs,bts⟩ j2;simp only at hnx hln;rw [HAR.out] at hln;obtain ⟨rr,hrr⟩:∃ rr,rrK ⟨afr,atn,ast,ars,ats⟩ ⟨atn,btn,bst,brs,bts⟩ j2=rr:=⟨_,rfl⟩;rw [hrr] at hnx hln RS;obtain ⟨nn,hnn⟩:∃ n,namedL brs rm=n:=⟨_,rfl⟩;rw [hnn] at hnx;have hcl:=fun V (hV:PSv wr V)=>rnamed32_any V B ⟨atn,btn,bst,brs,bts⟩ ⟨b1,qb1,b2,qb2,b3,qb3,btv⟩ ((HHB.out.below ((RS.out.th.hb.trans (Below.mono hV RS.out.th.hb.size)).mono HBH.out)).rs) (Nat.le_trans HBH.out (Nat.le_trans RS.out.th.hb.size (Below.size hV))) (by rw [HBR.out];omega) rm;rw [EB.out,hnn] at hcl;have HREN:Hid (∀ V,PSv wr V→Calls Tryz.prog 21 #[.agg #[.string atn,.string btn,.slice b1 bn qb1,.slice b2 br qb2,.slice b3 j qb3],.string rm] V fun e w'=>e = .returned (.string nn)∧Below V.heap.size V w'):=hd_ hcl;have HNX:=hd_ hnx;have ib0:(0:Int)≤(j2:Int):=by omega
          have ib1:(j2:Int)<(ar:Int):=by omega
          clear hr hnx hrr hnn hcl;go_upto_region 22 with fail
          clear t0 t1 t2 p0 p1;refine wp_region_hold (fun V=>PSv wr V) [0,1,2,3,4,5,6,7,8,9,10,11,12,13,14] [15,16,17] [18,19,20] (by kernel_rfl) (by kernel_rfl) (fun _ d _ _ _ h=>by cases d <;> exact h) (below_drewM wr) ?_;simp only [pick,List.drop_succ_cons,List.drop_zero,List.head?_cons,Option.toList_some,List.cons_append,List.nil_append,List.append_nil]
          repeat (refine wpHeld_step ?_ rfl ?_ ?_;rotate_left;· (intro V hV;obtain ⟨y0,y1,y2⟩:=(RS.out.below hV).th.ko.all;obtain ⟨t0,t1,t2⟩:=(RS.out.below hV).th.ka.all;obtain ⟨u0,u1,u2⟩:=(RS.out.below hV).th.kb.all;have p0:=(Below.cell hV (p:=⟨g5,o5+j2*2,none⟩) PGL).trans P0.out;have p1:=(Below.cell hV (p:=⟨g5,o5+j2*2+1,none⟩) PGL).trans P1.out;go_simp;with_reducible rfl))
          refine wpHeld_nil ?_;simp only [wpEarly];have HC:=hd_ (HREN.out _ (below_drewM wr));go_wp2_with fail
          refine HC.out.mono ?_;rintro e W5 ⟨rfl,bb⟩;have HS2:=hd_ (PSv.go (below_drewM wr) bb);clear bb HC HREN;go_wp2_with fail
          refine ⟨HS2.out,?_⟩;go_wp2_with fail
          refine ⟨HS2.out,?_⟩;have kn:=Blk.new W5 75 #[.string rn,.string nn];have HS3:=hd_ (PSv.go HS2.out (below_self_alloc W5 (.cells #[.string rn,.string nn] 75)));go_wp2_with fail
          refine ⟨HS3.out,?_⟩;have RS3:=hd_ (RS.out.below HS3.out);have own3:=RS3.out.th.or_;have hba:=RS3.out.th.hb.size;clear RS PGL P0 P1;go_wp2_with (at_builtin;refine wpList_append_lies _ rfl _ _ 28 rfl w.heap.size 75 i0 _ 2 32 Tryz.underlying28 hi0 hz0 hz1 hz2 rfl (by omega) (.slice A2 rr.length q2) rr.length (prCells rr) rfl own3 ⟨W5.heap.size,0,none⟩ 1 1 [.string rn,.string nn] rfl rfl (World.news_of_block kn) (prCells_one [(rn,nn)]) (by omega) (by unfold maxLen;omega) (by omega) hba _ rfl ?_;intro gz cz Y own4 gr4 l4 z4;have rs4:=RS3.out.right (rr':=rr++[(rn,nn)]) (by rw [prCells_app];exact own4) gr4;have RS4:=hd_ rs4;obtain ⟨y0,y1,y2⟩:=rs4.th.ko.all;clear rs4 own4 gr4 l4 own3 kn)
          have RS5:=hd_ (RS4.out.set 3 (.slice (some ⟨gz,0,none⟩) (rr.length+1) cz));clear RS3 RS4 y0 y1 y2 HS2 HS3 hba;go_wp2
          go_roundg mm
          case rel=>exact ⟨j2+1,some ⟨gz,0,none⟩,cz,by omega,by go_num,by rw [HNX.out,List.length_append];exact RS5⟩
          case measure=>omega
        · obtain rfl:gk=0:=by omega
          obtain rfl:j2=ar:=by omega
          have nb:¬ (j2:Int)<(j2:Int):=by omega
          rw [show rrK ⟨afr,atn,ast,ars,ats⟩ ⟨atn,btn,bst,brs,bts⟩ j2=rrL ⟨afr,atn,ast,ars,ats⟩ ⟨atn,btn,bst,brs,bts⟩ 0 from by rw [← HAR.out];exact rrK_all _ _] at RS;clear hlt hj;go_wp2_with fail
          clear nb;clear t0 t1 t2;obtain ⟨u0,u1,u2⟩:=RS.out.th.kb.all;go_loopg [12] br (fun nn i wr=>∃ (j3:Nat) (A3:Option Addr) (q3:Nat),j3+nn=br∧i = .int .i64 (j3:Int)∧Hid (RtS w wr #[.string afr,.string atn,.slice a1 k qa1,.slice a2 j2 qa2,.slice a3 aj qa3] #[.string atn,.string btn,.slice b1 bn qb1,.slice b2 br qb2,.slice b3 j qb3] bo #[.string afr,.string btn,.slice A k c,.slice A3 (rrL ⟨afr,atn,ast,ars,ats⟩ ⟨atn,btn,bst,brs,bts⟩ j3).length q3,.slice none 0 0] (.slice A k c) k SS (.slice A3 (rrL ⟨afr,atn,ast,ars,ats⟩ ⟨atn,btn,bst,brs,bts⟩ j3).length q3) (rrL ⟨afr,atn,ast,ars,ats⟩ ⟨atn,btn,bst,brs,bts⟩ j3).length (rrL ⟨afr,atn,ast,ars,ats⟩ ⟨atn,btn,bst,brs,bts⟩ j3) (.slice none 0 0) 0 []))
          case atStart=>exact ⟨0,A2,q2,Nat.zero_add _,rfl,RS⟩
          case round=>
           clear RS u0 u1 u2;obtain ⟨j3,A3,q3,hj,rfl,RS⟩:=hrel;obtain ⟨u0,u1,u2⟩:=RS.out.th.kb.all;by_cases hlt:j3<br
           · obtain ⟨mm,rfl⟩:∃ m,gk=m+1:=⟨gk - 1,by omega⟩
             obtain ⟨r,hr⟩:∃ r,brs[j3]? = some r:=⟨_,List.getElem?_eq_getElem (by rw [HBR.out];exact hlt)⟩;obtain ⟨rn,rm⟩:=r;obtain ⟨g5,o5,hA5,hg5,p0,p1⟩:=(HHB.out.below (RS.out.th.hb.mono HBH.out)).rs j3 _ hr;have hA5:b2=some ⟨g5,o5,none⟩:=hA5;subst hA5;have p0:wr.cell? ⟨g5,o5+j3*2,none⟩=some (.string rn):=p0;have p1:wr.cell? ⟨g5,o5+j3*2+1,none⟩=some (.string rm):=p1;have P0:=hd_ p0;have P1:=hd_ p1;have PGL:g5<wr.heap.size:=Nat.lt_of_lt_of_le hg5 (Nat.le_trans HBH.out RS.out.th.hb.size);have hln:=rrL_len ⟨afr,atn,ast,ars,ats⟩ ⟨atn,btn,bst,brs,bts⟩ j3;have hni:rn∈ars.map (·.1)→rrL ⟨afr,atn,ast,ars,ats⟩ ⟨atn,btn,bst,brs,bts⟩ (j3+1)=rrL ⟨afr,atn,ast,ars,ats⟩ ⟨atn,btn,bst,brs,bts⟩ j3:=fun h=>rrL_in (a:=⟨afr,atn,ast,ars,ats⟩) (b:=⟨atn,btn,bst,brs,bts⟩) hr h;have hno:rn∉ars.map (·.1)→rrL ⟨afr,atn,ast,ars,ats⟩ ⟨atn,btn,bst,brs,bts⟩ (j3+1)=rrL ⟨afr,atn,ast,ars,ats⟩ ⟨atn,btn,bst,brs,bts⟩ j3++[(rn,rm)]:=fun h=>rrL_out (a:=⟨afr,atn,ast,ars,ats⟩) (b:=⟨atn,btn,bst,brs,bts⟩) hr h;simp only at hln;rw [HAR.out,HBR.out] at hln;obtain ⟨rr,hrr⟩:∃ rr,rrL ⟨afr,atn,ast,ars,ats⟩ ⟨atn,btn,bst,brs,bts⟩ j3=rr:=⟨_,rfl⟩;rw [hrr] at hni hno hln RS;have HNI:=hd_ hni;have HNO:=hd_ hno;have ib0:(0:Int)≤(j3:Int):=by omega
             have ib1:(j3:Int)<(br:Int):=by omega
             clear hr hni hno hrr p0 p1;go_wp2_with fail
             clear u0 u1 u2;obtain ⟨ws,rfl⟩:∃ q,q=wr:=⟨wr,rfl⟩;go_loopg [13,14] j2 (fun nn fv i wr=>∃ (t:Nat) (q:Bool),t+nn=j2∧fv = .bool q∧i = .int .i64 (t:Int)∧Hid (q=true↔rn∈(ars.take t).map (·.1))∧Hid (Below ws.heap.size ws wr))
             case atStart=>exact ⟨0,false,Nat.zero_add _,rfl,rfl,hd_ (by simp),hd_ (Below.refl _ _)⟩
             case round=>
              obtain ⟨t,q,ht,rfl,rfl,HQ,HW⟩:=hrel;obtain ⟨t0,t1,t2⟩:=(RS.out.below HW.out).th.ka.all;obtain ⟨u0,u1,u2⟩:=(RS.out.below HW.out).th.kb.all;by_cases hlt2:t<j2
              · obtain ⟨m2,rfl⟩:∃ m,gk=m+1:=⟨gk - 1,by omega⟩
                obtain ⟨x,hx⟩:∃ r,ars[t]? = some r:=⟨_,List.getElem?_eq_getElem (by rw [HAR.out];exact hlt2)⟩;obtain ⟨g6,o6,hA6,hg6,r0,-⟩:=(HH.out.below ((RS.out.below HW.out).th.hb.mono HBH.out)).rs t _ hx;have hA6:a2=some ⟨g6,o6,none⟩:=hA6;subst hA6;have r0:wr.cell? ⟨g6,o6+t*2,none⟩=some (.string x.1):=r0;have p0:=(HW.out.cell (p:=⟨g5,o5+j3*2,none⟩) PGL).trans P0.out;have jb0:(0:Int)≤(t:Int):=by omega
                have jb1:(t:Int)<(j2:Int):=by omega
                have hqn:∀ q2:Bool,(q2=true↔(q=true∨x.1=rn))→(q2=true↔rn∈(ars.take (t+1)).map (·.1)):=fun q2 h=>by
                 rw [h,HQ.out,take_snoc' hx,List.map_append,List.mem_append];exact or_congr Iff.rfl ⟨fun e=>by simp [e],fun e=>by simpa using (show rn=x.1 by simpa using e).symm⟩
                have HQN:=hd_ hqn;clear hx hqn
                cases q with
                | true=>
                 have HQ2:=hd_ (HQN.out true (by simp));clear r0 p0;go_wp2_with fail
                 go_quiet (fail)
                 have HW2:=hd_ (below_drewN HW.out nq);go_wp2
                 go_roundg m2
                 case rel=>exact ⟨t+1,true,by omega,rfl,by go_num,hd_ (by simpa using HQ2.out),HW2⟩
                 case measure=>omega
                | false=>
                 by_cases he:x.1=rn
                 · have es:(x.1.toList == rn.toList)=true:=by rw [he];simp
                   have HQ2:=hd_ (HQN.out true (by simp [he]));clear he;go_wp2_with fail
                   go_quiet (fail)
                   have HW2:=hd_ (below_drewN HW.out nq);go_wp2
                   go_roundg m2
                   case rel=>exact ⟨t+1,true,by omega,rfl,by go_num,hd_ (by simpa using HQ2.out),HW2⟩
                   case measure=>omega
                 · have es:=str_no he
                   have HQ2:=hd_ (HQN.out false (by simp [he]));clear he;go_wp2_with fail
                   go_quiet (fail)
                   have HW2:=hd_ (below_drewN HW.out nq);go_wp2
                   go_roundg m2
                   case rel=>exact ⟨t+1,false,by omega,rfl,by go_num,hd_ (by simpa using HQ2.out),HW2⟩
                   case measure=>omega
              · obtain rfl:gk=0:=by omega
                obtain rfl:t=j2:=by omega
                have nb:¬ (t:Int)<(t:Int):=by omega
                have HQ3:Hid (q=true↔rn∈ars.map (·.1)):=hd_ (by have:=HQ.out;rwa [List.take_of_length_le (by rw [HAR.out];exact Nat.le_refl _)] at this);replace RS:=hd_ (RS.out.below HW.out);have PGL2:=Nat.lt_of_lt_of_le PGL HW.out.size;have P0':=hd_ ((HW.out.cell (p:=⟨g5,o5+j3*2,none⟩) PGL).trans P0.out);have P1':=hd_ ((HW.out.cell (p:=⟨g5,o5+j3*2+1,none⟩) PGL).trans P1.out);clear P0 P1 PGL HQ hlt2 ht
                cases q with
                | true=>
                 have HNX:=hd_ (HNI.out (HQ3.out.1 (by trivial)));clear HNI HNO HQ3;go_wp2
                 go_roundg mm
                 case rel=>exact ⟨j3+1,A3,q3,by omega,by go_num,by rw [HNX.out];exact RS⟩
                 case measure=>omega
                | false=>
                 have HNX:=hd_ (HNO.out (fun h=>by have:=HQ3.out.2 h;cases this));clear HNI HNO HQ3;go_upto_region 32 with fail
                 clear t0 t1 t2 u0 u1 u2 nb;refine wp_region_hold (fun V=>PSv wr V) [0,1,2,3,4,5,6] [7] [8,9,10] (by kernel_rfl) (by kernel_rfl) (fun _ d _ _ _ h=>by cases d <;> exact h) (below_drewM wr) ?_;simp only [pick,List.drop_succ_cons,List.drop_zero,List.head?_cons,Option.toList_some,List.cons_append,List.nil_append,List.append_nil]
                 repeat (refine wpHeld_step ?_ rfl ?_ ?_;rotate_left;· (intro V hV;obtain ⟨y0,y1,y2⟩:=(RS.out.below hV).th.ko.all;obtain ⟨u0,u1,u2⟩:=(RS.out.below hV).th.kb.all;have p0:=(Below.cell hV (p:=⟨g5,o5+j3*2,none⟩) PGL2).trans P0'.out;have p1:=(Below.cell hV (p:=⟨g5,o5+j3*2+1,none⟩) PGL2).trans P1'.out;go_simp;with_reducible rfl))
                 refine wpHeld_nil ?_;simp only [wpEarly];have HS3:=hd_ (PSv.go (below_drewM wr) (below_self_alloc wr.drew (.cells #[.string rn,.string rm] 75)));have kn:=Blk.new wr.drew 75 #[.string rn,.string rm];go_wp2_with fail
                 refine ⟨HS3.out,?_⟩;have RS3:=hd_ (RS.out.below HS3.out);have own3:=RS3.out.th.or_;have hba:=RS3.out.th.hb.size;clear RS PGL2 P0' P1';go_wp2_with (at_builtin;refine wpList_append_lies _ rfl _ _ 28 rfl w.heap.size 75 i0 _ 2 32 Tryz.underlying28 hi0 hz0 hz1 hz2 rfl (by omega) (.slice A3 rr.length q3) rr.length (prCells rr) rfl own3 ⟨wr.drew.heap.size,0,none⟩ 1 1 [.string rn,.string rm] rfl rfl (World.news_of_block kn) (prCells_one [(rn,rm)]) (by omega) (by unfold maxLen;omega) (by omega) hba _ rfl ?_;intro gz cz Y own4 gr4 l4 z4;have rs4:=RS3.out.right (rr':=rr++[(rn,rm)]) (by rw [prCells_app];exact own4) gr4;have RS4:=hd_ rs4;obtain ⟨y0,y1,y2⟩:=rs4.th.ko.all;clear rs4 own4 gr4 l4 own3 kn)
                 have RS5:=hd_ (RS4.out.set 3 (.slice (some ⟨gz,0,none⟩) (rr.length+1) cz));clear RS3 RS4 y0 y1 y2 HS3 hba;go_wp2
                 go_roundg mm
                 case rel=>exact ⟨j3+1,some ⟨gz,0,none⟩,cz,by omega,by go_num,by rw [HNX.out,List.length_append];exact RS5⟩
                 case measure=>omega
           · obtain rfl:gk=0:=by omega
             obtain rfl:j3=br:=by omega
             have nb:¬ (j3:Int)<(j3:Int):=by omega
             rw [show rrL ⟨afr,atn,ast,ars,ats⟩ ⟨atn,btn,bst,brs,bts⟩ j3=thenRs ⟨afr,atn,ast,ars,ats⟩ ⟨atn,btn,bst,brs,bts⟩ from by rw [← HBR.out];exact rrL_all _ _] at RS;clear hlt hj;go_wp2_with fail
             clear nb;clear u0 u1 u2;obtain ⟨l0,hl0,lz0,lz1,lz2⟩:=info_parts Tryz.infoLimit
             have han0:0<k:=by
              rw [← HAN.out];exact List.length_pos_iff.2 (mgB_iff.1 HFA1.out).2.2.1.1
             obtain ⟨gs,hAs,-,-⟩:=row_some RS.out.th.os han0;subst hAs;obtain ⟨RR,hRR⟩:∃ R,thenRs ⟨afr,atn,ast,ars,ats⟩ ⟨atn,btn,bst,brs,bts⟩=R:=⟨_,rfl⟩;obtain ⟨NR,hNR⟩:∃ n,RR.length=n:=⟨_,rfl⟩;have HSR:=hd_ hRR;have HNR:=hd_ hNR;rw [hRR,hNR] at RS;clear hRR hNR;refine wp_region_hold (fun V=>Blk V w.heap.size 30 #[.string afr,.string atn,.slice a1 k qa1,.slice a2 j2 qa2,.slice a3 aj qa3]∧Blk V (w.heap.size+1) 30 #[.string atn,.string btn,.slice b1 bn qb1,.slice b2 j3 qb2,.slice b3 j qb3]) [1,2,4,5] [0,3,6] [7,8] (by kernel_rfl) (by kernel_rfl) (fun _ d _ _ _ h=>by cases d <;> exact h) ⟨RS.out.th.ka.drew,RS.out.th.kb.drew⟩ ?_;simp only [pick,List.drop_succ_cons,List.drop_zero,List.head?_cons,Option.toList_some,List.cons_append,List.nil_append,List.append_nil]
             repeat (refine wpHeld_step ?_ rfl ?_ ?_;rotate_left;· (intro V hV;obtain ⟨t0,t1,t2⟩:=hV.1.all;obtain ⟨u0,u1,u2⟩:=hV.2.all;go_simp;with_reducible rfl))
             refine wpHeld_nil ?_;simp only [wpEarly];have bz:=below_self_alloc wr.drew (.cells #[] 44);have bz0:Below wr.heap.size wr (wr.drew.alloc (.cells #[] 44)):=below_drew bz;have own:=World.ownsRow_lit (base:=wr.heap.size) (e:=44) (size:=5) wr.drew #[] 0 (Nat.le_refl _) (by unfold maxLen;omega) rfl;have RS1:=hd_ (RS.out.below bz0);clear bz;go_wp2_with fail
             refine ⟨⟨RS1.out.th.ka,RS1.out.th.kb⟩,?_⟩;have hst1:=(HH.out.below (RS1.out.th.hb.mono HBH.out)).ts;have hsz1:=bz0.size;go_wp2_with (at_builtin;refine wpList_append_any rfl _ _ 25 rfl wr.heap.size 44 l0 _ 5 64 Tryz.underlying25 hl0 lz0 lz1 lz2 rfl (by omega) (.slice (some ⟨wr.drew.heap.size,0,none⟩) 0 0) 0 [] rfl own a3 aj qa3 (lmCells atv) rfl (by rw [lmCells_len,HTLA.out]) (lmCells_news hst1) (lmCells_one atv) (by unfold maxLen;omega) (by omega) hsz1 ?_;intro v4 w4 own4 gr4 l4;have b4:=bz0.grown gr4 hsz1 (fun x hx=>(own.lt x hx).1);have RS2:=hd_ (RS.out.below b4);have OW4:=hd_ own4;have B4:=hd_ b4;clear own4 gr4 l4 b4 own hst1 hsz1 bz0)
             refine ⟨⟨RS2.out.th.ka,RS2.out.th.kb⟩,?_⟩;have hst2:=(HHB.out.below (RS2.out.th.hb.mono HBH.out)).ts;have hsz2:=B4.out.size;have own2:=OW4.out;obtain ⟨NJ,hNJ⟩:∃ n,0+aj+j=n:=⟨_,rfl⟩;obtain ⟨LV,hLV⟩:∃ L,atv++btv=L:=⟨_,rfl⟩;have HNJ:=hd_ hNJ;have HLV:=hd_ hLV;clear hNJ hLV;go_wp2_with (at_builtin;refine wpList_append_any rfl _ _ 25 rfl wr.heap.size 44 l0 _ 5 64 Tryz.underlying25 hl0 lz0 lz1 lz2 rfl (by omega) v4 (0+aj) ([]++lmCells atv) rfl own2 b3 j qb3 (lmCells btv) rfl (by rw [lmCells_len,HTL.out]) (lmCells_news hst2) (lmCells_one btv) (by unfold maxLen;omega) (by omega) hsz2 ?_;intro v5 w5 own5 gr5 l5;have b5:=B4.out.grown gr5 hsz2 (fun x hx=>(own2.lt x hx).1);rw [HNJ.out,List.nil_append,← lmCells_app,HLV.out] at own5;obtain ⟨A',c',hv5⟩:=own_slice own5;subst hv5;have OW5:=hd_ (owns_mono own5 RS.out.th.hb.size);have RS3:=hd_ (RS.out.below b5);clear own5 gr5 l5 b5 own2 hst2 hsz2 OW4 B4 RS2 RS1)
             have RS4:Hid (RtS w w5 #[.string afr,.string atn,.slice a1 k qa1,.slice a2 j2 qa2,.slice a3 aj qa3] #[.string atn,.string btn,.slice b1 bn qb1,.slice b2 j3 qb2,.slice b3 j qb3] bo #[.string afr,.string btn,.slice (some ⟨gs,0,none⟩) k c,.slice A3 NR q3,.slice none 0 0] (.slice (some ⟨gs,0,none⟩) k c) k SS (.slice A3 NR q3) NR RR (.slice A' NJ c') NJ LV):=hd_ ⟨⟨RS3.out.th.hb,RS3.out.th.ka,RS3.out.th.kb,RS3.out.th.kz,RS3.out.th.ko,RS3.out.th.os,RS3.out.th.or_,OW5.out,RS3.out.th.lo⟩,RS3.out.k6,RS3.out.lo⟩;clear RS RS3 OW5;refine ⟨⟨RS4.out.th.ka,RS4.out.th.kb⟩,?_⟩;obtain ⟨y0,y1,y2⟩:=RS4.out.th.ko.all;have RS5:=hd_ (RS4.out.set 4 (.slice A' NJ c'));go_upto_region 34 with fail
             clear y0 y1 y2 RS4;generalize w5.setCell ⟨bo,4,none⟩ (.slice A' NJ c')=w6 at *;have hte:=HTE.out;rw [if_neg (by simpa using HALL.out),if_neg (fun h=>h HND.out),HSR.out,HNR.out,show (ats++bts).length=NJ from by rw [List.length_append,HAJ.out,HBJ.out,← HNJ.out];omega] at hte;have HTE2:=hd_ hte;clear hte HTE;obtain ⟨y0,y1,y2⟩:=RS5.out.th.ko.all;obtain ⟨v0,v1,v2⟩:=(show Blk w6 (w.heap.size+1+1+1) 30 #[.string ⟨#[]⟩,.string ⟨#[]⟩,.slice none 0 0,.slice none 0 0,.slice none 0 0] from RS5.out.k6).all;by_cases h1:60<NR
             case pos=>
              have c1:decide ((60:Int)<(NR:Int))=true:=decide_eq_true (by omega);have HFN:=hd_ (HFIN.out 2 (by rw [HTE2.out];rw [if_pos (.inl h1)]) (by decide));have HLX:=hd_ (row_loadG RS5.out.th.kz #[.string ⟨#[]⟩,.string ⟨#[]⟩,.slice none 0 0,.slice none 0 0,.slice none 0 0] rfl);go_upto_region 35 with fail
              clear y0 y1 y2;go_wp2_with (refine wp_rowG rfl (.tmp 4) (.tmp 172) rfl (w.heap.size+1+1) #[.string ⟨#[]⟩,.string ⟨#[]⟩,.slice none 0 0,.slice none 0 0,.slice none 0 0] rfl rfl rfl one5 rfl RS5.out.th.kz ?_)
              exact bodyPost_ret (v:=.tuple #[.agg #[.string ⟨#[]⟩,.string ⟨#[]⟩,.slice none 0 0,.slice none 0 0,.slice none 0 0],.int .i64 2]) (by simp [results,Tryz.results26,asAddr,HLX.out]) rfl (HFN.out _ (below_row RS5.out.th.hb (show w.heap.size≤w.heap.size+1+1 by omega) #[.string ⟨#[]⟩,.string ⟨#[]⟩,.slice none 0 0,.slice none 0 0,.slice none 0 0]))
             have c1:decide ((60:Int)<(NR:Int))=false:=decide_eq_false (by omega);by_cases h2:60<NJ
             case pos=>
              have c2:decide ((60:Int)<(NJ:Int))=true:=decide_eq_true (by omega);have HFN:=hd_ (HFIN.out 2 (by rw [HTE2.out];rw [if_pos (.inr h2)]) (by decide));have HLX:=hd_ (row_loadG RS5.out.th.kz #[.string ⟨#[]⟩,.string ⟨#[]⟩,.slice none 0 0,.slice none 0 0,.slice none 0 0] rfl);go_upto_region 35 with fail
              clear y0 y1 y2;go_wp2_with (refine wp_rowG rfl (.tmp 4) (.tmp 172) rfl (w.heap.size+1+1) #[.string ⟨#[]⟩,.string ⟨#[]⟩,.slice none 0 0,.slice none 0 0,.slice none 0 0] rfl rfl rfl one5 rfl RS5.out.th.kz ?_)
              exact bodyPost_ret (v:=.tuple #[.agg #[.string ⟨#[]⟩,.string ⟨#[]⟩,.slice none 0 0,.slice none 0 0,.slice none 0 0],.int .i64 2]) (by simp [results,Tryz.results26,asAddr,HLX.out]) rfl (HFN.out _ (below_row RS5.out.th.hb (show w.heap.size≤w.heap.size+1+1 by omega) #[.string ⟨#[]⟩,.string ⟨#[]⟩,.slice none 0 0,.slice none 0 0,.slice none 0 0]))
             have c2:decide ((60:Int)<(NJ:Int))=false:=decide_eq_false (by omega);have hte:=HTE2.out;rw [if_neg (by omega)] at hte;have hpo:=fun (hE:thenE ⟨afr,atn,ast,ars,ats⟩ ⟨atn,btn,bst,brs,bts⟩=0) ts=>then_post (W:=w6) (bo:=bo) (gs:=gs) (c:=c) (A3:=A3) (q3:=q3) (A':=A') (c':=c') (n:=k) (nr:=NR) (nj:=NJ) (LV:=LV) (Ca:=#[.string afr,.string atn,.slice a1 k qa1,.slice a2 j2 qa2,.slice a3 aj qa3]) (Cb:=#[.string atn,.string btn,.slice b1 bn qb1,.slice b2 j3 qb2,.slice b3 j qb3]) (C:=#[.string afr,.string btn,.slice (some ⟨gs,0,none⟩) k c,.slice A3 NR q3,.slice A' NJ c']) HH.out HHB.out HBH.out hE ts HAN.out (by rw [HSR.out];exact HNR.out) (by rw [← HLV.out,List.length_append,HTLA.out,HTL.out];have:=HNJ.out;omega) HLV.out;simp only at hpo;have HP:=hd_ (hpo hte (by rw [HSS.out,HSR.out];exact RS5.out.th));have HLY:=hd_ (row_loadG RS5.out.th.kz #[.string afr,.string btn,.slice (some ⟨gs,0,none⟩) k c,.slice A3 NR q3,.slice A' NJ c'] rfl);clear hte hpo h1 h2;go_upto_region 36 with fail
             go_wp2_with (refine wp_rowG rfl (.tmp 4) (.tmp 173) rfl (w.heap.size+1+1) #[.string afr,.string btn,.slice (some ⟨gs,0,none⟩) k c,.slice A3 NR q3,.slice A' NJ c'] rfl rfl rfl one5 rfl RS5.out.th.kz ?_)
             exact bodyPost_ret (v:=.tuple #[.agg #[.string afr,.string btn,.slice (some ⟨gs,0,none⟩) k c,.slice A3 NR q3,.slice A' NJ c'],.int .i64 0]) (by simp [results,Tryz.results26,asAddr,HLY.out]) rfl HP.out
end Go.Proofs.YtknchlpcpgflkaaGreatDoor

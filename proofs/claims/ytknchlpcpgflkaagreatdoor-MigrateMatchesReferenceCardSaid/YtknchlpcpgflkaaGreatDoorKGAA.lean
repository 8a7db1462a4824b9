import Derived.WalkKit
import Derived.Outline
import Derived.WalkSpells
import Derived.WalkLawsBesides
import Derived.Below
import Derived.Laws.OwnMore
import Derived.Deep.AppendLies
import Derived.Deep.Draws
import Derived.Laws.Rows
import Derived.Lib.Hide
import Derived.Test.YtknchlpcpgflkaaGreatDoorProg
import Derived.StillTailTactics
import Derived.IntWalk
set_option maxRecDepth 100000
set_option maxHeartbeats 16000000
namespace Go.Proofs.YtknchlpcpgflkaaGreatDoor
open Go.RowKit
theorem add_of_add (a:Addr) (i j:Nat):(a.add i).add j=a.add (i+j):=by
 unfold Addr.add;by_cases hi:i=0 <;> by_cases hj:j=0 <;> simp [hi,hj,Nat.add_assoc]
def Blk (w:World) (g:Nat) (t:TypeId) (cs:Array Value):Prop:=w.heap[g]? = some (.cells cs t (0,0))
section
variable {w w' : World} {g : Nat} {t : TypeId} {cs : Array Value}
theorem Blk.lt (h:Blk w g t cs):g<w.heap.size:=by
 rcases Nat.lt_or_ge g w.heap.size with hlt | hge
 · exact hlt
 · unfold Blk at h;rw [Array.getElem?_eq_none hge] at h;cases h
theorem Blk.cell (h:Blk w g t cs) (i:Nat):w.cell? ⟨g,i,none⟩=cs[i]?:=cell_of_row w g i cs t (0,0) h
theorem Blk.frozen (h:Blk w g t cs) (i:Nat):w.frozen? ⟨g,i,none⟩=false:=by
 unfold Blk at h;simp [World.frozen?,h]
theorem Blk.all (h:Blk w g t cs):(∀ i,w.cell? ⟨g,i,none⟩=cs[i]?)∧(∀ i,w.frozen? ⟨g,i,none⟩=false)∧g<w.heap.size:=⟨h.cell,h.frozen,h.lt⟩
theorem Blk.new (w:World) (t:TypeId) (cs:Array Value):Blk (w.alloc (.cells cs t)) w.heap.size t cs:=heap_alloc_new w _
theorem Blk.new1 (w:World) (o:Obj) (t:TypeId) (cs:Array Value):Blk ((w.alloc o).alloc (.cells cs t)) (w.heap.size+1) t cs:=by
 have:=Blk.new (w.alloc o) t cs;have e:(w.alloc o).heap.size=w.heap.size+1:=by simp
 rwa [e] at this
theorem Blk.new2 (w:World) (o o':Obj) (t:TypeId) (cs:Array Value):Blk (((w.alloc o).alloc o').alloc (.cells cs t)) (w.heap.size+1+1) t cs:=by
 have:=Blk.new ((w.alloc o).alloc o') t cs;have e:((w.alloc o).alloc o').heap.size=w.heap.size+1+1:=by simp
 rwa [e] at this
theorem Blk.drew (h:Blk w g t cs):Blk w.drew g t cs:=h
theorem Blk.drewN (h:Blk w g t cs) (n:Nat):Blk (w.drewN n) g t cs:=h
theorem Blk.alloc (h:Blk w g t cs) (o:Obj):Blk (w.alloc o) g t cs:=(Below.heap_alloc w o g h.lt).trans h
theorem Blk.set_ (h:Blk w g t cs) (i:Nat) (u:Value):Blk (w.setCell ⟨g,i,none⟩ u) g t (cs.setIfInBounds i u):=by
 unfold Blk at h ⊢;simp [World.setCell,Array.getElem?_modify,h]
theorem Blk.far (h:Blk w g t cs) {p:Addr} (hp:g≠p.block) (u:Value):Blk (w.setCell p u) g t cs:=(Below.heap_setCell w p u g hp).trans h
theorem Blk.below {B:Nat} (h:Blk w g t cs) (hb:Below B w w') (hg:g<B):Blk w' g t cs:=(hb.block g hg).trans h
theorem Blk.grown {row:Option Nat} (h:Blk w g t cs) (hb:w.grownBy w' row) (hg:some g≠row):Blk w' g t cs:=(hb.block g h.lt hg).trans h
theorem Blk.ne_ {g':Nat} {t':TypeId} {cs':Array Value} (h:Blk w g t cs) (h':Blk w g' t' cs') (hne:t≠t'):g≠g':=by
 rintro rfl;unfold Blk at h h';rw [h] at h';injection h' with h';injection h' with _ ht;exact hne ht
end
abbrev Foot:=Nat→Prop
structure Only (F:Foot) (w w':World):Prop where
 os:w'.os=w.os
 tape:w'.tape=w.tape
 output:w'.output=w.output
 size:w.heap.size≤w'.heap.size
 block:∀ i,i<w.heap.size→¬ F i→w'.heap[i]? = w.heap[i]?
namespace Only
variable {F G : Foot} {a w w' w'' : World}
theorem refl (F:Foot) (w:World):Only F w w:=⟨rfl,rfl,rfl,Nat.le_refl _,fun _ _ _=>rfl⟩
theorem trans (h:Only F a w) (k:Only G w w') (hG:∀ i,G i→F i∨a.heap.size≤i):Only F a w':=
 ⟨k.os.trans h.os,k.tape.trans h.tape,k.output.trans h.output,Nat.le_trans h.size k.size,
  fun i hi hn=>(k.block i (Nat.lt_of_lt_of_le hi h.size) (fun hg=>by rcases hG i hg with h1 | h1;exact hn h1;omega)).trans (h.block i hi hn)⟩
theorem mono (h:Only F w w') (hG:∀ i,F i→G i):Only G w w':=⟨h.os,h.tape,h.output,h.size,fun i hi hn=>h.block i hi (fun hf=>hn (hG i hf))⟩
theorem of_below (h:Below w.heap.size w w') (F:Foot):Only F w w':=⟨h.os,h.tape,h.output,h.size,fun i hi _=>h.block i hi⟩
theorem below (h:Only F w w') {B:Nat} (hB:B≤w.heap.size) (hF:∀ i,F i→B≤i):Below B w w':=
 ⟨h.os,h.tape,h.output,h.size,fun i hi=>h.block i (by omega) (fun hf=>by have:=hF i hf;omega)⟩
theorem drew (h:Only F a w):Only F a w.drew:=⟨h.os,h.tape,h.output,h.size,h.block⟩
theorem drewN (h:Only F a w) (n:Nat):Only F a (w.drewN n):=⟨h.os,h.tape,h.output,h.size,h.block⟩
theorem alloc (h:Only F a w) (o:Obj):Only F a (w.alloc o):=
 ⟨h.os,h.tape,h.output,Nat.le_trans h.size (by simp),fun i hi hn=>(Below.heap_alloc w o i (Nat.lt_of_lt_of_le hi h.size)).trans (h.block i hi hn)⟩
theorem setCell (h:Only F a w) {p:Addr} (hp:F p.block∨a.heap.size≤p.block) (u:Value):Only F a (w.setCell p u):=
 ⟨h.os,h.tape,h.output,by simpa [World.setCell] using h.size,fun i hi hn=>(Below.heap_setCell w p u i (by
  rintro rfl;rcases hp with hp | hp
  · exact hn hp
  · omega)).trans (h.block i hi hn)⟩
theorem blk {g:Nat} {t:TypeId} {cs:Array Value} (h:Only F w w') (hb:Blk w g t cs) (hg:¬ F g):Blk w' g t cs:=(h.block g hb.lt hg).trans hb
theorem owns {base:Nat} {e:TypeId} {size:Nat} {v:Value} {n:Nat} {xs:List Value} (h:Only F w w') (ho:w.ownsRow base e size v n xs) (hn:∀ g,v.ownBlock=some g→¬ F g):w'.ownsRow base e size v n xs:=by
 refine ⟨ho.1,?_⟩;rcases ho.2 with h0 | ⟨g,cap,cur,hv,hb,hh,hr⟩
 · exact .inl h0
 · refine .inr ⟨g,cap,cur,hv,hb,?_,hr⟩
   have hlt:g<w.heap.size:=by
    rcases Nat.lt_or_ge g w.heap.size with hlt | hge
    · exact hlt
    · rw [Array.getElem?_eq_none hge] at hh;cases hh
   exact (h.block g hlt (hn g (by rw [hv];rfl))).trans hh
theorem of_grown {row:Option Nat} (h:w.grownBy w' row):Only (fun i=>row=some i) w w':=⟨h.os,h.tape,h.output,h.size,fun i hi hn=>h.block i hi (fun e=>hn e.symm)⟩
end Only
theorem own_blk_ne {w:World} {g:Nat} {t:TypeId} {cs:Array Value} {base:Nat} {e:TypeId} {size n:Nat} {v:Value} {xs:List Value} (h:w.ownsRow base e size v n xs) (hg:Blk w g t cs) (hne:e≠t):v.ownBlock≠some g:=by
 rcases h.2 with ⟨rfl,_⟩ | ⟨g',cap,cur,rfl,_,hh,_⟩
 · simp [Value.ownBlock]
 · intro he
   have:g'=g:=by simpa [Value.ownBlock] using he
   subst this;exact Blk.ne_ (t:=e) hh hg hne rfl
theorem below_drew {w w1:World} (hb:Below w.heap.size w.drew w1):Below w.heap.size w w1:=⟨hb.os,hb.tape,hb.output,hb.size,hb.block⟩
def lpB (y:Int):Bool:=(y % 4 == 0 && !(y % 100 == 0)) || y % 400 == 0
def lp (y:Int):Int:=if lpB y then 1 else 0
def yd (y:Int):Int:=365+lp y
def fb (y:Int):Int:=if lpB y || decide (y<1600) || decide (9999<y) then 29 else 28
def beg (y:Int):Int:=365*(y - 1600)+(y - 1600+3) / 4 - (y - 1600+99) / 100+(y - 1600+399) / 400
def ml (y m:Int):Int:=
 if m=2 then fb y else if m=4∨m=6∨m=9∨m=11 then 30 else 31
def cum (y m:Int):Int:=
 if m≤1 then 0 else if m≤2 then 31 else (if m≤3 then 31 else if m≤4 then 62 else if m≤5 then 92 else if m≤6 then 123 else if m≤7 then 153 else if m≤8 then 184 else if m≤9 then 215 else if m≤10 then 245 else if m≤11 then 276 else if m≤12 then 306 else 337)+fb y
theorem lp_01 (y:Int):lp y=0∨lp y=1:=by unfold lp;split <;> simp
theorem yd_bd (y:Int):365≤yd y∧yd y≤366:=by unfold yd;have:=lp_01 y;omega
theorem fb_bd (y:Int):28≤fb y∧fb y≤29:=by unfold fb;split <;> omega
theorem fb_in {y:Int} (h1:1600≤y) (h2:y≤9999):fb y=28+lp y:=by
 unfold fb lp;have e1:decide (y<1600)=false:=by simpa using h1
 have e2:decide (9999<y)=false:=by simpa using h2
 rw [e1,e2]
 cases lpB y <;> simp
theorem ml_bd (y m:Int):28≤ml y m∧ml y m≤31:=by
 have:=fb_bd y;unfold ml
 split
 · omega
 · split <;> omega
theorem cum_succ (y m:Int) (h1:1≤m) (h2:m≤12):cum y (m+1)=cum y m+ml y m:=by
 have hm:m=1∨m=2∨m=3∨m=4∨m=5∨m=6∨m=7∨m=8∨m=9∨m=10∨m=11∨m=12:=by omega
 rcases hm with rfl | rfl | rfl | rfl | rfl | rfl | rfl | rfl | rfl | rfl | rfl | rfl <;> simp [cum,ml] <;> omega
theorem cum_one (y:Int):cum y 1=0:=by simp [cum]
theorem cum_end {y:Int} (h1:1600≤y) (h2:y≤9999):cum y 13=yd y:=by
 have:=fb_in h1 h2;simp [cum,yd];omega
theorem cum_bd (y m:Int) (h1:1≤m) (h2:m≤13):0≤cum y m∧cum y m≤366:=by
 have:=fb_bd y;have hm:m=1∨m=2∨m=3∨m=4∨m=5∨m=6∨m=7∨m=8∨m=9∨m=10∨m=11∨m=12∨m=13:=by omega
 rcases hm with rfl | rfl | rfl | rfl | rfl | rfl | rfl | rfl | rfl | rfl | rfl | rfl | rfl <;> simp [cum] <;> omega
theorem cum_mono (y a b:Int) (h1:1≤a) (h2:a≤b) (h3:b≤13):cum y a≤cum y b:=by
 obtain ⟨k,rfl⟩:∃ k:Nat,b=a+k:=⟨(b - a).toNat,by omega⟩;clear h2
 induction k with
 | zero=>simp
 | succ k ih=>
  have:=cum_succ y (a+k) (by omega) (by omega);have h:=ih (by omega);have hb:=ml_bd y (a+k);have e:a+((k+1:Nat):Int)=a+k+1:=by omega
  rw [e];omega
theorem lpB_iff (y:Int):lpB y=true↔(y % 4=0∧y % 100≠0)∨y % 400=0:=by simp [lpB]
theorem beg_succ (y:Int):beg (y+1)=beg y+yd y:=by
 unfold beg yd lp;by_cases h:lpB y=true
 · rw [if_pos h]
   have:=(lpB_iff y).1 h;omega
 · rw [if_neg h]
   have:¬ ((y % 4=0∧y % 100≠0)∨y % 400=0):=fun c=>h ((lpB_iff y).2 c);omega
theorem beg_400 (y:Int):beg (y+400)=beg y+146097:=by unfold beg;omega
theorem beg_0:beg 1600=0:=by decide
theorem beg_mono {a b:Int} (h:a≤b):beg a≤beg b:=by
 obtain ⟨k,rfl⟩:∃ k:Nat,b=a+k:=⟨(b - a).toNat,by omega⟩;clear h
 induction k with
 | zero=>simp
 | succ k ih=>
  have h1:=beg_succ (a+k);have h2:=yd_bd (a+k);have e:a+((k+1:Nat):Int)=a+k+1:=by omega
  rw [e];omega
def Vd (y m d:Int):Prop:=1600≤y∧y≤9999∧1≤m∧m≤12∧1≤d∧d≤ml y m
def num (y m d:Int):Int:=beg y+cum y m+(d - 1)
theorem num_in {y m d:Int} (h:Vd y m d):beg y≤num y m d∧num y m d<beg (y+1):=by
 obtain ⟨h1,h2,h3,h4,h5,h6⟩:=h;have a:=cum_bd y m h3 (by omega);have b:=cum_succ y m h3 h4;have c:=cum_mono y (m+1) 13 (by omega) (by omega) (Int.le_refl _);rw [cum_end h1 h2] at c;have e:=beg_succ y;unfold num;omega
theorem num_inj {y m d y' m' d':Int} (h:Vd y m d) (h':Vd y' m' d') (he:num y m d=num y' m' d'):y=y'∧m=m'∧d=d':=by
 have a:=num_in h;have b:=num_in h'
 have hy:y=y':=by
  rcases Int.lt_trichotomy y y' with c | c | c
  · have:=beg_mono (show y+1≤y' by omega)
    omega
  · exact c
  · have:=beg_mono (show y'+1≤y by omega)
    omega
 subst hy;obtain ⟨_,_,h3,h4,h5,h6⟩:=h;obtain ⟨_,_,k3,k4,k5,k6⟩:=h';have c1:=cum_succ y m h3 h4;have c2:=cum_succ y m' k3 k4;unfold num at he
 have hm:m=m':=by
  rcases Int.lt_trichotomy m m' with c | c | c
  · have:=cum_mono y (m+1) m' (by omega) (by omega) (by omega)
    omega
  · exact c
  · have:=cum_mono y (m'+1) m (by omega) (by omega) (by omega)
    omega
 subst hm;exact ⟨rfl,rfl,by omega⟩
theorem year_of (k:Nat):∀ n:Int,0≤n→n<beg (1600+k)→∃ y:Int,1600≤y∧y<1600+k∧beg y≤n∧n<beg (y+1):=by
 induction k with
 | zero=>intro n h1 h2;simp [beg_0] at h2;omega
 | succ k ih=>
  intro n h1 h2;have e:(1600:Int)+((k+1:Nat):Int)=1600+k+1:=by omega
  by_cases h:n<beg (1600+k)
  · obtain ⟨y,a,b,c,d⟩:=ih n h1 h
    exact ⟨y,a,by omega,c,d⟩
  · exact ⟨1600+k,by omega,by omega,by omega,by rw [← e];exact h2⟩
theorem month_of (y r:Int) (k:Nat) (hk:k≤12):0≤r→r<cum y (1+k)→∃ m:Int,1≤m∧m≤12∧cum y m≤r∧r<cum y (m+1):=by
 induction k with
 | zero=>intro h1 h2;simp [cum] at h2;omega
 | succ k ih=>
  intro h1 h2;have e:(1:Int)+((k+1:Nat):Int)=1+k+1:=by omega
  by_cases h:r<cum y (1+k)
  · exact ih (by omega) h1 h
  · exact ⟨1+k,by omega,by omega,by omega,by rw [← e];exact h2⟩
theorem date_of {n:Int} (h0:0≤n) (h1:n≤1000000):∃ y m d:Int,Vd y m d∧num y m d=n∧y≤4400:=by
 have hb:beg (1600+(2800:Nat))=1022679:=by decide
 obtain ⟨y,a,b,c,e⟩:=year_of 2800 n h0 (by rw [hb];omega);have hs:=beg_succ y;have hy:y≤9999:=by omega
 obtain ⟨m,m1,m2,m3,m4⟩:=month_of y (n - beg y) 12 (Nat.le_refl _) (by omega) (by rw [show (1:Int)+((12:Nat):Int)=13 from rfl,cum_end a hy];omega);have hc:=cum_succ y m m1 m2;exact ⟨y,m,n - beg y - cum y m+1,⟨a,hy,m1,m2,by omega,by omega⟩,by unfold num;omega,by omega⟩
def dayS (y m d:Int):Int×Int:=
 if m<1∨12<m∨d<1∨ml y m<d then (0,1) else if y<1600∨9999<y then (0,10) else if 1000000<num y m d then (0,10) else (num y m d,0)
theorem dayS_ok {y m d:Int} (h:(dayS y m d).2=0):Vd y m d∧(dayS y m d).1=num y m d∧0≤num y m d∧num y m d≤1000000:=by
 unfold dayS at h ⊢
 split
 · rename_i h1;rw [if_pos h1] at h;cases h
 · rename_i h1
   split
   · rename_i h2;rw [if_neg h1,if_pos h2] at h;cases h
   · rename_i h2
     split
     · rename_i h3;rw [if_neg h1,if_neg h2,if_pos h3] at h;cases h
     · rename_i h3
       have hv:Vd y m d:=⟨by omega,by omega,by omega,by omega,by omega,by omega⟩;have:=num_in hv;have b0:=beg_mono (show (1600:Int)≤y by omega);rw [beg_0] at b0;exact ⟨hv,rfl,by omega,by omega⟩
open Go.RowKit
theorem tmod_zero (y k:Int):y.tmod k=0↔y % k=0:=by
 rw [← Int.dvd_iff_emod_eq_zero,Int.dvd_iff_tmod_eq_zero]
theorem leap_any (w:World) (y:Int):Calls Tryz.prog 157 #[.int .i64 y] w fun e w'=>e = .returned (.bool (lpB y))∧w=w':=by
 have t4:=tmod_zero y 4;have t100:=tmod_zero y 100;have t400:=tmod_zero y 400;have hl:lpB y=(y % 4 == 0 && !(y % 100 == 0) || y % 400 == 0):=rfl;obtain ⟨r,hr⟩:∃ r,lpB y=r:=⟨_,rfl⟩;rw [hr];rw [hr] at hl;by_cases a:y % 4=0
 · have a1:(y.tmod 4 == 0)=true:=by simpa using t4.2 a
   by_cases b:y % 100=0
   · have b1:(y.tmod 100 != 0)=false:=by simpa using t100.2 b
     by_cases c:y % 400=0
     · have c1:(y.tmod 400 == 0)=true:=by simpa using t400.2 c
       obtain rfl:r=true:=by rw [hl];simp [c]
       clear hl hr t4 t100 t400 a b c;go_enter Tryz.func157,Tryz.ntmps157
       go_wp2
       go_ret
       exact ⟨rfl,rfl⟩
     · have c1:(y.tmod 400 == 0)=false:=by rw [beq_eq_false_iff_ne];exact fun h=>c (t400.1 h)
       obtain rfl:r=false:=by rw [hl];simp [b,c]
       clear hl hr t4 t100 t400 a b c;go_enter Tryz.func157,Tryz.ntmps157
       go_wp2
       go_ret
       exact ⟨rfl,rfl⟩
   · have b1:(y.tmod 100 != 0)=true:=by rw [bne_iff_ne];exact fun h=>b (t100.1 h)
     obtain rfl:r=true:=by rw [hl];simp [a,b]
     clear hl hr t4 t100 t400 a b;go_enter Tryz.func157,Tryz.ntmps157
     go_wp2
     go_ret
     exact ⟨rfl,rfl⟩
 · have a1:(y.tmod 4 == 0)=false:=by rw [beq_eq_false_iff_ne];exact fun h=>a (t4.1 h)
   have c:¬ y % 400=0:=by omega
   have c1:(y.tmod 400 == 0)=false:=by rw [beq_eq_false_iff_ne];exact fun h=>c (t400.1 h)
   obtain rfl:r=false:=by rw [hl];simp [a,c]
   clear hl hr t4 t100 t400 a c;go_enter Tryz.func157,Tryz.ntmps157
   go_wp2
   go_ret
   exact ⟨rfl,rfl⟩
theorem days_any (w:World) (y:Int):Calls Tryz.prog 156 #[.int .i64 y] w fun e w'=>e = .returned (.int .i64 (yd y))∧w=w':=by
 cases hl:lpB y with
 | true=>
  have e:yd y=366:=by unfold yd lp;rw [hl];rfl
  rw [e];have HL:=Lib.hid hl;clear hl e;go_enter Tryz.func156,Tryz.ntmps156
  go_wp2_with fail
  refine (leap_any _ y).mono ?_;rintro e w1 ⟨rfl,rfl⟩;rw [HL.out];go_wp2
  go_ret
  exact ⟨rfl,rfl⟩
 | false=>
  have e:yd y=365:=by unfold yd lp;rw [hl];rfl
  rw [e];have HL:=Lib.hid hl;clear hl e;go_enter Tryz.func156,Tryz.ntmps156
  go_wp2_with fail
  refine (leap_any _ y).mono ?_;rintro e w1 ⟨rfl,rfl⟩;rw [HL.out];go_wp2
  go_ret
  exact ⟨rfl,rfl⟩
def isB (n:Int):Bool:=decide (0≤n∧n≤1000000)
theorem isB_iff (n:Int):isB n=true↔0≤n∧n≤1000000:=by simp [isB]
theorem is_any (w:World) (n:Int):Calls Tryz.prog 85 #[.int .i64 n] w fun e w'=>e = .returned (.bool (isB n))∧w=w':=by
 by_cases h0:0≤n
 · by_cases h1:n≤1000000
   · rw [(isB_iff n).2 ⟨h0,h1⟩]
     go_enter Tryz.func85,Tryz.ntmps85
     go_wp2
     go_ret
     exact ⟨rfl,rfl⟩
   · have e:isB n=false:=by simp [isB];omega
     rw [e];clear e;go_enter Tryz.func85,Tryz.ntmps85
     go_wp2
     go_ret
     exact ⟨rfl,rfl⟩
 · have e:isB n=false:=by simp [isB];omega
   rw [e];clear e;go_enter Tryz.func85,Tryz.ntmps85
   go_wp2
   go_ret
   exact ⟨rfl,rfl⟩
def wkd (n:Int):Int:=if isB n then (n+5) % 7 else -1
theorem weekday_any (w:World) (n:Int):Calls Tryz.prog 135 #[.int .i64 n] w fun e w'=>e = .returned (.int .i64 (wkd n))∧w=w':=by
 cases hl:isB n with
 | true=>
  have e:wkd n=(n+5) % 7:=by unfold wkd;rw [hl];rfl
  rw [e];obtain ⟨h0,h1⟩:=(isB_iff n).1 hl;have HL:=Lib.hid hl;clear hl e;go_enter Tryz.func135,Tryz.ntmps135
  go_wp2_with fail
  refine (is_any _ n).mono ?_;rintro e w1 ⟨rfl,rfl⟩;rw [HL.out];go_wp2
  go_ret
  exact ⟨rfl,rfl⟩
 | false=>
  have e:wkd n = -1:=by unfold wkd;rw [hl];rfl
  rw [e];have HL:=Lib.hid hl;clear hl e;go_enter Tryz.func135,Tryz.ntmps135
  go_wp2_with fail
  refine (is_any _ n).mono ?_;rintro e w1 ⟨rfl,rfl⟩;rw [HL.out];go_wp2
  go_ret
  exact ⟨rfl,rfl⟩
def lens (y:Int):Value:=.agg #[.int .i64 31,.int .i64 (fb y),.int .i64 31,.int .i64 30,.int .i64 31,.int .i64 30,.int .i64 31,.int .i64 31,.int .i64 30,.int .i64 31,.int .i64 30,.int .i64 31]
theorem months_any (w:World) (y:Int):Calls Tryz.prog 137 #[.int .i64 y] w fun e w'=>e = .returned (lens y)∧Below w.heap.size w w':=by
 unfold lens
 cases hl:lpB y with
 | true=>
  have e:fb y=29:=by unfold fb;rw [hl];rfl
  rw [e];have HL:=Lib.hid hl;clear hl e;go_enter Tryz.func137,Tryz.ntmps137
  go_wp2_with fail
  refine (leap_any _ y).mono ?_;rintro e w1 ⟨rfl,rfl⟩;rw [HL.out];go_wp2
  refine bodyPost_ret (v:=.agg #[.int .i64 31,.int .i64 29,.int .i64 31,.int .i64 30,.int .i64 31,.int .i64 30,.int .i64 31,.int .i64 31,.int .i64 30,.int .i64 31,.int .i64 30,.int .i64 31]) (by simp [results,Tryz.results137,go_sem]) rfl ⟨rfl,?_⟩;exact ((Below.refl _ _).alloc (Nat.le_refl _) _).alloc (by simp) _
 | false=>
  have HL:=Lib.hid hl;by_cases h0:y<1600
  · have e:fb y=29:=by unfold fb;rw [hl,show decide (y<1600)=true by simpa using h0];rfl
    rw [e];clear hl e;go_enter Tryz.func137,Tryz.ntmps137
    go_wp2_with fail
    refine (leap_any _ y).mono ?_;rintro e w1 ⟨rfl,rfl⟩;rw [HL.out];go_wp2
    refine bodyPost_ret (v:=.agg #[.int .i64 31,.int .i64 29,.int .i64 31,.int .i64 30,.int .i64 31,.int .i64 30,.int .i64 31,.int .i64 31,.int .i64 30,.int .i64 31,.int .i64 30,.int .i64 31]) (by simp [results,Tryz.results137,go_sem]) rfl ⟨rfl,?_⟩;exact ((Below.refl _ _).alloc (Nat.le_refl _) _).alloc (by simp) _
  · by_cases h1:9999<y
    · have e:fb y=29:=by unfold fb;rw [hl,show decide (9999<y)=true by simpa using h1];simp
      rw [e];clear hl e;go_enter Tryz.func137,Tryz.ntmps137
      go_wp2_with fail
      refine (leap_any _ y).mono ?_;rintro e w1 ⟨rfl,rfl⟩;rw [HL.out];go_wp2
      refine bodyPost_ret (v:=.agg #[.int .i64 31,.int .i64 29,.int .i64 31,.int .i64 30,.int .i64 31,.int .i64 30,.int .i64 31,.int .i64 31,.int .i64 30,.int .i64 31,.int .i64 30,.int .i64 31]) (by simp [results,Tryz.results137,go_sem]) rfl ⟨rfl,?_⟩;exact ((Below.refl _ _).alloc (Nat.le_refl _) _).alloc (by simp) _
    · have e:fb y=28:=by unfold fb;rw [hl,show decide (9999<y)=false by simpa using h1,show decide (y<1600)=false by simpa using h0];rfl
      rw [e];clear hl e;go_enter Tryz.func137,Tryz.ntmps137
      go_wp2_with fail
      refine (leap_any _ y).mono ?_;rintro e w1 ⟨rfl,rfl⟩;rw [HL.out];go_wp2
      refine bodyPost_ret (v:=.agg #[.int .i64 31,.int .i64 28,.int .i64 31,.int .i64 30,.int .i64 31,.int .i64 30,.int .i64 31,.int .i64 31,.int .i64 30,.int .i64 31,.int .i64 30,.int .i64 31]) (by simp [results,Tryz.results137,go_sem]) rfl ⟨rfl,?_⟩;exact ((Below.refl _ _).alloc (Nat.le_refl _) _).alloc (by simp) _
theorem begin_any (w:World) (y:Int) (h0:1600≤y) (h1:y≤9999):Calls Tryz.prog 158 #[.int .i64 y] w fun e w'=>e = .returned (.int .i64 (beg y))∧w=w':=by
 have hbb:=beg_mono h1;have hbe:beg 9999=3067672:=by decide
 rw [hbe] at hbb;clear hbe;go_enter Tryz.func158,Tryz.ntmps158
 go_wp2_with fail
 go_loop [3,4] (fun n v=>∃ x:Int,1600≤x∧x≤y∧v = .int .i64 x∧n = .int .i64 (beg x)) (fun _ v=>(y - intOf v).toNat)
 case atStart=>exact ⟨1600,by omega,h0,rfl,by rw [beg_0]⟩
 case round=>
  obtain ⟨x,hx0,hx1,rfl,rfl⟩:=hrel;have hb0:=beg_mono hx0;rw [beg_0] at hb0;have hb1:=beg_mono hx1;by_cases hlt:x<y
  · by_cases hc:x % 400=0∧x+400≤y
    · obtain ⟨hc1,hc2⟩:=hc
      have hcb:(x % 400 == 0)=true:=by simpa using hc1
      have HS:=Lib.hid (beg_400 x);generalize beg x=bx at *;clear hc1;go_wp2
      go_round
      case rel=>exact ⟨x+400,by omega,hc2,rfl,by rw [HS.out]⟩
      case measure=>simp [intOf];omega
    · have HS:=Lib.hid (beg_succ x)
      have hyd:=yd_bd x;generalize beg x=bx at *;by_cases hc1:x % 400=0
      · have hc2:¬ x+400≤y:=fun h=>hc ⟨hc1,h⟩
        have hcb:(x % 400 == 0)=true:=by simpa using hc1
        clear hc hc1;go_wp2_with fail
        refine (days_any _ x).mono ?_;rintro e w1 ⟨rfl,rfl⟩;generalize yd x=yx at *;go_wp2
        go_round
        case rel=>exact ⟨x+1,by omega,by omega,rfl,by rw [HS.out]⟩
        case measure=>simp [intOf];omega
      · have hcb:(x % 400 == 0)=false:=by simpa using hc1
        clear hc hc1;go_wp2_with fail
        refine (days_any _ x).mono ?_;rintro e w1 ⟨rfl,rfl⟩;generalize yd x=yx at *;go_wp2
        go_round
        case rel=>exact ⟨x+1,by omega,by omega,rfl,by rw [HS.out]⟩
        case measure=>simp [intOf];omega
  · obtain rfl:x=y:=by omega
    go_wp2
    go_ret
    exact ⟨rfl,rfl⟩
def lensA (y:Int):Array Value:=#[.int .i64 31,.int .i64 (fb y),.int .i64 31,.int .i64 30,.int .i64 31,.int .i64 30,.int .i64 31,.int .i64 31,.int .i64 30,.int .i64 31,.int .i64 30,.int .i64 31]
theorem lens_at (y:Int) (k:Nat) (hk:k<12):(lensA y)[k]? = some (.int .i64 (ml y (k+1))):=by
 have hm:k=0∨k=1∨k=2∨k=3∨k=4∨k=5∨k=6∨k=7∨k=8∨k=9∨k=10∨k=11:=by omega
 rcases hm with rfl | rfl | rfl | rfl | rfl | rfl | rfl | rfl | rfl | rfl | rfl | rfl <;> simp [lensA,ml]
theorem run_lens (W:World) (y m:Int) (h1:1≤m) (h2:m≤12):(Instr.index 175 (lens y) (.int .i64 (m - 1))).run Tryz.prog W = .ok (.int .i64 (ml y m)) W:=by
 have hm:m=1∨m=2∨m=3∨m=4∨m=5∨m=6∨m=7∨m=8∨m=9∨m=10∨m=11∨m=12:=by omega
 rcases hm with rfl | rfl | rfl | rfl | rfl | rfl | rfl | rfl | rfl | rfl | rfl | rfl <;> simp [Instr.index,lens,ml,go_sem]
theorem run_lens_slice (W:World) (g k:Nat) (h:k≤12):(Instr.sliceAt 175 (.pointer (some ⟨g,0,none⟩)) none (some (.int .i64 (k:Int))) none).run Tryz.prog W = .ok (.slice (some ⟨g,0,none⟩) k 12) W:=by
 have ht:Tryz.prog.underlying 175=some (.array (Tryz.prog.arrayLen 175) (Tryz.prog.elem 175)):=by kernel_rfl
 have hl:Tryz.prog.arrayLen 175=12:=by kernel_rfl
 rw [run_sliceAt_array_h (P:=Tryz.prog) W 175 _ ht .i64 (k:Int) (by omega) (by rw [hl];omega)];rw [hl];have hs:(sizeOf (Tryz.prog.elem 175)).run Tryz.prog W = .ok 1 W:=by kernel_rfl
 rw [hs];simp [Result.andThen,slicedAt];unfold Addr.add;simp
theorem dayS_arg {y m d:Int} (h:m<1∨12<m∨d<1∨ml y m<d):dayS y m d=(0,1):=by unfold dayS;rw [if_pos h]
theorem dayS_rng {y m d:Int} (h:¬ (m<1∨12<m∨d<1∨ml y m<d)) (h2:y<1600∨9999<y):dayS y m d=(0,10):=by unfold dayS;rw [if_neg h,if_pos h2]
theorem day_any (w:World) (y m d:Int):Calls Tryz.prog 138 #[.int .i64 y,.int .i64 m,.int .i64 d] w fun e w'=>e = .returned (.tuple #[.int .i64 (dayS y m d).1,.int .i64 (dayS y m d).2])∧Below w.heap.size w w':=by
 by_cases h1:m<1
 · rw [dayS_arg (.inl h1)]
   go_enter Tryz.func138,Tryz.ntmps138
   go_wp2
   go_ret2
   exact ⟨rfl,Below.refl _ _⟩
 by_cases h2:12<m
 · rw [dayS_arg (.inr (.inl h2))]
   go_enter Tryz.func138,Tryz.ntmps138
   go_wp2
   go_ret2
   exact ⟨rfl,Below.refl _ _⟩
 by_cases h3:d<1
 · rw [dayS_arg (.inr (.inr (.inl h3)))]
   go_enter Tryz.func138,Tryz.ntmps138
   go_wp2
   go_ret2
   exact ⟨rfl,Below.refl _ _⟩
 have hm1:1≤m:=by omega
 have hm2:m≤12:=by omega
 have hd1:1≤d:=by omega
 have rl:∀ W:World,(Instr.index 175 (lens y) (.int .i64 (m - 1))).run Tryz.prog W = .ok (.int .i64 (ml y m)) W:=fun W=>run_lens W y m hm1 hm2;by_cases h4:ml y m<d
 · rw [dayS_arg (.inr (.inr (.inr h4)))]
   generalize ml y m=q at *;clear h1 h2 h3;go_enter Tryz.func138,Tryz.ntmps138
   go_wp2_with fail
   refine (months_any _ y).mono ?_;rintro e w1 ⟨rfl,hb⟩;go_wp2
   go_ret2
   exact ⟨rfl,hb⟩
 have hml:=ml_bd y m;by_cases h5:y<1600
 · rw [dayS_rng (by omega) (.inl h5)]
   generalize ml y m=q at *;clear h1 h2 h3;go_enter Tryz.func138,Tryz.ntmps138
   go_wp2_with fail
   refine (months_any _ y).mono ?_;rintro e w1 ⟨rfl,hb⟩;go_wp2
   go_ret2
   exact ⟨rfl,hb⟩
 by_cases h6:9999<y
 · rw [dayS_rng (by omega) (.inr h6)]
   generalize ml y m=q at *;clear h1 h2 h3;go_enter Tryz.func138,Tryz.ntmps138
   go_wp2_with fail
   refine (months_any _ y).mono ?_;rintro e w1 ⟨rfl,hb⟩;go_wp2
   go_ret2
   exact ⟨rfl,hb⟩
 have hv:Vd y m d:=⟨by omega,by omega,hm1,hm2,hd1,by omega⟩;have hnum:=num_in hv;have hb0:=beg_mono (show (1600:Int)≤y by omega);rw [beg_0] at hb0;have hb1:=beg_mono (show y≤9999 by omega);have hb9:beg 9999=3067672:=by decide
 rw [hb9] at hb1;have hcm:=cum_bd y m hm1 (by omega);have hc1:=Lib.hid (cum_one y);have hcs:=Lib.hid (fun (k:Int) (h1:1≤k) (h2:k≤12)=>cum_succ y k h1 h2);have hcb:=Lib.hid (fun (k:Int) (h1:1≤k) (h2:k≤13)=>cum_bd y k h1 h2);have hmb:=Lib.hid (fun (k:Int)=>ml_bd y k);have HN:=Lib.hid (show num y m d=beg y+d - 1+cum y m by unfold num;omega)
 have HD:Hid (dayS y m d=if 1000000<num y m d then (0,10) else (num y m d,0)):=by
  have:dayS y m d=if 1000000<num y m d then (0,10) else (num y m d,0):=by
   unfold dayS;rw [if_neg (by omega),if_neg (by omega)]
  exact Lib.hid this
 clear hnum hb9 hv h1 h2 h3;obtain ⟨k12,rfl⟩:∃ k:Nat,m=(k:Int)+1:=⟨(m - 1).toNat,by omega⟩;have hk12:k12<12:=by omega
 have rs:∀ (g:Nat) (W:World),(Instr.sliceAt 175 (.pointer (some ⟨g,0,none⟩)) none (some (.int .i64 (k12:Int))) none).run Tryz.prog W = .ok (.slice (some ⟨g,0,none⟩) k12 12) W:=fun g W=>run_lens_slice W g k12 (by omega);have em:((k12:Int)+1 - 1)=(k12:Int):=by omega
 rw [em] at rl;clear em;have HL:=Lib.hid (fun (j:Nat) (h:j<12)=>lens_at y j h);generalize ml y ((k12:Int)+1)=q at *;go_enter Tryz.func138,Tryz.ntmps138
 go_wp2_with fail
 refine (months_any _ y).mono ?_;rintro e w1 ⟨rfl,hb⟩;go_wp2_with fail
 refine (begin_any _ y (by omega) (by omega)).mono ?_;rintro e w2 ⟨rfl,rfl⟩;go_wp2_with fail
 refine (months_any _ y).mono ?_;rintro e w2 ⟨rfl,hb2⟩;unfold lens;clear rl;have hbl:Blk (w2.alloc (.cells (lensA y) 175)) w2.heap.size 175 (lensA y):=Blk.new w2 _ _;have hbw:Below w.heap.size w (w2.alloc (.cells (lensA y) 175)):=(hb.trans (hb2.mono hb.size)).alloc (by have:=hb.size;have:=hb2.size;omega) _;unfold lensA at hbl hbw;go_wp2_with fail
 have hbl':∀ j:Nat,j<12→(w2.alloc (.cells #[.int .i64 31,.int .i64 (fb y),.int .i64 31,.int .i64 30,.int .i64 31,.int .i64 30,.int .i64 31,.int .i64 31,.int .i64 30,.int .i64 31,.int .i64 30,.int .i64 31] 175)).cell? ⟨w2.heap.size,j,none⟩=some (.int .i64 (ml y (j+1))):=fun j hj=>by
  rw [hbl.cell j];exact HL.out j hj
 have HBL:=Lib.hid hbl';clear hbl hbl' hb hb2;generalize w2.alloc (.cells #[.int .i64 31,.int .i64 (fb y),.int .i64 31,.int .i64 30,.int .i64 31,.int .i64 30,.int .i64 31,.int .i64 31,.int .i64 30,.int .i64 31,.int .i64 30,.int .i64 31] 175)=w3 at *;generalize w2.heap.size=gl at *;go_loop [8,48] (fun n v=>∃ j:Nat,j≤k12∧v = .int .i64 (j:Int)∧n = .int .i64 (beg y+d - 1+cum y (j+1))) (fun _ v=>k12 - (intOf v).toNat)
 case atStart=>exact ⟨0,Nat.zero_le _,rfl,by rw [show ((0:Nat):Int)+1=1 from rfl,hc1.out,Int.add_zero]⟩
 case round=>
  obtain ⟨j,hj,rfl,rfl⟩:=hrel;have hcj:=hcb.out ((j:Int)+1) (by omega) (by omega);have hmj:=hmb.out ((j:Int)+1);by_cases hlt:j<k12
  · have hcell:=HBL.out j (by omega)
    have HS:=Lib.hid (hcs.out ((j:Int)+1) (by omega) (by omega));generalize cum y ((j:Int)+1)=cj at *;generalize ml y ((j:Int)+1)=mj at *;go_wp2
    go_round
    case rel=>exact ⟨j+1,by omega,by go_num,by rw [show (((j+1:Nat):Int)+1)=(j:Int)+1+1 by omega,HS.out];go_num⟩
    case measure=>simp [intOf];omega
  · obtain rfl:k12=j:=by omega
    have hnn:=HN.out;generalize hC:cum y ((k12:Int)+1)=cj at *;clear hC;generalize num y ((k12:Int)+1) d=nn at *;subst hnn;by_cases hi:beg y+d - 1+cj≤1000000
    · have hI:isB (beg y+d - 1+cj)=true:=(isB_iff _).2 ⟨by omega,hi⟩
      have HI:=Lib.hid hI;have HD2:=Lib.hid (show dayS y ((k12:Int)+1) d=(beg y+d - 1+cj,0) by rw [HD.out,if_neg (by omega)]);clear hI;go_wp2_with fail
      refine (is_any _ _).mono ?_;rintro e w4 ⟨rfl,rfl⟩;rw [HI.out];go_wp2
      go_ret2
      exact ⟨by rw [HD2.out];rfl,hbw⟩
    · have hI:isB (beg y+d - 1+cj)=false:=by simp [isB];omega
      have HI:=Lib.hid hI;have HD2:=Lib.hid (show dayS y ((k12:Int)+1) d=(0,10) by rw [HD.out,if_pos (by omega)]);clear hI;go_wp2_with fail
      refine (is_any _ _).mono ?_;rintro e w4 ⟨rfl,rfl⟩;rw [HI.out];go_wp2
      go_ret2
      exact ⟨by rw [HD2.out];rfl,hbw⟩
theorem beg_400s (q:Int):beg (1600+q*400)=q*146097:=by unfold beg;omega
theorem year_is {x y n:Int} (h1:beg x≤n) (h2:n<beg (x+1)) (h3:beg y≤n) (h4:n<beg (y+1)):x=y:=by
 rcases Int.lt_trichotomy x y with c | c | c
 · have:=beg_mono (show x+1≤y by omega)
   omega
 · exact c
 · have:=beg_mono (show y+1≤x by omega)
   omega
theorem year_le {x y n:Int} (h1:beg x≤n) (h4:n<beg (y+1)):x≤y:=by
 rcases Int.lt_or_le y x with c | c
 · have:=beg_mono (show y+1≤x by omega)
   omega
 · exact c
theorem month_le {y a b r:Int} (h1:cum y a≤r) (h2:r<cum y (b+1)) (hb:1≤b) (ha:a≤13):a≤b:=by
 rcases Int.lt_or_le b a with c | c
 · have:=cum_mono y (b+1) a (by omega) (by omega) ha
   omega
 · exact c
theorem date_yes (w:World) (y m d:Int) (hv:Vd y m d) (hn:num y m d≤1000000):Calls Tryz.prog 136 #[.int .i64 (num y m d)] w fun e w'=>e = .returned (.tuple #[.int .i64 y,.int .i64 m,.int .i64 d,.int .i64 0])∧Below w.heap.size w w':=by
 obtain ⟨hnb,hne⟩:=num_in hv;have hv':=hv;obtain ⟨y1,y2,m1,m2,d1,d2⟩:=hv';have hb0:=beg_mono y1;rw [beg_0] at hb0
 have hmr:cum y m≤num y m d - beg y∧num y m d - beg y<cum y (m+1):=by
  have:=cum_succ y m m1 m2;unfold num;omega
 have hdd:num y m d - beg y - cum y m+1=d:=by unfold num;omega
 have HDD:=Lib.hid hdd;clear hv hdd d2;generalize num y m d=n at *;have HI:=Lib.hid ((isB_iff n).2 ⟨by omega,hn⟩);have h0:0≤n:=by omega
 have hq:=beg_400s (n / 146097);have HQ:=Lib.hid hq;have hx0:(1600:Int)+n / 146097*400≤y:=year_le (n:=n) (by rw [hq];omega) hne;have HNE:=Lib.hid hne;have HNB:=Lib.hid hnb;have HMR:=Lib.hid hmr;clear hq;go_enter Tryz.func136,Tryz.ntmps136
 go_wp2_with fail
 refine (is_any _ _).mono ?_;rintro e w4 ⟨rfl,rfl⟩;rw [HI.out];go_wp2_with fail
 go_loop [0,6] (fun v u=>∃ x r:Int,1600≤x∧x≤y∧0≤r∧r≤146096∧Hid (beg x+r=n)∧u = .int .i64 x∧v = .int .i64 r) (fun _ u=>(y - intOf u).toNat)
 case atStart=>exact ⟨1600+n / 146097*400,n % 146097,by omega,hx0,by omega,by omega,Lib.hid (by rw [HQ.out];omega),rfl,rfl⟩
 case round=>
  obtain ⟨x,r,hx1,hx2,hr1,hr2,hr3,rfl,rfl⟩:=hrel;have hbs:=Lib.hid (beg_succ x);have hyd:=yd_bd x;by_cases hc:yd x≤r
  · have hxy:x<y:=by
     have:=year_le (x:=x+1) (y:=y) (n:=n) (by rw [hbs.out];have:=hr3.out;omega) HNE.out;omega
    go_wp2_with fail
    refine (days_any _ x).mono ?_;rintro e w1 ⟨rfl,rfl⟩;go_wp2_with fail
    refine (days_any _ x).mono ?_;rintro e w1 ⟨rfl,rfl⟩;go_wp2
    go_round
    case rel=>exact ⟨x+1,r - yd x,by omega,by omega,by omega,by omega,Lib.hid (by rw [hbs.out];have:=hr3.out;omega),rfl,rfl⟩
    case measure=>simp [intOf];omega
  · have hxy:x=y:=year_is (n:=n) (by have:=hr3.out;omega) (by rw [hbs.out];have:=hr3.out;omega) HNB.out HNE.out
    subst hxy;go_wp2_with fail
    refine (days_any _ x).mono ?_;rintro e w1 ⟨rfl,rfl⟩;go_wp2_with fail
    refine (months_any _ x).mono ?_;rintro e w1 ⟨rfl,hb⟩;unfold lens;go_wp2_with fail
    have hbl:Blk (w1.alloc (.cells (lensA x) 175)) w1.heap.size 175 (lensA x):=Blk.new w1 _ _;have hbw:Below w.heap.size w (w1.alloc (.cells (lensA x) 175)):=hb.alloc hb.size _;have hcs:=Lib.hid (fun (k:Int) (h1:1≤k) (h2:k≤12)=>cum_succ x k h1 h2);have hc1:=Lib.hid (cum_one x);have hr400:r≤366:=by omega
    have hr4:Hid (r=n - beg x - cum x (((0:Nat):Int)+1)):=Lib.hid (by rw [show ((0:Nat):Int)+1=1 from rfl,hc1.out];have:=hr3.out;omega);have hmm:=Lib.hid (fun (k:Int)=>ml_bd x k);clear hb hr2 hmr hne hnb HI HQ hbs;go_loopw [0,7,8] (fun v u p wr=>∃ (k g:Nat) (r2:Int),(k:Int)+1≤m∧0≤r2∧r2≤366∧Hid (r2=n - beg x - cum x ((k:Int)+1))∧u = .int .i64 (k:Int)∧v = .int .i64 r2∧p = .pointer (some ⟨g,0,none⟩)∧Blk wr g 175 (lensA x)∧Below w.heap.size w wr) (fun _ u _ _=>12 - (intOf u).toNat)
    case atStart=>exact ⟨0,w1.heap.size,r,by omega,hr1,hr400,hr4,rfl,rfl,rfl,hbl,hbw⟩
    case round=>
     clear hbl hbw hr4;obtain ⟨k,g,r2,hkm,hr20,hr21,hr2,rfl,rfl,rfl,hbl,hbw⟩:=hrel;have hmk:=hmm.out ((k:Int)+1);have hcell:wr.cell? ⟨g,k,none⟩=some (.int .i64 (ml x ((k:Int)+1))):=by rw [hbl.cell k];exact lens_at x k (by omega)
     have l0:wr.cell? ⟨g,0,none⟩=some (.int .i64 31):=by rw [hbl.cell 0];rfl
     have l1:wr.cell? ⟨g,1,none⟩=some (.int .i64 (fb x)):=by rw [hbl.cell 1];rfl
     have l2:wr.cell? ⟨g,2,none⟩=some (.int .i64 31):=by rw [hbl.cell 2];rfl
     have l3:wr.cell? ⟨g,3,none⟩=some (.int .i64 30):=by rw [hbl.cell 3];rfl
     have l4:wr.cell? ⟨g,4,none⟩=some (.int .i64 31):=by rw [hbl.cell 4];rfl
     have l5:wr.cell? ⟨g,5,none⟩=some (.int .i64 30):=by rw [hbl.cell 5];rfl
     have l6:wr.cell? ⟨g,6,none⟩=some (.int .i64 31):=by rw [hbl.cell 6];rfl
     have l7:wr.cell? ⟨g,7,none⟩=some (.int .i64 31):=by rw [hbl.cell 7];rfl
     have l8:wr.cell? ⟨g,8,none⟩=some (.int .i64 30):=by rw [hbl.cell 8];rfl
     have l9:wr.cell? ⟨g,9,none⟩=some (.int .i64 31):=by rw [hbl.cell 9];rfl
     have l10:wr.cell? ⟨g,10,none⟩=some (.int .i64 30):=by rw [hbl.cell 10];rfl
     have l11:wr.cell? ⟨g,11,none⟩=some (.int .i64 31):=by rw [hbl.cell 11];rfl
     have hstep:=Lib.hid (hcs.out ((k:Int)+1) (by omega) (by omega));have hkI:(k:Int)<12:=by omega
     by_cases hc2:ml x ((k:Int)+1)≤r2
     · have hkm2:(k:Int)+1+1≤m:=month_le (y:=x) (r:=n - beg x) (by rw [hstep.out];have:=hr2.out;omega) HMR.out.2 m1 (by omega)
       generalize ml x ((k:Int)+1)=mk at *;have hnew:Blk (wr.alloc (.cells (lensA x) 175)) wr.heap.size 175 (lensA x):=Blk.new wr _ _;have hbw':Below w.heap.size w (wr.alloc (.cells (lensA x) 175)):=hbw.alloc hbw.size _;go_wp2
       go_roundw
       case rel=>exact ⟨k+1,wr.heap.size,r2 - mk,by omega,by omega,by omega,Lib.hid (by rw [show (((k+1:Nat):Int)+1)=(k:Int)+1+1 by omega,hstep.out];have:=hr2.out;omega),by go_num,rfl,rfl,hnew,hbw'⟩
       case measure=>simp [intOf];omega
     · have hkm2:m≤(k:Int)+1:=month_le (y:=x) (r:=n - beg x) HMR.out.1 (by rw [hstep.out];have:=hr2.out;omega) (by omega) (by omega)
       obtain rfl:m=(k:Int)+1:=by omega
       have hd:r2+1=d:=by have:=HDD.out;have:=hr2.out;omega
       generalize ml x ((k:Int)+1)=mk at *;subst hd;clear l0 l1 l2 l3 l4 l5 l6 l7 l8 l9 l10 l11;go_wp2
       refine bodyPost_ret (v:=.tuple #[.int .i64 x,.int .i64 ((k:Int)+1),.int .i64 (r2+1),.int .i64 0]) (by simp [results,Tryz.results136,go_sem]) rfl ⟨rfl,hbw⟩
theorem hd_ {p : Prop} (h : p) : RowKit.Hid p := h
end Go.Proofs.YtknchlpcpgflkaaGreatDoor
